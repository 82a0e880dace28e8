/- ClosedTurn: for every input the law returns true, and each argument reads as it read before. No further condition. Part 7 of 8. -/
import Derived.Test.YthmnlfenkhmmhaaGreatTw6
namespace Go.Proofs.YthmnlfenkhmmhaaGreat
noncomputable section
open List (length map)
open IntKind (i64)
open Go.Proofs.Tryz
set_option linter.unusedSimpArgs false
set_option linter.unusedVariables false
set_option linter.unusedSectionVars false
variable [Flo]
def ShL(l:List Tx):Prop:=l.length≤100/\∀t∈l,t.length≤25
theorem ShL.add{l:List Tx}{t:Tx}(h:l.length≤99/\∀t∈l,t.length≤25)(ht:t.length≤25):ShL (l++[t]):=
 ⟨by simp;omega,λx hx=>by
  rcases Qq.1 hx with h1 |h1
  .exact h.2 x h1
  .rw [Q4.1 h1];exact ht⟩
theorem ShL.drop{l:List Tx}(h:ShL l):ShL l.dropLast:=⟨by rw [List.length_dropLast];have:=h.1;omega,λx hx=>h.2 x (List.dropLast_subset l hx)⟩
def Xg(e:Tx)(s:List Tx)(b:Bool):Tx×List Tx×Bool:=match s.getLast? with |some t=>(t,s.dropLast,b) |none=>(e,s,true)
theorem WQ(e:Tx)(s:List Tx)(t:Tx)(b:Bool):Xg e (s++[t]) b=(t,s,b):=by simp [Xg]
theorem W1(s:List Tx):s=[]∨∃r t,s=r++[t]:=by
 rcases List.eq_nil_or_concat s with h |⟨r,t,h⟩
 .exact .inl h
 .exact .inr ⟨r,t,by simpa using h⟩
theorem ZA{e:Tx}{s:List Tx}{b:Bool}(h:ShL s)(he:e.length≤25):(Xg e s b).1.length≤25/\ShL (Xg e s b).2.1:=by
 rcases W1 s with rfl |⟨r,t,rfl⟩
 .exact ⟨he,h⟩
 .rw [WQ];refine ⟨h.2 t (by simp),⟨?_,λx hx=>h.2 x (by simp [hx])⟩⟩;have:=h.1;simp at this;show r.length≤100;omega
theorem Gf{e:Tx}{s:List Tx}{b:Bool}(h:b=true):(Xg e s b).2.2=true:=by
 unfold Xg;split <;> simp [h]
section
variable {l L : List za} {m : List (Tx × Int)} {c : Tx} {mt : zb} {loc stk : List Tx} {b : Bool}
theorem G3(hs:stk.length≤1000):Kt L m c mt loc stk b=some (Xg [84] stk b):=by
 unfold Kt
 rcases W1 stk with rfl |⟨r,t,rfl⟩
 .rfl
 .have hl:((r++[t]).length:Int)=(r.length:Int)+1:=by simp
  have h0:(((r++[t]).length:Int) == 0)=false:=beq_eq_false_iff_ne.2 (by omega)
  have hw:i64.wrap (((r++[t]).length:Int)-1)=(r.length:Int):=by
   rw [hl,ZZ (by omega) (by simp at hs;omega)];omega
  rw [h0,hw,WQ,zt]
  have h1:(r++[t])[r.length]?=some t:=by simp
  have h2:XJ (r++[t]) 0 (r.length:Int)=some r:=by
   unfold XJ;rw [if_pos ⟨by omega,by omega,by omega⟩];simp
  rw [h1,h2];rfl
theorem ZP{t:Tx}(hs:stk.length≤1000):zG L m c mt loc stk b t=some (stk++[t]):=by
 unfold zG Xx;rw [if_pos (by simp;omega)];rfl
theorem ztA{x:List Tx}(hs:x.length≤1000):Hy x=some x:=by
 unfold Hy Xx;rw [if_pos (by simp;omega)];rfl
def Xl(L:List za)(e:Tx):List Tx->List Tx->Bool->List Tx×Bool
 | [],s,b=>(s,b)
 |w ::r,s,b=>Xl L e r (Xg e s b).2.1 ((Xg e s b).2.2||!X4 L (Xg e s b).1 w)
theorem Z3{e:Tx}(he:e.length≤25):∀(ts s:List Tx) (b:Bool),ShL s->ShL (Xl L e ts s b).1:=by
 intro ts
 induction ts with
 |nil=>intro s b h;exact h
 |cons w r ih=>intro s b h;exact ih _ _ (ZA h he).2
theorem Zw{e:Tx}:∀(ts s:List Tx) (b:Bool),b=true->(Xl L e ts s b).2=true:=by
 intro ts
 induction ts with
 |nil=>intro s b h;exact h
 |cons w r ih=>intro s b h;exact ih _ _ (by rw [Gf h];rfl)
theorem zFt(h:Xi l L)(hm:Xu L m){ts:List Tx}(ht:ShL ts):∀(k:Nat),k≤ts.length->∀(s:List Tx) (b:Bool),ShL s ->
  zp (λz=>H5 L m c mt loc ts z.1 z.2.1 z.2.2) (s,b,(k:Int)-1)=some (.inl (Xl L [84] (ts.take k).reverse s b)):=by
 intro k
 induction k with
 |zero =>
  intro _ s b hs;rw [zK];show (H5 L m c mt loc ts s b (((0:Nat):Int)-1)).bind _=_;unfold H5;rw [decide_eq_false (by omega)];rfl
 |succ k ih =>
  intro hk s b hs;rw [zK];show (H5 L m c mt loc ts s b (((k+1:Nat):Int)-1)).bind _=_
  have e1:(((k+1:Nat):Int)-1)=(k:Int):=by omega
  have hlt:k<ts.length:=by omega
  obtain ⟨h1,h2⟩:=ZA (b:=b) hs (e:=[84]) (by decide);have hw:i64.wrap ((k:Int)-1)=(k:Int)-1:=ZZ (by omega) (by have:=ht.1;omega)
  have step:H5 L m c mt loc ts s b (((k+1:Nat):Int)-1)=some (.inl ((Xg [84] s b).2.1,(Xg [84] s b).2.2||!X4 L (Xg [84] s b).1 ts[k],(k:Int)-1)):=by
   unfold H5;rw [e1,decide_eq_true (by omega),zt,Qe hlt,G3 (by have:=hs.1;omega)];simp only [cond_true,Qa];rw [zq6 h hm h1 (ht.2 _ (Qh hlt)),hw];rfl
  rw [step];simp only [Qa,JV];rw [show zp (λz=>H5 L m c mt loc ts z.1 z.2.1 z.2.2) ((Xg [84] s b).2.1,(Xg [84] s b).2.2||!X4 L (Xg [84] s b).1 ts[k],(k:Int)-1)=_ from ih (by omega) _ _ h2]
  have e2:(ts.take (k+1)).reverse=ts[k]::(ts.take k).reverse:=by
   rw [Yp,Qe hlt];simp
  rw [e2];rfl
theorem Z2(h:Xi l L)(hm:Xu L m){ts:List Tx}(ht:ShL ts)(hs:ShL stk):zN L m c mt loc stk b ts=some (Xl L [84] ts.reverse stk b):=by
 unfold zN;have hw:i64.wrap ((ts.length:Int)-1)=(ts.length:Int)-1:=ZZ (by omega) (by have:=ht.1;omega);rw [hw,show zp (λz=>H5 L m c mt loc ts z.1 z.2.1 z.2.2) (stk,b,(ts.length:Int)-1)=_ from zFt h hm ht ts.length (Qk _) stk b hs,Yz];rfl
end
theorem sh1{t:Tx}(h:t.length≤25):ShL [t]:=⟨by simp,λx hx=>by rw [Q4.1 hx];exact h⟩
theorem sh2{t u:Tx}(h:t.length≤25)(k:u.length≤25):ShL [t,u]:=⟨by simp,λx hx=>by
 rcases Qr.1 hx with rfl |hx
 .exact h
 .rw [Q4.1 hx];exact k⟩
theorem sh3{t u v:Tx}(h:t.length≤25)(k:u.length≤25)(j:v.length≤25):ShL [t,u,v]:=⟨by simp,λx hx=>by
 rcases Qr.1 hx with rfl |hx
 .exact h
 .exact (sh2 k j).2 x hx⟩
theorem ShL.len{l:List Tx}(h:ShL l):l.length≤1000:=by have:=h.1;omega
theorem Wv{t:Tx}(h:t.length≤25):Len t:=by
 show t.length≤9223372036854775807;omega
section
variable {l L : List za} {m : List (Tx × Int)} {c : Tx} {mt : zb} {loc stk : List Tx} {b : Bool}
def Xv(e:Tx)(s:List Tx)(b:Bool):Tx×List Tx×Bool:=
 ((Xg e s b).1,(Xg e s b).2.1,(Xg e s b).2.2||!(((Xg e s b).1 == [78])||Zv (Xg e s b).1))
theorem zun{e:Tx}{s:List Tx}{b:Bool}(h:ShL s)(he:e.length≤25):(Xv e s b).1.length≤25/\ShL (Xv e s b).2.1:=ZA h he
theorem BV(hs:ShL stk):D8 L m c mt loc stk b=some (Xv [84] stk b):=by
 unfold D8 Xv;obtain ⟨h1,h2⟩:=ZA (b:=b) hs (e:=[84]) (by decide);rw [G3 hs.len];simp only [Qa];rw [zl4 (Wv h1)];cases (Xg [84] stk b).1 == [78] <;> rfl
def XP(e:Tx)(s:List Tx)(b:Bool):Tx×List Tx×Bool:=
 (cond ((Xg e s b).1 == [78]) (Xg e s b).1 (Zi (Xg e s b).1).1,(Xg e s b).2.1,(Xg e s b).2.2||!(((Xg e s b).1 == [78])||((Zi (Xg e s b).1).2&&!((Zi (Xg e s b).1).1 == [73]))))
theorem zz4{t:Tx}(h:t.length≤25):(Zi t).1.length≤25:=by
 unfold Zi;cases Xs t&&brk t
 .exact QW _
 .show (t.drop 1).length≤25;simp;omega
theorem zwa{e:Tx}{s:List Tx}{b:Bool}(h:ShL s)(he:e.length≤25):(XP e s b).1.length≤25/\ShL (XP e s b).2.1:=by
 obtain ⟨h1,h2⟩:=ZA (b:=b) h he;refine ⟨?_,h2⟩;unfold XP;cases (Xg e s b).1 == [78]
 .exact zz4 h1
 .exact h1
theorem zw7(hs:ShL stk):zeu L m c mt loc stk b=some (XP [84] stk b):=by
 unfold zeu XP;obtain ⟨h1,h2⟩:=ZA (b:=b) hs (e:=[84]) (by decide);rw [G3 hs.len];simp only [Qa];rw [OY (Wv h1)];cases (Xg [84] stk b).1 == [78] <;> rfl
theorem KF(e f:Tx)(s:List Tx)(b:Bool):(Xg e s b).2=(Xg f s b).2:=by
 unfold Xg;split <;> rfl
theorem GL(e f:Tx)(s:List Tx)(b:Bool)(h:(Xg e s b).2.2=false):(Xg e s b).1=(Xg f s b).1:=by
 unfold Xg at h ⊢;split
 .rfl
 .rename_i hq;rw [hq] at h;cases h
theorem Iu{a p q:Bool}(h:a=false->p=q):(a||p)=(a||q):=by
 cases a
 .rw [h rfl]
 .rfl
theorem ZN(e f:Tx):∀(ts s:List Tx) (b:Bool),Xl L e ts s b=Xl L f ts s b:=by
 intro ts
 induction ts with
 |nil=>intro s b;rfl
 |cons w r ih =>
  intro s b;show Xl L e r (Xg e s b).2.1 ((Xg e s b).2.2||!X4 L (Xg e s b).1 w)=Xl L f r (Xg f s b).2.1 ((Xg f s b).2.2||!X4 L (Xg f s b).1 w);rw [ih,<-KF e f s b,Iu (λh=>by rw [GL e f s b h])]
theorem zD4(e f:Tx)(s:List Tx)(b:Bool):(Xv e s b).2=(Xv f s b).2:=by
 unfold Xv;rw [<-KF e f s b,Iu (λh=>by rw [GL e f s b h])]
theorem zy4(e f:Tx)(s:List Tx)(b:Bool)(h:(Xv e s b).2.2=false):(Xv e s b).1=(Xv f s b).1:=
 GL e f s b (by unfold Xv at h;simp only [Qo] at h;exact h.1)
theorem zDE(e f:Tx)(s:List Tx)(b:Bool):(XP e s b).2=(XP f s b).2:=by
 unfold XP;rw [<-KF e f s b,Iu (λh=>by rw [GL e f s b h])]
theorem zyp(e f:Tx)(s:List Tx)(b:Bool)(h:(XP e s b).2.2=false):(XP e s b).1=(XP f s b).1:=by
 have h1:(Xg e s b).2.2=false:=by unfold XP at h;simp only [Qo] at h;exact h.1
 unfold XP;rw [GL e f s b h1]
end
section
variable {l L : List za} {c : Tx} {mt : zb} {loc stk : List Tx} {b : Bool}
theorem GG(hs:stk.length≤1000):U8 L c mt loc stk b=some (Xg [78] stk b):=by
 unfold U8
 rcases W1 stk with rfl |⟨r,t,rfl⟩
 .rfl
 .have hl:((r++[t]).length:Int)=(r.length:Int)+1:=by simp
  have h0:(((r++[t]).length:Int) == 0)=false:=beq_eq_false_iff_ne.2 (by omega)
  have hw:i64.wrap (((r++[t]).length:Int)-1)=(r.length:Int):=by
   rw [hl,ZZ (by omega) (by simp at hs;omega)];omega
  rw [h0,hw,WQ,zt]
  have h1:(r++[t])[r.length]?=some t:=by simp
  have h2:XJ (r++[t]) 0 (r.length:Int)=some r:=by
   unfold XJ;rw [if_pos ⟨by omega,by omega,by omega⟩];simp
  rw [h1,h2];rfl
theorem zDc(h:Xi l L){ts:List Tx}(ht:ShL ts):∀(k:Nat),k≤ts.length->∀(s:List Tx) (b:Bool),ShL s ->
  zp (λz=>H7 L c mt loc ts z.1 z.2.1 z.2.2) (s,b,(k:Int)-1)=some (.inl (Xl L [78] (ts.take k).reverse s b)):=by
 intro k
 induction k with
 |zero =>
  intro _ s b hs;rw [zK];show (H7 L c mt loc ts s b (((0:Nat):Int)-1)).bind _=_;unfold H7;rw [decide_eq_false (by omega)];rfl
 |succ k ih =>
  intro hk s b hs;rw [zK];show (H7 L c mt loc ts s b (((k+1:Nat):Int)-1)).bind _=_
  have e1:(((k+1:Nat):Int)-1)=(k:Int):=by omega
  have hlt:k<ts.length:=by omega
  obtain ⟨h1,h2⟩:=ZA (b:=b) hs (e:=[78]) (by decide);have hw:i64.wrap ((k:Int)-1)=(k:Int)-1:=ZZ (by omega) (by have:=ht.1;omega)
  have step:H7 L c mt loc ts s b (((k+1:Nat):Int)-1)=some (.inl ((Xg [78] s b).2.1,(Xg [78] s b).2.2||!X4 L (Xg [78] s b).1 ts[k],(k:Int)-1)):=by
   unfold H7;rw [e1,decide_eq_true (by omega),zt,Qe hlt,GG hs.len];simp only [cond_true,Qa];rw [OA h h1 (ht.2 _ (Qh hlt)),hw];rfl
  rw [step];simp only [Qa,JV];rw [show zp (λz=>H7 L c mt loc ts z.1 z.2.1 z.2.2) ((Xg [78] s b).2.1,(Xg [78] s b).2.2||!X4 L (Xg [78] s b).1 ts[k],(k:Int)-1)=_ from ih (by omega) _ _ h2]
  have e2:(ts.take (k+1)).reverse=ts[k]::(ts.take k).reverse:=by
   rw [Yp,Qe hlt];simp
  rw [e2];rfl
theorem Ug(h:Xi l L){ts:List Tx}(ht:ShL ts)(hs:ShL stk):z6 L c mt loc stk b ts=some (Xl L [78] ts.reverse stk b):=by
 unfold z6;have hw:i64.wrap ((ts.length:Int)-1)=(ts.length:Int)-1:=ZZ (by omega) (by have:=ht.1;omega);rw [hw,show zp (λz=>H7 L c mt loc ts z.1 z.2.1 z.2.2) (stk,b,(ts.length:Int)-1)=_ from zDc h ht ts.length (Qk _) stk b hs,Yz];rfl
def Zr(most:Int)(s:List Tx)(b:Bool)(t:Tx):List Tx×Bool:=(s++[t],b||!decide (((s++[t]).length:Int)≤most))
theorem ZO{t:Tx}(hs:stk.length≤1000):zW L c mt loc stk b t=some (Zr mt.Stack stk b t):=by
 unfold zW Zr Xx;rw [if_pos (by simp;omega)];simp only [JR,Qa];rw [if_pos (by simp;omega)];rfl
def UV(s:List Tx)(b:Bool):Tx×List Tx×Bool:=((Xg [78] s b).1,(Xg [78] s b).2.1,(Xg [78] s b).2.2||!(!((Xg [78] s b).1 == [73])))
theorem WM(hs:ShL stk):Hh L c mt loc stk b=some (UV stk b):=by
 unfold Hh;rw [GG hs.len];rfl
theorem zz0{p q:List Tx}(hp:p.length≤1000)(hq:q.length≤1000):D7 (GK.mk p q)=some (p,q):=by
 unfold D7 Xx;simp only;rw [if_pos (by simp;omega),if_pos (by simp;omega)];rfl
end
def Zm(most:Int)(p r:List Tx×List Tx×Bool):Prop:=
 (p.2.2||!decide ((p.2.1.length:Int)≤most))=r.2.2/\(r.2.2=false->p.1=r.1/\p.2.1=r.2.1)
section
variable {L : List za} {most : Int} {loc s : List Tx} {b : Bool}
theorem Uy(t:Tx):Zm most (loc,s++[t],b) (loc,(Zr most s b t).1,(Zr most s b t).2):=⟨rfl,λ_=>⟨rfl,rfl⟩⟩
theorem zvN(t u:Tx):Zm most (loc,s++[t]++[u],b) (loc,(Zr most (Zr most s b t).1 (Zr most s b t).2 u).1,(Zr most (Zr most s b t).1 (Zr most s b t).2 u).2):=by
 refine ⟨?_,λ_=>⟨rfl,rfl⟩⟩;show (b||!decide (((s++[t]++[u]).length:Int)≤most))=((b||!decide (((s++[t]).length:Int)≤most))||!decide (((s++[t]++[u]).length:Int)≤most));by_cases h:((s++[t]++[u]).length:Int)≤most
 .have h2:((s++[t]).length:Int)≤most:=by simp at h ⊢;omega
  rw [decide_eq_true h,decide_eq_true h2];simp
 .rw [decide_eq_false h];simp
theorem KI(h:b=false->(s.length:Int)≤most):Zm most (loc,s,b) (loc,s,b):=by
 refine ⟨?_,λ_=>⟨rfl,rfl⟩⟩;show (b||!decide ((s.length:Int)≤most))=b
 cases b with
 |true=>rfl
 |false=>rw [decide_eq_true (h rfl)];rfl
theorem Kl{p r:List Tx×List Tx×Bool}(hp:p.2.2=true)(hr:r.2.2=true):Zm most p r:=
 ⟨by rw [hp,hr];rfl,λh=>by rw [hr] at h;cases h⟩
theorem It(e:Tx)(s:List Tx)(b:Bool):(Xg e s b).2.1.length≤s.length:=by
 rcases W1 s with rfl |⟨r,t,rfl⟩
 .exact Qk _
 .rw [WQ];simp
theorem DI(e:Tx):∀(ts s:List Tx) (b:Bool),(Xl L e ts s b).1.length≤s.length:=by
 intro ts
 induction ts with
 |nil=>intro s b;exact Qk _
 |cons w r ih=>intro s b;exact QD (ih _ _) (It e s b)
theorem zBB(e w w':Tx)(s:List Tx)(b:Bool):Xl L e [w,w'] s b=Xl L e [w'] (Xl L e [w] s b).1 (Xl L e [w] s b).2:=rfl
end
def onS(t:Tx):Prop:=t=[78]∨Xs t=true
theorem zpO{s:List Tx}{b:Bool}(h:∀t∈s,onS t):(UV s b).2=(Xv [84] s b).2/\((UV s b).2.2=false->(UV s b).1=(Xv [84] s b).1):=by
 have key:(UV s b).2=(Xv [78] s b).2:=by
  unfold UV Xv
  rcases W1 s with rfl |⟨r,t,rfl⟩
  .rfl
  .rw [WQ];have ht:=h t (by simp);show (r,b||!(!(t == [73])))=(r,b||!((t == [78])||Zv t))
   rcases ht with rfl |ht
   .rfl
   .unfold Zv;rw [ht]
    have:(t == [78])=false:=beq_eq_false_iff_ne.2 λe=>by rw [e,zE0] at ht;cases ht
    rw [this];cases t == [73] <;> rfl
 refine ⟨key.trans (zD4 [78] [84] s b),λhf=>?_⟩
 have:(UV s b).2.2=(Xv [84] s b).2.2:=by rw [key,zD4 [78] [84] s b]
 rw [this] at hf;exact (zy4 [84] [78] s b hf).symm
def Dh(t:Tx):Prop:=t.length≤25/\onS t
theorem Uu:Dh [73]:=⟨by decide,.inr (by decide +kernel)⟩
theorem zCo:Dh [78]:=⟨by decide,.inl rfl⟩
theorem BN{t:Tx}(h:Xs t=true)(hl:t.length≤25):Dh t:=⟨hl,.inr h⟩
def X0(loc stk:List Tx)(b:Bool)(p:List Tx×List Tx×Bool):Prop:=
 (b=true->p.2.2=true) /\
 (p.1.length=loc.length/\p.2.1.length≤stk.length+2/\(∀t∈p.1,t.length≤25)/\∀t∈p.2.1,t.length≤25) /\
 (p.2.2=false->(∀t∈p.2.1,t∈stk∨Dh t)/\∀t∈p.1,t∈loc∨t∈stk)
theorem Ge(e:Tx)(s:List Tx)(b:Bool):(Xg e s b).2.1<+:s:=by
 rcases W1 s with rfl |⟨r,t,rfl⟩
 .exact QS _
 .rw [WQ];exact List.prefix_append _ _
theorem DC{e:Tx}{s:List Tx}{b:Bool}(h:(Xg e s b).2.2=false):(Xg e s b).1∈s:=by
 rcases W1 s with rfl |⟨r,t,rfl⟩
 .cases h
 .rw [WQ];simp
theorem WO(e:Tx)(s:List Tx)(b:Bool):(Xv e s b).2.1<+:s:=Ge e s b
theorem zw6(e:Tx)(s:List Tx)(b:Bool):(XP e s b).2.1<+:s:=Ge e s b
theorem Og{e:Tx}{s:List Tx}{b:Bool}(h:b=true):(Xv e s b).2.2=true:=by unfold Xv;rw [Gf h];rfl
theorem zw5{e:Tx}{s:List Tx}{b:Bool}(h:b=true):(XP e s b).2.2=true:=by unfold XP;rw [Gf h];rfl
theorem UA(L:List za)(e:Tx):∀(ts s:List Tx) (b:Bool),(Xl L e ts s b).1<+:s:=by
 intro ts
 induction ts with
 |nil=>intro s b;exact QS _
 |cons w r ih=>intro s b;exact (ih _ _).trans (Ge e s b)
section
variable {L : List za} {loc stk s : List Tx} {b0 b : Bool}
theorem KK(hb0:b0=true->b=true)(hl:ShL loc)(hs:ShL stk)(h:s<+:stk):X0 loc stk b0 (loc,s,b):=
 ⟨hb0,⟨rfl,by have:=h.length_le;show s.length≤_;omega,hl.2,λt ht=>hs.2 t (h.subset ht)⟩,λ_=>⟨λt ht=>.inl (h.subset ht),λt ht=>.inl ht⟩⟩
theorem Uh{u:Tx}(hb0:b0=true->b=true)(hl:ShL loc)(hs:ShL stk)(h:s<+:stk)(h1:u.length≤25)(hu:b=false->u∈stk∨Dh u):X0 loc stk b0 (loc,s++[u],b):=
 ⟨hb0,⟨rfl,by have:=h.length_le;show (s++[u]).length≤_;simp;omega,hl.2,λt ht=>by
  rcases Qq.1 ht with k |k
  .exact hs.2 t (h.subset k)
  .rw [Q4.1 k];exact h1⟩,λhb=>⟨λt ht=>by
  rcases Qq.1 ht with k |k
  .exact .inl (h.subset k)
  .rw [Q4.1 k];exact hu hb,λt ht=>.inl ht⟩⟩
theorem zu5{u v:Tx}(hb0:b0=true->b=true)(hl:ShL loc)(hs:ShL stk)(h:s<+:stk)(h1:u.length≤25)(hu:b=false->u∈stk∨Dh u)(h2:v.length≤25)(hv:b=false->v∈stk∨Dh v):X0 loc stk b0 (loc,s++[u]++[v],b):=
 ⟨hb0,⟨rfl,by have:=h.length_le;show (s++[u]++[v]).length≤_;simp;omega,hl.2,λt ht=>by
  rcases Qq.1 ht with k |k
  .rcases Qq.1 k with k |k
   .exact hs.2 t (h.subset k)
   .rw [Q4.1 k];exact h1
  .rw [Q4.1 k];exact h2⟩,λhb=>⟨λt ht=>by
  rcases Qq.1 ht with k |k
  .rcases Qq.1 k with k |k
   .exact .inl (h.subset k)
   .rw [Q4.1 k];exact hu hb
  .rw [Q4.1 k];exact hv hb,λt ht=>.inl ht⟩⟩
theorem ztb{k:Nat}{u:Tx}(hb0:b0=true->b=true)(hl:ShL loc)(hs:ShL stk)(h:s<+:stk)(h1:u.length≤25)(hu:b=false->u∈stk):X0 loc stk b0 (loc.set k u,s,b):=
 ⟨hb0,⟨Ji ..,by have:=h.length_le;show s.length≤_;omega,λt ht=>by
  rcases Ym ht with k |rfl
  .exact hl.2 t k
  .exact h1,λt ht=>hs.2 t (h.subset ht)⟩,λhb=>⟨λt ht=>.inl (h.subset ht),λt ht=>by
  rcases Ym ht with k |rfl
  .exact .inl k
  .exact .inr (hu hb)⟩⟩
end
theorem bt{n a b:Int}(h:a≤n/\n≤b):UC n a b=true:=by
 unfold UC;rw [decide_eq_true h.1,decide_eq_true h.2];rfl
theorem bf{n a b:Int}(h:¬(a≤n/\n≤b)):UC n a b=false:=by
 unfold UC;rw [JE,decide_eq_false_iff_not,decide_eq_false_iff_not];omega
theorem ct{n a b:Int}(h:a≤n/\n≤b):(decide (a≤n)&&decide (n≤b))=true:=bt h
theorem cf{n a b:Int}(h:¬(a≤n/\n≤b)):(decide (a≤n)&&decide (n≤b))=false:=bf h
theorem qt{n k:Int}(h:n=k):(n == k)=true:=by rw [h];exact beq_self_eq_true k
theorem qf{n k:Int}(h:n≠k):(n == k)=false:=beq_eq_false_iff_ne.2 h
structure XL(l L:List za)(m:List (Tx×Int))(mt:zb)(loc stk:List Tx)(b:Bool):Prop where
 made:Xi l L
 map:Xu L m
 lens:XE L
 shL:ShL loc
 shS:ShL stk
 on:∀t∈stk,onS t
 room:(stk.length:Int)≤mt.Stack
 onL:∀t∈loc,t=[84]∨onS t
section
variable {l L : List za} {m : List (Tx × Int)} {c : Tx} {mt : zb} {loc stk : List Tx} {b : Bool} {x : zr}
theorem zzc(h:XL l L m mt loc stk b)(ho:8≤x.Op/\x.Op≤19):
  ∃p r,zg L m c mt loc stk b x=some p/\zk L c mt loc stk b x=some r/\Zm mt.Stack p r/\X0 loc stk b p:=by
 have h73:([73]:Tx).length≤25:=by decide
 by_cases hn:x.Op=13
 .refine ⟨(loc,(Xl L [84] [[73]] stk b).1++[[73]],(Xl L [84] [[73]] stk b).2),_,?_,?_,Uy _,Uh (Zw _ _ _) h.shL h.shS (UA _ _ _ _ _) (by decide) λ_=>.inr Uu⟩
  .unfold zg;rw [bf (by omega),qt hn,Z2 h.made h.map (sh1 h73) h.shS];simp only [cond_false,cond_true,Qa,Qw];rw [ZP (Z3 (by decide) _ _ _ h.shS).len];rfl
  .unfold zk;rw [ct ho,Ug h.made (sh1 h73) h.shS,qt hn];simp only [cond_false,cond_true,Qa,Qw,Qt];unfold zdX;rw [ZO (Z3 (by decide) _ _ _ h.shS).len,ZN [78] [84]];rfl
 .refine ⟨(loc,(Xl L [84] [[73],[73]] stk b).1++[[73]],(Xl L [84] [[73],[73]] stk b).2),_,?_,?_,Uy _,Uh (Zw _ _ _) h.shL h.shS (UA _ _ _ _ _) (by decide) λ_=>.inr Uu⟩
  .unfold zg;rw [bf (by omega),qf hn,bt ho,Z2 h.made h.map (sh2 h73 h73) h.shS];simp only [cond_false,cond_true,Qa];rw [show ([[73],[73]]:List Tx).reverse=[[73],[73]] from rfl,ZP (Z3 (by decide) _ _ _ h.shS).len];rfl
  .unfold zk;have hs:=Z3 (L:=L) (e:=[78]) (by decide) [[73]] stk b h.shS;rw [ct ho,Ug h.made (sh1 h73) h.shS,qf hn];simp only [cond_false,cond_true,Qa,Qw,QL];rw [Ug h.made (sh1 h73) hs];simp only [Qa,Qw];unfold zdX;rw [ZO (Z3 (by decide) _ _ _ hs).len];rw [<-zBB,ZN [78] [84]];rfl
theorem instr_plain(h1:¬(8≤x.Op/\x.Op≤45))(h2:¬(49≤x.Op/\x.Op≤55)):zk L c mt loc stk b x=(z2 L c mt loc stk b x).bind λv=>some (v.1,v.2.1,v.2.2):=by
 unfold zk;rw [cf (by omega),cf (by omega),qf (show x.Op≠20 by omega),cf (by omega),cf (by omega),cf (by omega)];rfl
theorem WS(h:1≤x.Op/\x.Op≤7):zg L m c mt loc stk b x=(Hm L m c mt loc stk b x).bind λv=>some (v.1,v.2.1,v.2.2):=by
 unfold zg;rw [bt h];rfl
theorem IF(h:56≤x.Op/\x.Op≤61):zg L m c mt loc stk b x=(Wc L m c mt loc stk b x).bind λv=>some (loc,v.1,v.2):=by
 unfold zg;rw [bf (by omega),qf (by omega),bf (by omega),qf (by omega),bf (by omega),bf (by omega),bf (by omega),bf (by omega),qf (by omega),bf (by omega),bf (by omega),bf (by omega),bf (by omega)];rfl
theorem zzd(h:XL l L m mt loc stk b)(ho:x.Op=1∨x.Op=2):
  ∃p r,zg L m c mt loc stk b x=some p/\zk L c mt loc stk b x=some r/\Zm mt.Stack p r/\X0 loc stk b p:=by
 rcases ho with ho |ho
 .refine ⟨(loc,stk++[[73]],b),_,?_,?_,Uy _,Uh id h.shL h.shS (QS _) (by decide) λ_=>.inr Uu⟩
  .rw [WS (by omega)];unfold Hm;rw [qt ho,ZP h.shS.len];rfl
  .rw [instr_plain (by omega) (by omega)];unfold z2;rw [qt ho,ZO h.shS.len];rfl
 .refine ⟨(loc,stk++[[78]],b),_,?_,?_,Uy _,Uh id h.shL h.shS (QS _) (by decide) λ_=>.inr zCo⟩
  .rw [WS (by omega)];unfold Hm;rw [qf (show x.Op≠1 by omega),qt ho];simp only [cond_false,cond_true];rw [ZP h.shS.len];rfl
  .rw [instr_plain (by omega) (by omega)];unfold z2;rw [qf (show x.Op≠1 by omega),qt ho];simp only [cond_false,cond_true];rw [ZO h.shS.len];rfl
theorem zDq(h:XL l L m mt loc stk b)(ho:x.Op=5):
  ∃p r,zg L m c mt loc stk b x=some p/\zk L c mt loc stk b x=some r/\Zm mt.Stack p r/\X0 loc stk b p:=by
 obtain ⟨g1,g2⟩:=ZA (b:=b) h.shS (e:=[84]) (by decide);obtain ⟨k1,k2⟩:=ZA (b:=b) h.shS (e:=[78]) (by decide)
 .refine ⟨(loc,(Xg [84] stk b).2.1,(Xg [84] stk b).2.2),(loc,(Xg [84] stk b).2.1,(Xg [84] stk b).2.2),?_,?_,KI λ_=>?_,KK Gf h.shL h.shS (Ge _ _ _)⟩
  .rw [WS (by omega)];unfold Hm;rw [qf (show x.Op≠1 by omega),qf (show x.Op≠2 by omega),qf (show x.Op≠3 by omega),qf (show x.Op≠4 by omega),qt ho];simp only [cond_false,cond_true];rw [G3 h.shS.len];rfl
  .rw [instr_plain (by omega) (by omega)];unfold z2;rw [qf (show x.Op≠1 by omega),qf (show x.Op≠2 by omega),qf (show x.Op≠3 by omega),qf (show x.Op≠4 by omega),qt ho];simp only [cond_false,cond_true];rw [GG h.shS.len,KF [84] [78]];rfl
  .have:=It [84] stk b;have:=h.room;omega
end
section
variable {l L : List za} {m : List (Tx × Int)} {c : Tx} {mt : zb} {loc stk : List Tx} {b : Bool} {x : zr}
theorem ID{most:Int}{s:List Tx}{b:Bool}{t:Tx}(h:b=true):(Zr most s b t).2=true:=by
 unfold Zr;rw [h];rfl
theorem zDn(h:XL l L m mt loc stk b)(ho:x.Op=6):
  ∃p r,zg L m c mt loc stk b x=some p/\zk L c mt loc stk b x=some r/\Zm mt.Stack p r/\X0 loc stk b p:=by
 obtain ⟨g1,g2⟩:=ZA (b:=b) h.shS (e:=[84]) (by decide);obtain ⟨k1,k2⟩:=ZA (b:=b) h.shS (e:=[78]) (by decide)
 refine ⟨(loc,(Xg [84] stk b).2.1++[(Xg [84] stk b).1]++[(Xg [84] stk b).1],(Xg [84] stk b).2.2),
  (loc,(Zr mt.Stack (Zr mt.Stack (Xg [78] stk b).2.1 (Xg [78] stk b).2.2 (Xg [78] stk b).1).1 (Zr mt.Stack (Xg [78] stk b).2.1 (Xg [78] stk b).2.2 (Xg [78] stk b).1).2 (Xg [78] stk b).1).1,
   (Zr mt.Stack (Zr mt.Stack (Xg [78] stk b).2.1 (Xg [78] stk b).2.2 (Xg [78] stk b).1).1 (Zr mt.Stack (Xg [78] stk b).2.1 (Xg [78] stk b).2.2 (Xg [78] stk b).1).2 (Xg [78] stk b).1).2),?_,?_,?_,zu5 Gf h.shL h.shS (Ge _ _ _) g1 (λhb=>.inl (DC hb)) g1 λhb=>.inl (DC hb)⟩
 .rw [WS (by omega)];unfold Hm;rw [qf (show x.Op≠1 by omega),qf (show x.Op≠2 by omega),qf (show x.Op≠3 by omega),qf (show x.Op≠4 by omega),qf (show x.Op≠5 by omega),qt ho];simp only [cond_false,cond_true];rw [G3 h.shS.len];simp only [Qa];rw [ZP g2.len];simp only [Qa];rw [ZP (by have:=g2.1;simp;omega)];rfl
 .rw [instr_plain (by omega) (by omega)];unfold z2;rw [qf (show x.Op≠1 by omega),qf (show x.Op≠2 by omega),qf (show x.Op≠3 by omega),qf (show x.Op≠4 by omega),qf (show x.Op≠5 by omega),qt ho];simp only [cond_false,cond_true];rw [GG h.shS.len];simp only [Qa];rw [ZO k2.len];simp only [Qa];rw [ZO (by have:=k2.1;show ((Xg [78] stk b).2.1++[(Xg [78] stk b).1]).length≤1000;simp;omega)];rfl
 .cases hb:(Xg [84] stk b).2.2 with
  |true =>
   refine Kl rfl ?_
   have:(Xg [78] stk b).2.2=true:=by rw [<-KF [84] [78]];exact hb
   exact ID (ID this)
  |false =>
   have e1:=GL [84] [78] stk b hb;have e2:=KF [84] [78] stk b;rw [<-e1,<-e2,hb];exact zvN _ _
theorem zxV{e:Tx}{s:List Tx}{b:Bool}(h:(Xg e s b).2.2=false):b=false:=by
 cases b with
 |false=>rfl
 |true=>rw [Gf rfl] at h;cases h
theorem zBv(h:XL l L m mt loc stk b)(ho:x.Op=7):
  ∃p r,zg L m c mt loc stk b x=some p/\zk L c mt loc stk b x=some r/\Zm mt.Stack p r/\X0 loc stk b p:=by
 obtain ⟨g1,g2⟩:=ZA (b:=b) h.shS (e:=[84]) (by decide);obtain ⟨k1,k2⟩:=ZA (b:=b) h.shS (e:=[78]) (by decide);generalize hP:Xg [84] stk b=P at g1 g2;generalize hR:Xg [78] stk b=R at k1 k2;obtain ⟨g3,g4⟩:=ZA (b:=P.2.2) g2 (e:=[84]) (by decide);obtain ⟨k3,k4⟩:=ZA (b:=R.2.2) k2 (e:=[78]) (by decide)
 have hPs:P.2.1<+:stk:=by rw [<-hP];exact Ge _ _ _
 have hPb:b=true->P.2.2=true:=by rw [<-hP];exact Gf
 have hPi:P.2.2=false->P.1∈stk:=by rw [<-hP];exact DC
 refine ⟨(loc,(Xg [84] P.2.1 P.2.2).2.1++[P.1]++[(Xg [84] P.2.1 P.2.2).1],(Xg [84] P.2.1 P.2.2).2.2),
  (loc,(Zr mt.Stack (Zr mt.Stack (Xg [78] R.2.1 R.2.2).2.1 (Xg [78] R.2.1 R.2.2).2.2 R.1).1 (Zr mt.Stack (Xg [78] R.2.1 R.2.2).2.1 (Xg [78] R.2.1 R.2.2).2.2 R.1).2 (Xg [78] R.2.1 R.2.2).1).1,
   (Zr mt.Stack (Zr mt.Stack (Xg [78] R.2.1 R.2.2).2.1 (Xg [78] R.2.1 R.2.2).2.2 R.1).1 (Zr mt.Stack (Xg [78] R.2.1 R.2.2).2.1 (Xg [78] R.2.1 R.2.2).2.2 R.1).2 (Xg [78] R.2.1 R.2.2).1).2),?_,?_,?_,zu5 (λe=>Gf (hPb e)) h.shL h.shS ((Ge _ _ _).trans hPs) g1 (λhb=>.inl (hPi (zxV hb))) g3 λhb=>.inl (hPs.subset (DC hb))⟩
 .rw [WS (by omega)];unfold Hm;rw [qf (show x.Op≠1 by omega),qf (show x.Op≠2 by omega),qf (show x.Op≠3 by omega),qf (show x.Op≠4 by omega),qf (show x.Op≠5 by omega),qf (show x.Op≠6 by omega),qt ho];simp only [cond_false,cond_true];rw [G3 h.shS.len,hP];simp only [Qa];rw [G3 g2.len];simp only [Qa];rw [ZP g4.len];simp only [Qa];rw [ZP (by have:=g4.1;simp;omega)];rfl
 .rw [instr_plain (by omega) (by omega)];unfold z2;rw [qf (show x.Op≠1 by omega),qf (show x.Op≠2 by omega),qf (show x.Op≠3 by omega),qf (show x.Op≠4 by omega),qf (show x.Op≠5 by omega),qf (show x.Op≠6 by omega),qt ho];simp only [cond_false,cond_true];rw [GG h.shS.len,hR];simp only [Qa];rw [GG k2.len];simp only [Qa];rw [ZO k4.len];simp only [Qa];rw [ZO (by have:=k4.1;show ((Xg [78] R.2.1 R.2.2).2.1++[R.1]).length≤1000;simp;omega)];rfl
 .have e2:P.2=R.2:=by rw [<-hP,<-hR];exact KF [84] [78] stk b
  cases hb:(Xg [84] P.2.1 P.2.2).2.2 with
  |true =>
   refine Kl rfl ?_
   have:(Xg [78] R.2.1 R.2.2).2.2=true:=by rw [<-e2,<-KF [84] [78]];exact hb
   exact ID (ID this)
  |false =>
   have e1:P.1=R.1:=by
    rw [<-hP,<-hR];exact GL [84] [78] stk b (by rw [hP];exact zxV hb)
   have e3:=GL [84] [78] P.2.1 P.2.2 hb;have e4:=KF [84] [78] P.2.1 P.2.2;rw [<-e2,<-e1,<-e3,<-e4,hb];exact zvN _ _
theorem zqj(h:58≤x.Op):∀k:Int,k<58->(x.Op == k)=false:=λk hk=>qf (by omega)
theorem zFp(h:XL l L m mt loc stk b)(ho:x.Op=59):
  ∃p r,zg L m c mt loc stk b x=some p/\zk L c mt loc stk b x=some r/\Zm mt.Stack p r/\X0 loc stk b p:=by
 have hq:=zqj (x:=x) (by omega);refine ⟨(loc,stk++[[73]],b),_,?_,?_,Uy _,Uh id h.shL h.shS (QS _) (by decide) λ_=>.inr Uu⟩
 .rw [IF (by omega)];unfold Wc;rw [hq 56 (by omega),hq 57 (by omega)];unfold Wh;rw [qf (show x.Op≠58 by omega),qt ho];simp only [cond_false,cond_true];rw [ZP h.shS.len];rfl
 .rw [instr_plain (by omega) (by omega)];unfold z2;rw [hq 1 (by omega),hq 2 (by omega),hq 3 (by omega),hq 4 (by omega),hq 5 (by omega),hq 6 (by omega),hq 7 (by omega),hq 46 (by omega),hq 47 (by omega),hq 48 (by omega),hq 56 (by omega),hq 57 (by omega),qf (show x.Op≠58 by omega),qt ho];simp only [cond_false,cond_true];rw [ZO h.shS.len];rfl
theorem zDp(h:XL l L m mt loc stk b)(ho:x.Op=60∨x.Op=61):
  ∃p r,zg L m c mt loc stk b x=some p/\zk L c mt loc stk b x=some r/\Zm mt.Stack p r/\X0 loc stk b p:=by
 have hq:=zqj (x:=x) (by omega)
 have h73:([73]:Tx).length≤25:=by decide
 refine ⟨(loc,(Xl L [84] [[73]] stk b).1,(Xl L [84] [[73]] stk b).2),(loc,(Xl L [84] [[73]] stk b).1,(Xl L [84] [[73]] stk b).2),?_,?_,KI λ_=>?_,KK (Zw _ _ _) h.shL h.shS (UA _ _ _ _ _)⟩
 .rw [IF (by omega)];unfold Wc;rw [hq 56 (by omega),hq 57 (by omega)];unfold Wh;rw [qf (show x.Op≠58 by omega),qf (show x.Op≠59 by omega)];simp only [cond_false,cond_true];rw [Z2 h.made h.map (sh1 h73) h.shS];rfl
 .rw [instr_plain (by omega) (by omega)];unfold z2;rw [hq 1 (by omega),hq 2 (by omega),hq 3 (by omega),hq 4 (by omega),hq 5 (by omega),hq 6 (by omega),hq 7 (by omega),hq 46 (by omega),hq 47 (by omega),hq 48 (by omega),hq 56 (by omega),hq 57 (by omega),qf (show x.Op≠58 by omega),qf (show x.Op≠59 by omega)];simp only [cond_false]
  have key:∀v,v=true->(zdY L c mt loc stk b v).bind (λv=>some (v.1,v.2.1,v.2.2))=some (loc,(Xl L [84] [[73]] stk b).1,(Xl L [84] [[73]] stk b).2):=λv hv=>by
   unfold zdY;rw [hv,Ug h.made (sh1 h73) h.shS,ZN [78] [84]];rfl
  rcases ho with ho |ho
  .rw [qt ho];exact key _ rfl
  .rw [qf (show x.Op≠60 by omega),qt ho];exact key _ rfl
 .have:=DI (L:=L) [84] [[73]] stk b;have:=h.room;omega
theorem zzg(h:XL l L m mt loc stk b)(ho:x.Op=58):
  ∃p r,zg L m c mt loc stk b x=some p/\zk L c mt loc stk b x=some r/\Zm mt.Stack p r/\X0 loc stk b p:=by
 have hq:=zqj (x:=x) (by omega)
 have ht:([84,104,114,111,119,110]:Tx).length≤25:=by decide
 obtain ⟨k1,k2⟩:=ZA (b:=b) h.shS (e:=[78]) (by decide);refine ⟨(loc,(Xl L [84] [[84,104,114,111,119,110]] stk b).1,(Xl L [84] [[84,104,114,111,119,110]] stk b).2),(loc,(Xl L [84] [[84,104,114,111,119,110]] stk b).1,(Xl L [84] [[84,104,114,111,119,110]] stk b).2),?_,?_,KI λ_=>?_,KK (Zw _ _ _) h.shL h.shS (UA _ _ _ _ _)⟩
 .rw [IF (by omega)];unfold Wc;rw [hq 56 (by omega),hq 57 (by omega)];unfold Wh;rw [qt ho];simp only [cond_false,cond_true];rw [Z2 h.made h.map (sh1 ht) h.shS];rfl
 .rw [instr_plain (by omega) (by omega)];unfold z2;rw [hq 1 (by omega),hq 2 (by omega),hq 3 (by omega),hq 4 (by omega),hq 5 (by omega),hq 6 (by omega),hq 7 (by omega),hq 46 (by omega),hq 47 (by omega),hq 48 (by omega),hq 56 (by omega),hq 57 (by omega),qt ho];simp only [cond_false,cond_true];rw [GG h.shS.len];simp only [Qa];rw [OA h.made k1 ht,ZN [84] [78]];rfl
 .have:=DI (L:=L) [84] [[84,104,114,111,119,110]] stk b;have:=h.room;omega
theorem zwA(h:46≤x.Op/\x.Op≤48):zg L m c mt loc stk b x=(En L m c mt loc stk b x.Op).bind λv=>some (loc,v.1,v.2):=by
 unfold zg;rw [bf (by omega),qf (show x.Op≠13 by omega),bf (by omega),qf (show x.Op≠20 by omega),bf (by omega),bf (by omega),bf (by omega),bf (by omega),qf (show x.Op≠37 by omega),bf (by omega),bf (by omega),bt h];rfl
theorem zDr(h:XL l L m mt loc stk b)(ho:x.Op=46∨x.Op=47):
  ∃p r,zg L m c mt loc stk b x=some p/\zk L c mt loc stk b x=some r/\Zm mt.Stack p r/\X0 loc stk b p:=by
 have h73:([73]:Tx).length≤25:=by decide
 have hq:∀k:Int,k<46->(x.Op == k)=false:=λk hk=>qf (by omega)
 rcases ho with ho |ho
 .refine ⟨(loc,stk,b||!(mt.Ret == [86])),(loc,stk,b||!(mt.Ret == [86])),?_,?_,KI λ_=>h.room,KK (λe=>by rw [e];rfl) h.shL h.shS (QS _)⟩
  .rw [zwA (by omega)];unfold En;rw [qt ho];rfl
  .rw [instr_plain (by omega) (by omega)];unfold z2;rw [hq 1 (by omega),hq 2 (by omega),hq 3 (by omega),hq 4 (by omega),hq 5 (by omega),hq 6 (by omega),hq 7 (by omega),qt ho];rfl
 .refine ⟨(loc,(Xl L [84] [[73]] stk (b||!(mt.Ret == [73]))).1,(Xl L [84] [[73]] stk (b||!(mt.Ret == [73]))).2),(loc,(Xl L [84] [[73]] stk b).1,(Xl L [84] [[73]] stk b).2||!(mt.Ret == [73])),?_,?_,?_,KK (λe=>Zw _ _ _ (by rw [e];rfl)) h.shL h.shS (UA _ _ _ _ _)⟩
  .rw [zwA (by omega)];unfold En;rw [qf (show x.Op≠46 by omega),qt ho];simp only [cond_false,cond_true];rw [Z2 h.made h.map (sh1 h73) h.shS];rfl
  .rw [instr_plain (by omega) (by omega)];unfold z2;rw [hq 1 (by omega),hq 2 (by omega),hq 3 (by omega),hq 4 (by omega),hq 5 (by omega),hq 6 (by omega),hq 7 (by omega),qf (show x.Op≠46 by omega),qt ho];simp only [cond_false,cond_true];rw [Ug h.made (sh1 h73) h.shS,ZN [78] [84]];rfl
  .have hl:=DI (L:=L) [84] [[73]] stk b;have hr:=h.room
   cases mt.Ret == [73] with
   |true =>
    rw [show (b||!true)=b by simp];rw [show ((Xl L [84] [[73]] stk b).2||!true)=(Xl L [84] [[73]] stk b).2 by simp]
    exact KI λ_=>by omega
   |false=>exact Kl (Zw _ _ _ (by simp)) (by simp)
end
section
variable {l L : List za} {m : List (Tx × Int)} {c : Tx} {mt : zb} {loc stk : List Tx} {b : Bool} {x : zr}
theorem zBt(h:XL l L m mt loc stk b)(ho:x.Op=3)(hA:0≤x.A):
  ∃p r,zg L m c mt loc stk b x=some p/\zk L c mt loc stk b x=some r/\Zm mt.Stack p r/\X0 loc stk b p:=by
 have P0:zg L m c mt loc stk b x=(cond (decide (((List.length loc):Int)≤x.A)) (Br L m c mt loc stk b x true) ((idx loc x.A).bind λv11=>Br L m c mt loc stk b x (v11 == [84]))).bind λv=>some (v.1,v.2.1,v.2.2):=by
  rw [WS (by omega)];unfold Hm;rw [qf (show x.Op≠1 by omega),qf (show x.Op≠2 by omega),qt ho];rfl
 have R0:zk L c mt loc stk b x=(cond (decide (x.A<(List.length loc:Int))) ((idx loc (if (i64.wrap ((List.length loc:Int)-1))<x.A then (i64.wrap ((List.length loc:Int)-1)) else x.A)).bind λv10=>Bo L c mt loc stk x (b||(!(!(v10 == [84]))))) (Bo L c mt loc stk x (b||(!false)))).bind λv=>some (v.1,v.2.1,v.2.2):=by
  rw [instr_plain (by omega) (by omega)];unfold z2;rw [qf (show x.Op≠1 by omega),qf (show x.Op≠2 by omega),qt ho];rfl
 rw [P0,R0];by_cases hlt:x.A<(loc.length:Int)
 .obtain ⟨k,hk⟩:∃k:Nat,x.A=(k:Int):=⟨x.A.toNat,by omega⟩
  have hkl:k<loc.length:=by omega
  have hw:i64.wrap ((loc.length:Int)-1)=(loc.length:Int)-1:=ZZ (by omega) (by have:=h.shL.1;omega)
  have hi:idx loc x.A=some loc[k]:=by rw [hk,zt,Qe hkl]
  rw [hw,if_neg (by omega),decide_eq_false (by omega),decide_eq_true hlt,hi];simp only [cond_false,cond_true,Qa];unfold Br Bo;rw [hi];simp only [Qa]
  cases ht:loc[k] == [84] with
  |true =>
   refine ⟨_,_,rfl,?_,Kl (r:=(loc,stk,true)) rfl rfl,KK (λ_=>rfl) h.shL h.shS (QS _)⟩;simp
  |false =>
   rw [ZP h.shS.len]
   cases b with
   |true=>exact ⟨_,_,rfl,rfl,Kl rfl rfl,Uh id h.shL h.shS (QS _) (h.shL.2 _ (Qh hkl)) λe=>by cases e⟩
   |false =>
    simp only [QL,Qt,Q0,cond_true];rw [ZO h.shS.len];exact ⟨_,_,rfl,rfl,Uy _,Uh id h.shL h.shS (QS _) (h.shL.2 _ (Qh hkl)) λ_=>.inr ⟨h.shL.2 _ (Qh hkl),(h.onL _ (Qh hkl)).resolve_left λe=>by rw [e] at ht;cases ht⟩⟩
 .rw [decide_eq_true (by omega),decide_eq_false hlt];simp only [cond_false,cond_true];unfold Br Bo;refine ⟨_,_,rfl,?_,Kl (r:=(loc,stk,true)) rfl rfl,KK (λ_=>rfl) h.shL h.shS (QS _)⟩;simp
theorem zzf(h:XL l L m mt loc stk b)(ho:x.Op=4)(hA:0≤x.A):
  ∃p r,zg L m c mt loc stk b x=some p/\zk L c mt loc stk b x=some r/\Zm mt.Stack p r/\X0 loc stk b p:=by
 have P0:zg L m c mt loc stk b x=((Kt L m c mt loc stk b).bind λv15=>cond (decide (((List.length loc):Int)≤x.A)) (some (loc,v15.2.1,true)) ((Hy loc).bind λv16=>(idx v16 x.A).bind λv17=>some ((List.set v16 (Int.toNat x.A) v15.1),v15.2.1,v15.2.2))).bind λv=>some (v.1,v.2.1,v.2.2):=by
  rw [WS (by omega)];unfold Hm;rw [qf (show x.Op≠1 by omega),qf (show x.Op≠2 by omega),qf (show x.Op≠3 by omega),qt ho];rfl
 have R0:zk L c mt loc stk b x=((U8 L c mt loc stk b).bind λv14=>cond (!(v14.2.2||(!(decide (x.A<(List.length loc:Int)))))) ((D7 (GK.mk loc v14.2.1)).bind λv15=>(idx v15.1 x.A).bind λv16=>some ((List.set v15.1 (Int.toNat x.A) v14.1),v15.2,(v14.2.2||(!(decide (x.A<(List.length loc:Int))))))) (some (loc,v14.2.1,(v14.2.2||(!(decide (x.A<(List.length loc:Int)))))))).bind λv=>some (v.1,v.2.1,v.2.2):=by
  rw [instr_plain (by omega) (by omega)];unfold z2;rw [qf (show x.Op≠1 by omega),qf (show x.Op≠2 by omega),qf (show x.Op≠3 by omega),qt ho];rfl
 obtain ⟨g1,g2⟩:=ZA (b:=b) h.shS (e:=[84]) (by decide);obtain ⟨k1,k2⟩:=ZA (b:=b) h.shS (e:=[78]) (by decide);rw [P0,R0,G3 h.shS.len,GG h.shS.len];simp only [Qa];by_cases hlt:x.A<(loc.length:Int)
 .obtain ⟨k,hk⟩:∃k:Nat,x.A=(k:Int):=⟨x.A.toNat,by omega⟩
  have hkl:k<loc.length:=by omega
  have hi:idx loc x.A=some loc[k]:=by rw [hk,zt,Qe hkl]
  rw [decide_eq_false (by omega),decide_eq_true hlt,ztA h.shL.len,zz0 h.shL.len k2.len];simp only [cond_false,Qa,Qt,Q0];rw [hi];have e2:=KF [84] [78] stk b
  cases hb:(Xg [78] stk b).2.2 with
  |true=>exact ⟨_,_,rfl,rfl,Kl (by show (Xg [84] stk b).2.2=true;rw [e2];exact hb) rfl,ztb Gf h.shL h.shS (Ge _ _ _) g1 DC⟩
  |false =>
   have e1:=GL [78] [84] stk b hb;refine ⟨_,_,rfl,rfl,?_,ztb Gf h.shL h.shS (Ge _ _ _) g1 DC⟩;rw [e1,e2,hb];refine KI λ_=>?_;have:=It [78] stk b;have:=h.room;omega
 .rw [decide_eq_true (by omega),decide_eq_false hlt];simp only [cond_true,QL,Jw,Qt,cond_false];exact ⟨_,_,rfl,rfl,Kl rfl rfl,KK (λ_=>rfl) h.shL h.shS (Ge _ _ _)⟩
theorem zur{t:Tx}(ht:Xs t=true):ZS L t=thN L t:=by
 unfold ZS
 have e1:(t == [78])=false:=beq_eq_false_iff_ne.2 λe=>by rw [e,zE0] at ht;cases ht
 have e2:(t == [84])=false:=beq_eq_false_iff_ne.2 λe=>by rw [e,zE1] at ht;cases ht
 rw [e1,e2];rfl
theorem zBr(h:XL l L m mt loc stk b)(ho:x.Op=56∨x.Op=57)(hC:Xs x.C=true)(hl:x.C.length≤25):
  ∃p r,zg L m c mt loc stk b x=some p/\zk L c mt loc stk b x=some r/\Zm mt.Stack p r/\X0 loc stk b p:=by
 have hq:∀k:Int,k<56->(x.Op == k)=false:=λk hk=>qf (by omega);obtain ⟨g1,g2⟩:=zun (b:=b) h.shS (e:=[84]) (by decide);have e2:=(zpO (b:=b) h.on).1
 have k2:ShL (UV stk b).2.1:=by rw [e2];exact g2
 rcases ho with ho |ho
 .refine ⟨(loc,(Xv [84] stk b).2.1++[x.C],(Xv [84] stk b).2.2||!thN L x.C),_,?_,?_,Uy _,Uh (λe=>by rw [Og e];rfl) h.shL h.shS (WO _ _ _) hl λ_=>.inr (BN hC hl)⟩
  .rw [IF (by omega)];unfold Wc;rw [qt ho];unfold Wh;simp only [cond_true];rw [BV h.shS];simp only [Qa];rw [WH h.made h.map hl,zur hC];simp only [Qa];rw [qt ho];simp only [cond_true];rw [ZP g2.len];rfl
  .rw [instr_plain (by omega) (by omega)];unfold z2;rw [hq 1 (by omega),hq 2 (by omega),hq 3 (by omega),hq 4 (by omega),hq 5 (by omega),hq 6 (by omega),hq 7 (by omega),hq 46 (by omega),hq 47 (by omega),hq 48 (by omega),qt ho];simp only [cond_false,cond_true];rw [WM h.shS];simp only [Qa];rw [Kp h.made (by omega)];simp only [Qa];rw [ZO k2.len,e2];rfl
 .refine ⟨(loc,(Xv [84] stk b).2.1++[[73]],(Xv [84] stk b).2.2||!thN L x.C),_,?_,?_,Uy _,Uh (λe=>by rw [Og e];rfl) h.shL h.shS (WO _ _ _) (by decide) λ_=>.inr Uu⟩
  .rw [IF (by omega)];unfold Wc;rw [qf (show x.Op≠56 by omega),qt ho];unfold Wh;simp only [cond_true,cond_false];rw [BV h.shS];simp only [Qa];rw [WH h.made h.map hl,zur hC];simp only [Qa];rw [qf (show x.Op≠56 by omega)];simp only [cond_false];rw [ZP g2.len];rfl
  .rw [instr_plain (by omega) (by omega)];unfold z2;rw [hq 1 (by omega),hq 2 (by omega),hq 3 (by omega),hq 4 (by omega),hq 5 (by omega),hq 6 (by omega),hq 7 (by omega),hq 46 (by omega),hq 47 (by omega),hq 48 (by omega),qf (show x.Op≠56 by omega),qt ho];simp only [cond_false,cond_true];rw [WM h.shS];simp only [Qa];rw [Kp h.made (by omega)];simp only [Qa];rw [ZO k2.len,e2];rfl
end
section
variable {l L : List za} {m : List (Tx × Int)} {c : Tx} {mt : zb} {loc stk : List Tx} {b : Bool} {x : zr}
theorem zEI{t:Tx}(h1:(t == [73])=false)(h2:Xs t=true):X4 L [73] t=false:=by
 have e2:(t == [84])=false:=beq_eq_false_iff_ne.2 λe=>by rw [e,zE1] at h2;cases h2
 have e3:(([73]:Tx) == t)=false:=by rw [Bool.eq_false_iff] at h1 ⊢;intro h;exact h1 (by rw [beq_iff_eq] at h ⊢;exact h.symm)
 rw [zAd,e2];simp only [cond_false];rw [show (([73]:Tx) == [78])=false from by decide,e3];simp
theorem zE2:Xs [86]=false:=by decide +kernel
theorem zBn(h:XL l L m mt loc stk b)(ho:x.Op=48)(hr:ZT mt.Ret=true)(hl:mt.Ret.length≤25):
  ∃p r,zg L m c mt loc stk b x=some p/\zk L c mt loc stk b x=some r/\Zm mt.Stack p r/\X0 loc stk b p:=by
 have hq:∀k:Int,k<48->(x.Op == k)=false:=λk hk=>qf (by omega);obtain ⟨k1,k2⟩:=ZA (b:=b) h.shS (e:=[78]) (by decide)
 have P0:zg L m c mt loc stk b x=some (loc,(Xl L [84] [mt.Ret] stk (b||!Zv mt.Ret)).1,(Xl L [84] [mt.Ret] stk (b||!Zv mt.Ret)).2):=by
  rw [zwA (by omega)];unfold En;rw [hq 46 (by omega),hq 47 (by omega),zl4 (Wv hl)];simp only [cond_false,Qa];rw [Z2 h.made h.map (sh1 hl) h.shS];rfl
 have R0:zk L c mt loc stk b x=some (loc,(UV stk b).2.1,(UV stk b).2.2||!(!(mt.Ret == [86])&&(!(mt.Ret == [73])&&X4 L (UV stk b).1 mt.Ret))):=by
  rw [instr_plain (by omega) (by omega)];unfold z2;rw [hq 1 (by omega),hq 2 (by omega),hq 3 (by omega),hq 4 (by omega),hq 5 (by omega),hq 6 (by omega),hq 7 (by omega),hq 46 (by omega),hq 47 (by omega),qt ho];simp only [cond_false,cond_true];rw [WM h.shS];simp only [Qa];rw [OA h.made (show (UV stk b).1.length≤25 from k1) hl];cases mt.Ret == [86] <;> cases mt.Ret == [73] <;> rfl
 refine ⟨_,_,P0,R0,?_,KK (λe=>Zw _ _ _ (by rw [e];rfl)) h.shL h.shS (UA _ _ _ _ _)⟩
 cases h1:mt.Ret == [86] with
 |true =>
  have e:mt.Ret=[86]:=by simpa using h1
  have:Zv mt.Ret=false:=by unfold Zv;rw [e,zE2];rfl
  rw [this];exact Kl (Zw _ _ _ (by simp)) (by simp)
 |false =>
  cases h2:mt.Ret == [73] with
  |true =>
   have:Zv mt.Ret=false:=by unfold Zv;rw [h2];rfl
   rw [this];exact Kl (Zw _ _ _ (by simp)) (by simp)
  |false =>
   have hm:Xs mt.Ret=true:=by unfold ZT at hr;rw [h1] at hr;simpa using hr
   have:Zv mt.Ret=true:=by unfold Zv;rw [h2,hm];rfl
   rw [this];simp only [Qt,Q0,QL,QC]
   have key:((UV stk b).2.1,(UV stk b).2.2||!X4 L (UV stk b).1 mt.Ret)=Xl L [84] [mt.Ret] stk b:=by
    rw [ZN [84] [78]];show ((Xg [78] stk b).2.1,((Xg [78] stk b).2.2||!(!((Xg [78] stk b).1 == [73])))||!X4 L (Xg [78] stk b).1 mt.Ret)=((Xg [78] stk b).2.1,(Xg [78] stk b).2.2||!X4 L (Xg [78] stk b).1 mt.Ret)
    cases h3:(Xg [78] stk b).1 == [73] with
    |true =>
     have e:(Xg [78] stk b).1=[73]:=by simpa using h3
     rw [e,zEI h2 hm];simp
    |false=>simp
   rw [<-key];refine KI λ_=>?_;have:=It [78] stk b;have:=h.room;show (((Xg [78] stk b).2.1).length:Int)≤mt.Stack;omega
end
theorem zBL(t:Tx):t.length≤(XQ t).length+1:=by
 cases t with
 |nil=>exact QW _
 |cons x r=>rw [HO];split <;> simp
theorem IA{t:Tx}(h:XF t=true):t.length≤8:=by
 unfold XF KB at h;simp only [Qd,decide_eq_true_eq] at h;have:=h.1.1.2.2;omega
theorem zDT{t:Tx}(h:Xs t=true):t.length≤10:=by
 have h1:=zBL t;have h2:=zBL (XQ t);unfold Xs at h;rw [Qp] at h
 rcases h with h |h
 .have e:XQ (XQ t)=[73]:=by simpa using h
  rw [e] at h2;simp at h2;omega
 .have:=IA h;omega
theorem Gb{t:Tx}(h:Xs t=true):t.length≤25:=by have:=zDT h;omega
theorem WA{t:Tx}(h:ZT t=true):t.length≤25:=by
 unfold ZT at h;rw [Qp] at h
 rcases h with h |h
 .have e:t=[86]:=by simpa using h
  rw [e];decide
 .exact Gb h
theorem zDh{t:Tx}(h:UU t=true):t.length≤25/\(t=[84]∨onS t):=by
 unfold UU at h;simp only [Qp,beq_iff_eq] at h
 rcases h with ((h |h) |h) |h
 .subst h;exact ⟨Uu.1,.inr Uu.2⟩
 .subst h;exact ⟨zCo.1,.inr zCo.2⟩
 .subst h;exact ⟨by decide,.inl rfl⟩
 .unfold Zv at h;rw [Qd] at h;exact ⟨Gb h.2,.inr (.inr h.2)⟩
theorem zDN{α:Type}{bad:List α->α->Bool}:∀{l pre:List α},gB bad pre l=false->∀x∈l,∃q,bad q x=false
 | [],_,_,x,hx=>by cases hx
 |y ::r,pre,h,x,hx=>by
  unfold gB at h;rw [Qo] at h
  rcases Qr.1 hx with e |e
  .rw [e];exact ⟨pre,h.1⟩
  .exact zDN h.2 x e
structure Gn(m:zb)(x:zS):Prop where
 locs:(x.Locals.length:Int)=m.Locals
 stks:(x.Stack.length:Int)≤m.Stack
 locT:∀t∈x.Locals,UU t=true
 stkT:∀t∈x.Stack,UU t=true/\t≠[84]
structure XX(m:zb):Prop where
 params:∀s∈m.Params,Xs s=true
 npar:m.Params.length≤6
 ret:ZT m.Ret=true
 locs:Zh m≤m.Locals/\m.Locals≤16
 stack:0≤m.Stack/\m.Stack≤16
 code:1≤m.Code.length/\m.Code.length≤100
 last:∃y,m.Code.getLast?=some y/\GC y.Op=true
 ins:∀x∈m.Code,UJ x=true
 traps:∀y∈m.Traps,y.C=[]∨XF y.C=true
 ntraps:m.Traps.length≤6
 maps:∀x∈m.Maps,Gn m x
 nmaps:m.Maps.length≤100
theorem btw{n a b:Int}(h:zu n a b=true):a≤n/\n≤b:=by
 unfold zu at h;simpa using h
theorem zvP{l:List Tx}(h:Uw l=true):∀t∈l,UU t=true:=λt ht=>by
 unfold Uw at h;rw [Qn,QB] at h;simpa using h t ht
theorem ztZ{m:zb}(h:ZQ m=true):(∀s∈m.Params,Xs s=true)/\m.Params.length≤6/\ZT m.Ret=true:=by
 unfold ZQ at h;simp only [Qd,Qn,Qo,decide_eq_false_iff_not] at h;obtain ⟨⟨⟨⟨h1,h2⟩,h3⟩,h4⟩,h5⟩:=h;refine ⟨λs hs=>?_,by omega,h4⟩;unfold If at h3;rw [Qn,QB] at h3;simpa using h3 s hs
theorem zCM{m:zb}(h:ZQ m=true)(ha:m.Abstract=true):m.Static=false:=by
 unfold ZQ at h;rw [ha] at h;simp only [Qd,cond_true] at h;obtain ⟨_,h5⟩:=h;unfold HT at h5;simp only [Qd,Qn] at h5
 first
  |exact h5.1
  |exact h5.1.1
  |exact h5.1.1.1
  |exact h5.1.1.1.1
theorem zF6{m:zb}(h:ZQ m=true)(ha:m.Abstract=false):XX m:=by
 obtain ⟨p1,p2,p3⟩:=ztZ h;unfold ZQ at h;rw [ha] at h;simp only [Qd,cond_false] at h;obtain ⟨_,_,hl,hs,⟨hi,ht⟩,hm⟩:=h;have hl:=btw hl;have hs:=btw hs;unfold instrN at hi;simp only [Qd,Qn] at hi;obtain ⟨i1,i2,i3⟩:=hi;have i1:=btw i1;unfold HC at ht;simp only [Qd,Qn,decide_eq_true_eq] at ht;obtain ⟨t1,t2⟩:=ht;unfold Hx at hm;simp only [Qd,Qn,decide_eq_true_eq] at hm;obtain ⟨m1,m2⟩:=hm;refine ⟨p1,p2,p3,hl,hs,by omega,?_,λx hx=>?_,λy hy=>?_,by omega,λx hx=>?_,by omega⟩
 .cases hg:m.Code.getLast? with
  |none=>rw [hg] at i2;cases i2
  |some y=>rw [hg] at i2;exact ⟨y,rfl,i2⟩
 .have:=(QB.1 i3) x hx;unfold BC at this;simp only [Qp,Qn,not_or] at this;simpa using this.1
 .have:=(QB.1 t1) y hy;unfold GV at this;simp only [Qp,not_or,Qd,Qn,not_and,beq_eq_false_iff_ne] at this;by_cases e:y.C=[]
  .exact .inl e
  .right;have:=this.2 e;simpa using this
 .obtain ⟨q,hq⟩:=zDN m1 x hx;unfold Wn at hq;simp only [Qo,Q9,beq_iff_eq,decide_eq_false_iff_not] at hq;obtain ⟨_,⟨h1,h2⟩,⟨h3,h4⟩,h5⟩:=hq;refine ⟨h1,by omega,zvP h3,λt ht=>⟨zvP h4 t ht,λe=>?_⟩⟩;subst e;have:=(QB.1 h5) [84] ht;simp at this
theorem zxH{l L:List za}(h:Xi l L){x:za}(hx:x∈L){f:zb}(hf:f∈x.Methods):ZQ f=true:=by
 rw [h.app] at hx
 rcases Qq.1 hx with e |e
 .have hg:giv.all (λc=>decide (c.Methods.length=0))=true:=by decide +kernel
  have:=of_decide_eq_true (Ql.1 hg x e);rw [Qf this] at hf;cases hf
 .have:=h.may x e;unfold ZH at this;simp only [Qd,Qn,decide_eq_true_eq] at this;have h2:=BS this.2.2.1 f hf;rw [Qd] at h2;exact h2.2
theorem zCk{l L:List za}(h:Xi l L){x:za}(hx:x∈L){f:zj}(hf:f∈x.Fields):Xs f.Type_=true:=by
 rw [h.app] at hx
 rcases Qq.1 hx with e |e
 .have hg:giv.all (λc=>decide (c.Fields.length=0))=true:=by decide +kernel
  have:=of_decide_eq_true (Ql.1 hg x e);rw [Qf this] at hf;cases hf
 .have:=h.may x e;unfold ZH at this;simp only [Qd,Qn,decide_eq_true_eq] at this;have h2:=BS this.2.1.2.1 f hf;unfold K3 at h2;simp only [Qd] at h2;exact h2.2
theorem zCC{x:zr}(h:UJ x=true):x.C.length≤10:=by
 unfold UJ at h;simp only [Qd] at h;have:=h.1.2;unfold Hw at this;cases h1:Gg x.Op <;> rw [h1] at this
 .cases h2:Dc x.Op <;> rw [h2] at this
  .have e:x.C=[]:=by simpa using this
   rw [e];decide
  .have:=IA (show XF x.C=true from this);omega
 .have:Zv x.C=true:=this;unfold Zv at this;rw [Qd] at this;exact zDT this.2
def Kd(mt:zb)(n:Int):Option zS:=mt.Maps.find? (λx=>x.At == n)
def Kv(L:List za)(a b:List Tx):Bool:=((a.length:Int) == (b.length:Int))&&!(List.range a.length).any (λi=>!X4 L ((a[i]?).getD []) ((b[i]?).getD []))
def Kf(L:List za)(mt:zb)(loc stk:List Tx)(n:Int):Bool:=match Kd mt n with |some x=>Kv L loc x.Locals&&Kv L stk x.Stack |none=>false
theorem zEX{α:Type}(p:α->Bool)(l:List α):decide (ixF p 0 l<0)=!(l.find? p).isSome:=by
 rw [<-HL];by_cases h:ixF p 0 l<0
 .rw [decide_eq_true h,decide_eq_false (by omega)];rfl
 .rw [decide_eq_false h,decide_eq_true (by omega)];rfl
section
variable {l L : List za} {m : List (Tx × Int)} {c : Tx} {mt : zb} {loc stk : List Tx} {b : Bool}
theorem zw2{body:Int->Option (Sum Int (Sum Unit Bool))}{a b:List Tx}(ha:a.length≤1000)(hn:a.length=b.length)
  (hb:∀(i:Nat) x y,a[i]?=some x->b[i]?=some y->body (i:Int)=cond (!X4 L x y) (some (.inr (.inr false))) (some (.inl (i64.wrap ((i:Int)+1)))))
  (he:body (a.length:Int)=some (.inr (.inl ()))):((zp body 0).bind λo=>zH o (λ_=>some true) some)=some (Kv L a b):=by
 rw [zqd (n:=a.length) (g:=λi=>cond (!X4 L ((a[i]?).getD []) ((b[i]?).getD [])) (some false) none) (u:=()) (λi hi=>by
  have h1:a[i]?=some a[i]:=Qe hi;have h2:b[i]?=some (b[i]'(by omega)):=Qe (by omega);rw [hb i _ _ h1 h2,h1,h2,zP (by omega)];simp only [QY]
  cases X4 L a[i] (b[i]'(by omega)) <;> rfl) he,z7]
 unfold Kv;rw [hn,beq_self_eq_true,QC];cases (List.range b.length).any (λi=>!X4 L ((a[i]?).getD []) ((b[i]?).getD [])) <;> rfl
theorem zzG{a b:List Tx}(h:a.length≠b.length):Kv L a b=false:=by
 unfold Kv;rw [beq_eq_false_iff_ne.2 (show (a.length:Int)≠(b.length:Int) by omega)];rfl
theorem zzA(h:Xi l L)(hm:Xu L m){a b:List Tx}(ha:ShL a)(hb2:∀t∈b,t.length≤25):I3 L m a b=some (Kv L a b):=by
 unfold I3;by_cases hn:a.length=b.length
 .rw [show ((a.length:Int) == (b.length:Int))=true by rw [hn];exact beq_self_eq_true _]
  exact zw2 (body:=λz=>OZ L m a b z) ha.len hn (λi x y hx hy=>by
   show OZ L m a b (i:Int)=_;have:=ha.2 x (Qc hx);have:=hb2 y (Qc hy);unfold OZ;rw [Xn hx,zt,zt,hx,hy];simp only [cond_true,Qa]
   rw [zq6 h hm (by omega) (by omega)];rfl) (by
   show OZ L m a b (a.length:Int)=_;unfold OZ
   rw [Xo];rfl)
 .rw [beq_eq_false_iff_ne.2 (show (a.length:Int)≠(b.length:Int) by omega),zzG hn];rfl
theorem XX.lenM(hk:XX mt):XI mt.Maps:=by have:=hk.nmaps;unfold XI;omega
theorem WF(hk:XX mt){n:Int}{x:zS}(h:Kd mt n=some x):Gn mt x:=hk.maps x (QK h)
theorem Gn.loc25{x:zS}(h:Gn mt x):∀t∈x.Locals,t.length≤25:=λt ht=>(zDh (h.locT t ht)).1
theorem Gn.stk25{x:zS}(h:Gn mt x):∀t∈x.Stack,t.length≤25:=λt ht=>(zDh (h.stkT t ht).1).1
theorem zwh(hk:XX mt){n:Int}:EQ L m c mt loc stk b n=some (Kd mt n):=by
 unfold EQ zbS
 rw [show ((zp (λz=>zbt mt.Maps n z) 0).bind λo=>zH o (λb=>ze2) some)=_ from Zq (p:=λx:zS=>x.At == n) hk.lenM
  (λi x hx=>by
   unfold zbt zfI
   rw [Xn hx,zt,hx];rfl) (by unfold zbt;rw [Xo];rfl)]
 simp only [Qa];rw [zEX,G8];unfold Kd;cases mt.Maps.find? (λx=>x.At == n) <;> rfl
theorem zxv(h:Xi l L)(hm:Xu L m){x:zS}(hx:Gn mt x)(hl:ShL loc)(hs:ShL stk):DY L m x loc stk=some (Kv L loc x.Locals&&Kv L stk x.Stack):=by
 unfold DY;rw [zzA h hm hl hx.loc25,zzA h hm hs hx.stk25];cases Kv L loc x.Locals <;> rfl
theorem zDP(h:Xi l L)(hm:Xu L m)(hk:XX mt)(hl:ShL loc)(hs:ShL stk){n:Int}:EP L m c mt loc stk b n=some (b||!Kf L mt loc stk n):=by
 unfold EP Kf;rw [zwh hk];simp only [Qa]
 cases hf:Kd mt n with
 |none=>rfl
 |some x =>
  show (DY L m x loc stk).bind _=_;rw [zxv h hm (WF hk hf) hl hs];rfl
theorem zEQ(h:Xi l L)(hm:Xu L m)(hk:XX mt)(hl:ShL loc){s:List Tx}(hs:ShL s){n:Int}:ze7 L m c mt loc stk b n s=some (b||!Kf L mt loc s n):=by
 unfold ze7 Kf;rw [zwh hk];simp only [Qa]
 cases hf:Kd mt n with
 |none=>rfl
 |some x =>
  show (DY L m x loc s).bind _=_;rw [zxv h hm (WF hk hf) hl hs];rfl
end
section
variable {l L : List za} {m : List (Tx × Int)} {c : Tx} {mt : zb} {loc stk : List Tx} {b : Bool} {x : zr}
def XZ(L:List za)(C M:Tx):FR:=((Xq L C).findSome? (Hn L M)).getD ([],zF,false)
theorem zAf(h:Xi l L)(C M:Tx):(XZ L C M).2.1.Type_.length≤25/\((XZ L C M).2.2=true->Xs (XZ L C M).2.1.Type_=true):=by
 unfold XZ
 cases hq:(Xq L C).findSome? (Hn L M) with
 |none=>exact ⟨QW _,λe=>by cases e⟩
 |some r =>
  obtain ⟨s,hs,e⟩:=Jh hq;unfold Hn at e
  cases hc:cl L s with
  |none=>rw [hc] at e;cases e
  |some y =>
   rw [hc] at e;simp only at e
   cases hf:y.Fields.find? (λy=>y.Name == M) with
   |none=>rw [hf] at e;cases e
   |some f =>
    rw [hf] at e;cases e;have:=zCk h (XU hc).1 (QK hf);exact ⟨Gb this,λ_=>this⟩
structure zGR(r:MR):Prop where
 params:∀s∈r.2.1.Params,Xs s=true
 npar:r.2.1.Params.length≤6
 ret25:r.2.1.Ret.length≤25
 ret:r.2.2=true->ZT r.2.1.Ret=true
theorem zAD:zGR ([],zM,false):=⟨λs hs=>(List.not_mem_nil (show s∈([]:List Tx) from hs)).elim,QW _,QW _,λe=>by cases e⟩
theorem zAB{may:zb->Bool}{n s:Tx}{r:MR}(e:X3 L may n s=some r):∃y f,cl L s=some y/\f∈y.Methods/\r=(s,f,true):=by
 unfold X3 at e
 cases hc:cl L s with
 |none=>rw [hc] at e;cases e
 |some y =>
  rw [hc] at e;simp only at e
  cases hf:y.Methods.find? (λy=>y.Name == n) with
  |none=>rw [hf] at e;cases e
  |some f =>
   rw [hf] at e;simp only at e
   cases hm:may f with
   |false=>rw [hm] at e;cases e
   |true =>
    rw [hm] at e;cases e;exact ⟨y,f,rfl,QK hf,rfl⟩
theorem zAC(h:Xi l L)(may:zb->Bool)(n:Tx)(T:List Tx):zGR ((T.findSome? (X3 L may n)).getD ([],zM,false)):=by
 cases hq:T.findSome? (X3 L may n) with
 |none=>exact zAD
 |some r =>
  obtain ⟨s,hs,e⟩:=Jh hq;obtain ⟨y,f,hc,hf,rfl⟩:=zAB e;obtain ⟨p1,p2,p3⟩:=ztZ (zxH h (XU hc).1 hf);exact ⟨p1,p2,WA p3,λ_=>p3⟩
theorem zE8(h:Xi l L)(C n:Tx):zGR (KE L C n)/\((KE L C n).2.2=true->(KE L C n).2.1.Static=false):=by
 unfold KE
 cases hF:isF L C with
 |false=>exact ⟨zAD,λe=>by cases e⟩
 |true =>
  refine ⟨zAC h _ _ _,?_⟩;simp only [cond_true]
  cases hq:(C ::XH L C).findSome? (X3 L Hf n) with
  |none=>exact λe=>by cases e
  |some r =>
   obtain ⟨s,hs,e⟩:=Jh hq;obtain ⟨y,f,hc,hf,rfl⟩:=zAB e;intro _
   have hI:isF L s=true:=by
    rcases Qr.1 hs with e |e
    .rw [e];exact hF
    .exact (zuW.1 e).2
   have hy:y.Interface=true:=by unfold isF at hI;rw [hc] at hI;exact hI
   have ha:=zoE h (XU hc).1 hf;exact zCM (zxH h (XU hc).1 hf) (ha.trans hy)
theorem zAL(ho:x.Op=20):zg L m c mt loc stk b x=some (loc,stk,b):=by
 unfold zg;rw [bf (by omega),qf (show x.Op≠13 by omega),bf (by omega),qt ho];rfl
theorem zAM(h:XL l L m mt loc stk b)(ho:21≤x.Op/\x.Op≤26):zg L m c mt loc stk b x=some (loc,Xl L [84] [[73]] stk b):=by
 unfold zg;rw [bf (by omega),qf (show x.Op≠13 by omega),bf (by omega),qf (show x.Op≠20 by omega),bt ho];simp only [cond_false,cond_true];rw [Z2 h.made h.map (sh1 Uu.1) h.shS];rfl
theorem zAN(h:XL l L m mt loc stk b)(ho:27≤x.Op/\x.Op≤32):zg L m c mt loc stk b x=some (loc,Xl L [84] [[73],[73]] stk b):=by
 unfold zg;rw [bf (by omega),qf (show x.Op≠13 by omega),bf (by omega),qf (show x.Op≠20 by omega),bf (by omega),bt ho];simp only [cond_false,cond_true];rw [Z2 h.made h.map (sh2 Uu.1 Uu.1) h.shS];rfl
theorem zAO(h:XL l L m mt loc stk b)(ho:33≤x.Op/\x.Op≤34):zg L m c mt loc stk b x=some (loc,(Xv [84] stk b).2):=by
 unfold zg;rw [bf (by omega),qf (show x.Op≠13 by omega),bf (by omega),qf (show x.Op≠20 by omega),bf (by omega),bf (by omega),bt ho];simp only [cond_false,cond_true];rw [BV h.shS];rfl
theorem zAP(h:XL l L m mt loc stk b)(ho:35≤x.Op/\x.Op≤36):zg L m c mt loc stk b x=some (loc,(Xv [84] (Xv [84] stk b).2.1 (Xv [84] stk b).2.2).2):=by
 unfold zg;rw [bf (by omega),qf (show x.Op≠13 by omega),bf (by omega),qf (show x.Op≠20 by omega),bf (by omega),bf (by omega),bf (by omega),bt ho];simp only [cond_false,cond_true];rw [BV h.shS];simp only [Qa];rw [BV (zun h.shS (by decide)).2];rfl
theorem zvq(ho:37≤x.Op/\x.Op≤41):zg L m c mt loc stk b x=(zev L m c mt loc stk b x).bind λv=>some (loc,v.1,v.2):=by
 have e:((x.Op == (37:Int))||UC x.Op 38 41)=true:=by
  by_cases h:x.Op=37
  .rw [qt h];rfl
  .rw [bt (show (38:Int)≤x.Op/\x.Op≤41 by omega),Jw]
 unfold zg;rw [bf (by omega),qf (show x.Op≠13 by omega),bf (by omega),qf (show x.Op≠20 by omega),bf (by omega),bf (by omega),bf (by omega),bf (by omega),e];rfl
theorem zCT(ho:42≤x.Op/\x.Op≤45):zg L m c mt loc stk b x=(ER L m c mt loc stk b x).bind λv=>some (loc,v.1,v.2):=by
 unfold zg;rw [bf (by omega),qf (show x.Op≠13 by omega),bf (by omega),qf (show x.Op≠20 by omega),bf (by omega),bf (by omega),bf (by omega),bf (by omega),qf (show x.Op≠37 by omega),bf (by omega),bt ho];rfl
theorem W0(ho:49≤x.Op/\x.Op≤55):zg L m c mt loc stk b x=(Hl L m c mt loc stk b x).bind λv=>some (loc,v.1,v.2):=by
 unfold zg;rw [bf (by omega),qf (show x.Op≠13 by omega),bf (by omega),qf (show x.Op≠20 by omega),bf (by omega),bf (by omega),bf (by omega),bf (by omega),qf (show x.Op≠37 by omega),bf (by omega),bf (by omega),bf (by omega),bt ho];rfl
end
theorem Of{α R:Type}{body:Bool×Int->Option (Sum (Bool×Int) (Sum Bool R))}{l:List α}{p:α->Bool}(hl:l.length≤1000000)
  (hb:∀(i:Nat) x (b:Bool),l[i]?=some x->body (b,(i:Int))=some (.inl (b||p x,i64.wrap ((i:Int)+1))))
  (he:∀b:Bool,body (b,(l.length:Int))=some (.inr (.inl b))) (b0:Bool):zp body (b0,0)=some (.inl (b0||l.any p)):=by
 have key:∀(r pre:List α) (b:Bool),l=pre++r->zp body (b,(pre.length:Int))=some (.inl (b||r.any p)):=by
  intro r
  induction r with
  |nil =>
   intro pre b h
   have e:l=pre:=by rw [h,Qx]
   subst e;rw [zK,he];simp
  |cons x r ih =>
   intro pre b h
   have hlen:l.length=pre.length+(r.length+1):=by rw [h];simp
   have hx:l[pre.length]?=some x:=by rw [h];simp
   rw [zK,hb _ x b hx,zP (by omega)];have:=ih (pre++[x]) (b||p x) (by rw [h];simp);rw [show (pre++[x]).length=pre.length+1 by simp] at this;simp only [Qa,JV];rw [this,Q3,J3]
 exact key l [] b0 rfl
def ZJ(L:List za)(mt:zb)(loc stk:List Tx)(n:Int)(g:Bool):List Tx×List Tx×Bool:=
 match Kd mt n with |none=>(loc,stk,!g) |some x=>(x.Locals,x.Stack,g&&!Kf L mt loc stk n)
def Im:Tx:=[84,104,114,111,119,110]
def GW(t:zT):Tx:=cond (t.C == []) Im t.C
def Gt(L:List za)(mt:zb)(loc:List Tx)(n:Int)(t:zT):Bool:=
 !UQ L (GW t) Im||((decide (t.From≤n)&&decide (n<t.To))&&!Kf L mt loc [GW t] t.At)
section
variable {l L : List za} {m : List (Tx × Int)} {c : Tx} {mt : zb} {loc stk : List Tx} {b : Bool}
theorem Gn.shl{x:zS}(hk:XX mt)(h:Gn mt x):ShL x.Locals:=⟨by have:=h.locs;have:=hk.locs.2;omega,h.loc25⟩
theorem Gn.shs{x:zS}(hk:XX mt)(h:Gn mt x):ShL x.Stack:=⟨by have:=h.stks;have:=hk.stack.2;omega,h.stk25⟩
theorem zz8(h:Xi l L)(hm:Xu L m)(hk:XX mt)(hl:ShL loc)(hs:ShL stk){n:Int}{g:Bool}:
  zfU L m c mt loc stk b n g=some ((ZJ L mt loc stk n g).1,(ZJ L mt loc stk n g).2.1,b||(ZJ L mt loc stk n g).2.2):=by
 unfold zfU ZJ;rw [zwh hk];simp only [Qa]
 cases hf:Kd mt n with
 |none=>rfl
 |some x =>
  have hx:=WF hk hf;simp only [Option.isNone_some,cond_false]
  have key:∀v:Bool,Bn (some x) v=some (x.Locals,x.Stack,v):=λv=>by
   unfold Bn;show (Hy x.Locals).bind _=_;rw [ztA (hx.shl hk).len];simp only [Qa];rw [ztA (hx.shs hk).len];rfl
  rw [zDP h hm hk hl hs]
  cases g with
  |true=>simp only [cond_true,Qa];rw [key];rfl
  |false=>simp only [cond_false];rw [key];simp
theorem XL.to{b':Bool}(h:XL l L m mt loc stk b):XL l L m mt loc stk b':=⟨h.made,h.map,h.lens,h.shL,h.shS,h.on,h.room,h.onL⟩
theorem zwd(h:XL l L m mt loc stk b)(hk:XX mt){n:Int}{g b':Bool}:XL l L m mt (ZJ L mt loc stk n g).1 (ZJ L mt loc stk n g).2.1 b':=by
 unfold ZJ
 cases hf:Kd mt n with
 |none=>exact h.to
 |some x =>
  have hx:=WF hk hf;exact ⟨h.made,h.map,h.lens,hx.shl hk,hx.shs hk,λt ht=>((zDh (hx.stkT t ht).1).2).resolve_left (hx.stkT t ht).2,hx.stks,λt ht=>(zDh (hx.locT t ht)).2⟩
theorem zyf(hk:XX mt){t:zT}(ht:t∈mt.Traps):(GW t).length≤25:=by
 unfold GW
 rcases hk.traps t ht with e |e
 .rw [e];decide
 .cases t.C == []
  .have:=IA e;show t.C.length≤25;omega
  .show Im.length≤25;decide
theorem zFu(h:Xi l L)(hm:Xu L m)(hk:XX mt)(hl:ShL loc){n:Int}:zew L m c mt loc stk b n=some (b||mt.Traps.any (Gt L mt loc n)):=by
 unfold zew
 rw [Of (body:=λz=>E2 L m c mt loc stk n z.1 z.2) (l:=mt.Traps) (p:=Gt L mt loc n) (by have:=hk.ntraps;omega) (λi t b hi=>by
  have ht:=Qc hi;have hc:=zyf hk ht
  have key:∀v:Tx,v=GW t->zcX L m c mt loc stk n b (i:Int) t v=some (.inl (b||Gt L mt loc n t,i64.wrap ((i:Int)+1))):=λv hv=>by
   unfold zcX zeB;rw [hv,B8 h hm hc (by show _≤_;decide)];simp only [Qa];rw [zEQ h hm hk hl (sh1 hc)];unfold Gt Im;simp only [Qa];cases decide (t.From≤n)&&decide (n<t.To) <;> cases b <;> simp
  show E2 L m c mt loc stk n b (i:Int)=_;unfold E2;rw [Xn hi,zt,hi];simp only [cond_true,Qa]
  cases he:t.C == [] with
  |true=>exact key _ (by unfold GW;rw [he];rfl)
  |false=>exact key _ (by unfold GW;rw [he];rfl)) (λb=>by
  show E2 L m c mt loc stk n b (mt.Traps.length:Int)=_;unfold E2
  rw [Xo];rfl)]
 rfl
end
theorem zxo{α β:Type}(p:α->Bool)(g:α->β):∀l:List α,l.findSome? (λx=>cond (p x) (some (g x)) none)=(l.find? p).map g
 | []=>rfl
 |x ::l=>by
  rw [Q5,List.find?_cons]
  cases p x with
  |true=>rfl
  |false=>exact zxo p g l
section
variable {l L : List za} {m : List (Tx × Int)} {c : Tx} {mt : zb} {loc stk : List Tx} {b : Bool} {x : zr}
def zF2(mt:zb)(n:Int):zS×Bool:=match Kd mt n with |some x=>(x,true) |none=>(zS.mk 0 [] [],false)
theorem ztV(hk:XX mt){n:Int}:Bk L c mt loc stk b n=some (zF2 mt n):=by
 have hl:=hk.nmaps;unfold Bk
 rw [show zp (λz=>EY mt n z) 0=some (XC () (mt.Maps.findSome? (λx=>cond (x.At == n) (some (x,true)) none))) from Zd (λi x hx=>by
  have hi:=(Qb.1 hx).1;show EY mt n (i:Int)=_;unfold EY;rw [Xn hx,zt,hx,zP (by omega)];simp only [cond_true,Qa]
  cases x.At == n <;> rfl) (by
  show EY mt n (mt.Maps.length:Int)=_;unfold EY
  rw [Xo];rfl),zxo (λx:zS=>x.At == n)]
 unfold zF2 Kd;cases mt.Maps.find? (λx=>x.At == n) <;> rfl
theorem zB6(h:Xi l L){a b:List Tx}(ha:ShL a)(hb2:∀t∈b,t.length≤25):D9 L a b=some (Kv L a b):=by
 unfold D9;by_cases hn:a.length=b.length
 .rw [show ((a.length:Int) == (b.length:Int))=true by rw [hn];exact beq_self_eq_true _]
  exact zw2 (body:=λz=>EL L a b z) ha.len hn (λi x y hx hy=>by
   show EL L a b (i:Int)=_;have:=ha.2 x (Qc hx);have:=hb2 y (Qc hy);unfold EL;rw [Xn hx,zt,zt,hx,hy];simp only [cond_true,Qa]
   rw [OA h (by omega) (by omega)];rfl) (by
   show EL L a b (a.length:Int)=_;unfold EL
   rw [Xo];rfl)
 .rw [beq_eq_false_iff_ne.2 (show (a.length:Int)≠(b.length:Int) by omega),zzG hn];rfl
theorem zAo(h:Xi l L)(hk:XX mt){p q:List Tx}(hp:ShL p)(hq:ShL q){n:Int}:Bf L c mt loc stk b n p q=some (b||!Kf L mt p q n):=by
 unfold Bf Kf;rw [ztV hk];unfold zF2
 cases hf:Kd mt n with
 |none=>rfl
 |some x =>
  have hx:=WF hk hf;simp only [Qa,cond_true];rw [zB6 h hp hx.loc25,zB6 h hq hx.stk25];cases Kv L p x.Locals <;> rfl
theorem zER(h:Xi l L)(hk:XX mt){p q:List Tx}(hp:ShL p)(hq:ShL q){n:Int}:zfS L c mt loc stk b n p q=some (b||!Kf L mt p q n):=by
 unfold zfS Kf;rw [ztV hk];unfold zF2
 cases hf:Kd mt n with
 |none=>rfl
 |some x =>
  have hx:=WF hk hf;simp only [Qa,cond_true];rw [zB6 h hp hx.loc25,zB6 h hq hx.stk25];cases Kv L p x.Locals <;> rfl
theorem zFv(h:Xi l L)(hk:XX mt)(hl:ShL loc){n:Int}:Wd L c mt loc stk b n=some (b||mt.Traps.any (Gt L mt loc n)):=by
 unfold Wd
 rw [Of (body:=λz=>EX L c mt loc stk n z.1 z.2) (l:=mt.Traps) (p:=Gt L mt loc n) (by have:=hk.ntraps;omega) (λi t b hi=>by
  have ht:=Qc hi;have hc:=zyf hk ht
  have key:∀v:Tx,v=GW t->zdZ L c mt loc stk n b (i:Int) t v=some (.inl (b||Gt L mt loc n t,i64.wrap ((i:Int)+1))):=λv hv=>by
   unfold zdZ zfC;rw [hv,ztf h hc (by decide)];simp only [Qa];rw [zER h hk hl (sh1 hc)];unfold Gt Im;simp only [Qa];cases decide (t.From≤n)&&decide (n<t.To) <;> cases b <;> simp
  show EX L c mt loc stk n b (i:Int)=_;unfold EX;rw [Xn hi,zt,hi];simp only [cond_true,Qa]
  cases he:t.C == [] with
  |true=>exact key _ (by unfold GW;rw [he];rfl)
  |false=>exact key _ (by unfold GW;rw [he];rfl)) (λb=>by
  show EX L c mt loc stk n b (mt.Traps.length:Int)=_;unfold EX
  rw [Xo];rfl)]
 rfl
theorem Iy{s:List Tx}{e:Bool}(h:XL l L m mt loc stk b)(hk:XX mt)(hp:zg L m c mt loc stk b x=some (loc,s,e))
  (hr:zk L c mt loc stk b x=(Wa L c mt loc x s e).bind λv=>some (loc,v.1,v.2)) (hs:s<+:stk) (he:b=true->e=true):
  ∃p r,zg L m c mt loc stk b x=some p/\zk L c mt loc stk b x=some r/\Zm mt.Stack (p.1,p.2.1,p.2.2||!Kf L mt p.1 p.2.1 x.A) r/\X0 loc stk b p:=by
 have hl:=hs.length_le;have hS:ShL s:=⟨by have:=h.shS.1;omega,λt ht=>h.shS.2 t (hs.subset ht)⟩;refine ⟨(loc,s,e),(loc,s,e||!Kf L mt loc s x.A),hp,?_,KI λ_=>by have:=h.room;show (s.length:Int)≤mt.Stack;omega,KK he h.shL h.shS hs⟩;rw [hr];unfold Wa;rw [zAo h.made hk h.shL hS];rfl
theorem instr_test(ho:21≤x.Op/\x.Op≤36):zk L c mt loc stk b x=(Be L c mt loc stk b x).bind λv=>some (loc,v.1,v.2):=by
 unfold zk;rw [cf (by omega),ct ho];rfl
theorem zBs(h:XL l L m mt loc stk b)(hk:XX mt)(ho:20≤x.Op/\x.Op≤36):
  ∃p r,zg L m c mt loc stk b x=some p/\zk L c mt loc stk b x=some r/\Zm mt.Stack (p.1,p.2.1,p.2.2||!Kf L mt p.1 p.2.1 x.A) r/\X0 loc stk b p:=by
 by_cases h0:x.Op=20
 .refine Iy (s:=stk) (e:=b) h hk (zAL h0) ?_ (QS _) id;unfold zk Wa;rw [cf (by omega),cf (by omega),qt h0];simp only [cond_false,cond_true];rw [zAo h.made hk h.shL h.shS];rfl
 by_cases h1:x.Op≤26
 .refine Iy (s:=(Xl L [84] [[73]] stk b).1) (e:=(Xl L [84] [[73]] stk b).2) h hk (zAM h ⟨by omega,h1⟩) ?_ (UA _ _ _ _ _) (Zw _ _ _);rw [instr_test ⟨by omega,ho.2⟩];unfold Be;rw [decide_eq_true h1];simp only [cond_true];rw [Ug h.made (sh1 Uu.1) h.shS,ZN [78] [84]];rfl
 by_cases h2:x.Op≤32
 .refine Iy (s:=(Xl L [84] [[73],[73]] stk b).1) (e:=(Xl L [84] [[73],[73]] stk b).2) h hk (zAN h ⟨by omega,h2⟩) ?_ (UA _ _ _ _ _) (Zw _ _ _);rw [instr_test ⟨by omega,ho.2⟩];unfold Be;rw [decide_eq_false h1,decide_eq_true h2];simp only [cond_true,cond_false];rw [Ug h.made (sh2 Uu.1 Uu.1) h.shS,ZN [78] [84]];rfl
 have e2:=(zpO (b:=b) h.on).1;by_cases h3:x.Op≤34
 .refine Iy (s:=(Xv [84] stk b).2.1) (e:=(Xv [84] stk b).2.2) h hk (zAO h ⟨by omega,h3⟩) ?_ (WO _ _ _) Og;rw [instr_test ⟨by omega,ho.2⟩];unfold Be;rw [decide_eq_false h1,decide_eq_false h2,decide_eq_true h3];simp only [cond_true,cond_false];rw [WM h.shS];simp only [Qa];rw [e2]
 .refine Iy (s:=(Xv [84] (Xv [84] stk b).2.1 (Xv [84] stk b).2.2).2.1) (e:=(Xv [84] (Xv [84] stk b).2.1 (Xv [84] stk b).2.2).2.2) h hk (zAP h ⟨by omega,ho.2⟩) ?_ ((WO _ _ _).trans (WO _ _ _)) (λe=>Og (Og e));rw [instr_test ⟨by omega,ho.2⟩];unfold Be;rw [decide_eq_false h1,decide_eq_false h2,decide_eq_false h3];simp only [cond_false];rw [WM h.shS];simp only [Qa];rw [e2,WM (zun h.shS (by decide)).2];simp only [Qa];rw [(zpO λt ht=>h.on t ((WO _ _ _).subset ht)).1]
end
section
variable {l L : List za} {m : List (Tx × Int)} {c : Tx} {mt : zb} {loc stk : List Tx} {b : Bool} {x : zr}
theorem instr_field(ho:37≤x.Op/\x.Op≤41):zk L c mt loc stk b x=(Bl L c mt loc stk b x).bind λv=>some (loc,v.1,v.2):=by
 unfold zk;rw [cf (by omega),cf (by omega),qf (show x.Op≠20 by omega),ct ho];rfl
def Wl(L:List za)(C:Tx):Bool:=match cl L C with |some y=>!y.Interface |none=>false
theorem zDo(h:XL l L m mt loc stk b)(ho:x.Op=37)(hC:x.C.length≤25):
  ∃p r,zg L m c mt loc stk b x=some p/\zk L c mt loc stk b x=some r/\Zm mt.Stack p r/\X0 loc stk b p:=by
 have h26:=h.made.len
 have hP:zg L m c mt loc stk b x=some (loc,stk++[x.C],b||!Wl L x.C):=by
  rw [zvq (by omega)];unfold zev Wl;rw [qt ho];simp only [cond_true];rw [KJ h.map];simp only [Qa];rw [ZP h.shS.len];cases cl L x.C <;> rfl
 have hK:X0 loc stk b (loc,stk++[x.C],b||!Wl L x.C):=Uh (λe=>by rw [e];rfl) h.shL h.shS (QS _) hC λhb=>.inr (by
  simp only [Qo,Q9] at hb;have hn:=hb.2;unfold Wl at hn
  cases hc:cl L x.C with
  |none=>rw [hc] at hn;cases hn
  |some y=>exact BN (W3 (IR h.made (ZG hc))) hC)
 cases hc:cl L x.C with
 |none =>
  have e:Wl L x.C=false:=by unfold Wl;rw [hc]
  refine ⟨_,(loc,stk,true),hP,?_,Kl (by rw [e];simp) rfl,hK⟩;rw [instr_field (by omega)];unfold Bl;rw [Zj (by omega)];simp only [Qa];rw [G4,HG hc];rfl
 |some y =>
  have e:Wl L x.C=!y.Interface:=by unfold Wl;rw [hc]
  refine ⟨_,_,hP,?_,Uy _,hK⟩
  .rw [instr_field (by omega)];unfold Bl;rw [Zj (by omega)];simp only [Qa];rw [G4,ZG hc,qt ho];simp only [Qt,cond_false,cond_true];rw [UW,hc];simp only [Qa];rw [ZO h.shS.len,<-e];rfl
theorem zrJ{b0:Bool}{ts:List Tx}(hb:b0=true->b=true)(hl:ShL loc)(hs:ShL stk):X0 loc stk b0 (loc,Xl L [84] ts stk b):=
 KK (s:=(Xl L [84] ts stk b).1) (b:=(Xl L [84] ts stk b).2) (λe=>Zw _ _ _ (hb e)) hl hs (UA _ _ _ _ _)
def ZU(L:List za)(b:Bool)(x:zr):Bool:=b||!((XZ L x.C x.M).2.2&&((XZ L x.C x.M).2.1.Static == ((x.Op == (40:Int))||(x.Op == (41:Int)))))
def Ka(L:List za)(stk:List Tx)(b:Bool)(x:zr):List Tx×Bool:=
 cond (x.Op == 38) ((Xl L [84] [x.C] stk (ZU L b x)).1++[(XZ L x.C x.M).2.1.Type_],(Xl L [84] [x.C] stk (ZU L b x)).2)
  (cond (x.Op == 39) (Xl L [84] [(XZ L x.C x.M).2.1.Type_,x.C] stk (ZU L b x))
   (cond (x.Op == 40) (stk++[(XZ L x.C x.M).2.1.Type_],ZU L b x) (Xl L [84] [(XZ L x.C x.M).2.1.Type_] stk (ZU L b x))))
theorem Ip(h:XL l L m mt loc stk b)(ho:38≤x.Op/\x.Op≤41)(hC:x.C.length≤25):zg L m c mt loc stk b x=some (loc,Ka L stk b x):=by
 have hT:=(zAf h.made x.C x.M).1;rw [zvq (by omega)];unfold zev Ka;rw [qf (show x.Op≠37 by omega),zxn h.made h.map h.lens];simp only [cond_false,Qa];rw [show (((Xq L x.C).findSome? (Hn L x.M)).getD ([],zF,false))=XZ L x.C x.M from rfl];rw [show (b||!((XZ L x.C x.M).2.2&&((XZ L x.C x.M).2.1.Static == ((x.Op == (40:Int))||(x.Op == (41:Int))))))=ZU L b x from rfl];rw [Z2 h.made h.map (sh1 hC) h.shS,Z2 h.made h.map (sh2 hC hT) h.shS,Z2 h.made h.map (sh1 hT) h.shS,ZP h.shS.len];simp only [Qa,Qw];rw [ZP (Z3 (by decide) _ _ _ h.shS).len];cases x.Op == 38 <;> cases x.Op == 39 <;> cases x.Op == 40 <;> rfl
theorem zCp(hb:ZU L b x=true):(Ka L stk b x).2=true:=by
 unfold Ka
 cases x.Op == 38 <;> cases x.Op == 39 <;> cases x.Op == 40 <;> first |exact Zw _ _ _ hb |exact hb
theorem IM(h:XL l L m mt loc stk b)(hC:x.C.length≤25):X0 loc stk b (loc,Ka L stk b x):=by
 obtain ⟨hT,hM⟩:=zAf h.made x.C x.M
 have hb0:b=true->ZU L b x=true:=λe=>by unfold ZU;rw [e];rfl
 have hF:ZU L b x=false->Dh (XZ L x.C x.M).2.1.Type_:=λe=>by
  unfold ZU at e;simp only [Qo,Q9,Qd] at e;exact BN (hM e.2.1) hT
 have ht:∀{ts:List Tx},(Xl L [84] ts stk (ZU L b x)).2=false->ZU L b x=false:=λ{ts} e=>by
  cases hq:ZU L b x with
  |false=>rfl
  |true=>rw [Zw _ _ _ hq] at e;cases e
 unfold Ka
 cases x.Op == 38 with
 |true=>exact Uh (λe=>Zw _ _ _ (hb0 e)) h.shL h.shS (UA _ _ _ _ _) hT λe=>.inr (hF (ht e))
 |false =>
  cases x.Op == 39 with
  |true=>exact zrJ hb0 h.shL h.shS
  |false =>
   cases x.Op == 40 with
   |true=>exact Uh hb0 h.shL h.shS (QS _) hT λe=>.inr (hF e)
   |false=>exact zrJ hb0 h.shL h.shS
theorem zze(h:XL l L m mt loc stk b)(ho:38≤x.Op/\x.Op≤41)(hC:x.C.length≤25):
  ∃p r,zg L m c mt loc stk b x=some p/\zk L c mt loc stk b x=some r/\Zm mt.Stack p r/\X0 loc stk b p:=by
 have h26:=h.made.len;have hT:=(zAf h.made x.C x.M).1
 have hD:Bl L c mt loc stk b x=cond (!Xh L x.C) (some (stk,true)) (cond (ZU L b x) (some (stk,ZU L b x))
   (cond ((x.Op == (39:Int))||(x.Op == (41:Int))) ((z6 L c mt loc stk (ZU L b x) [(XZ L x.C x.M).2.1.Type_]).bind λv12=>H4 L c mt loc x (XZ L x.C x.M) v12.1 v12.2) (H4 L c mt loc x (XZ L x.C x.M) stk (ZU L b x)))):=by
  unfold Bl;rw [Zj (by omega)];simp only [Qa];rw [G4,qf (show x.Op≠37 by omega),zqO h.made h.lens];rfl
 cases hb:ZU L b x with
 |true =>
  refine ⟨_,(loc,stk,true),Ip (c:=c) h ho hC,?_,Kl (zCp hb) rfl,IM h hC⟩;rw [instr_field (by omega),hD,hb];cases Xh L x.C <;> rfl
 |false =>
  have hn:Xh L x.C=true:=by
   cases hq:Xh L x.C with
   |true=>rfl
   |false =>
    have:XZ L x.C x.M=([],zF,false):=by unfold XZ;rw [WX hq];rfl
    unfold ZU at hb;rw [this] at hb;simp at hb
  rw [hn,hb] at hD;simp only [Qt,cond_false] at hD;have hr:=h.room;have hl1:=DI (L:=L) [84] [x.C] stk false;have hl2:=DI (L:=L) [84] [(XZ L x.C x.M).2.1.Type_,x.C] stk false;have hl3:=DI (L:=L) [84] [(XZ L x.C x.M).2.1.Type_] stk false;have hs3:=Z3 (L:=L) (e:=[84]) (by decide) [(XZ L x.C x.M).2.1.Type_] stk false h.shS
  have ho4:x.Op=38∨x.Op=39∨x.Op=40∨x.Op=41:=by omega
  rcases ho4 with h4 |h4 |h4 |h4
  .have e:Ka L stk b x=((Xl L [84] [x.C] stk false).1++[(XZ L x.C x.M).2.1.Type_],(Xl L [84] [x.C] stk false).2):=by unfold Ka;rw [hb,qt h4];rfl
   have hO:=Ip (c:=c) h ho hC;have hK:=IM (x:=x) h hC;rw [e] at hO hK;refine ⟨_,_,hO,?_,Uy _,hK⟩
   .rw [instr_field (by omega),hD];unfold H4 Bp;rw [qf (show x.Op≠39 by omega),qf (show x.Op≠41 by omega),qt h4];simp only [Q0,Bool.true_or,cond_false,cond_true];rw [Ug h.made (sh1 hC) h.shS,ZN [78] [84]];simp only [Qa,Qw];rw [ZO (Z3 (by decide) _ _ _ h.shS).len];rfl
  .have e:Ka L stk b x=Xl L [84] [(XZ L x.C x.M).2.1.Type_,x.C] stk false:=by unfold Ka;rw [hb,qf (show x.Op≠38 by omega),qt h4];rfl
   refine ⟨_,(loc,Xl L [84] [(XZ L x.C x.M).2.1.Type_,x.C] stk false),Ip (c:=c) h ho hC,?_,?_,IM (x:=x) h hC⟩
   .rw [instr_field (by omega),hD];unfold H4 Bp;rw [qf (show x.Op≠38 by omega),qf (show x.Op≠40 by omega),qt h4];simp only [Q0,Bool.true_or,Jw,cond_false,cond_true];rw [Ug h.made (sh1 hT) h.shS,ZN [78] [84]];simp only [Qa,Qw];rw [Ug h.made (sh1 hC) hs3,ZN [78] [84]];rfl
   .rw [e];exact KI λ_=>by show ((Xl L [84] [(XZ L x.C x.M).2.1.Type_,x.C] stk false).1.length:Int)≤mt.Stack;omega
  .have e:Ka L stk b x=(stk++[(XZ L x.C x.M).2.1.Type_],false):=by unfold Ka;rw [hb,qf (show x.Op≠38 by omega),qf (show x.Op≠39 by omega),qt h4];rfl
   have hO:=Ip (c:=c) h ho hC;have hK:=IM (x:=x) h hC;rw [e] at hO hK;refine ⟨_,_,hO,?_,Uy _,hK⟩
   .rw [instr_field (by omega),hD];unfold H4 Bp;rw [qf (show x.Op≠38 by omega),qf (show x.Op≠39 by omega),qf (show x.Op≠41 by omega),qt h4];simp only [Q0,Jw,cond_false,cond_true];rw [ZO h.shS.len];rfl
  .have e:Ka L stk b x=Xl L [84] [(XZ L x.C x.M).2.1.Type_] stk false:=by unfold Ka;rw [hb,qf (show x.Op≠38 by omega),qf (show x.Op≠39 by omega),qf (show x.Op≠40 by omega)];rfl
   refine ⟨_,(loc,Xl L [84] [(XZ L x.C x.M).2.1.Type_] stk false),Ip (c:=c) h ho hC,?_,?_,IM (x:=x) h hC⟩
   .rw [instr_field (by omega),hD];unfold H4 Bp;rw [qf (show x.Op≠38 by omega),qf (show x.Op≠39 by omega),qf (show x.Op≠40 by omega),qt h4];simp only [Q0,Jw,cond_false,cond_true];rw [Ug h.made (sh1 hT) h.shS,ZN [78] [84]];rfl
   .rw [e];exact KI λ_=>by show ((Xl L [84] [(XZ L x.C x.M).2.1.Type_] stk false).1.length:Int)≤mt.Stack;omega
end
section
variable {l L : List za} {m : List (Tx × Int)} {c : Tx} {mt : zb} {loc stk : List Tx} {b : Bool} {x : zr}
theorem instr_call(ho:42≤x.Op/\x.Op≤45):zk L c mt loc stk b x=(Eu L c mt loc stk b x).bind λv=>some (loc,v.1,v.2):=by
 unfold zk;rw [cf (by omega),cf (by omega),qf (show x.Op≠20 by omega),cf (by omega),ct ho];rfl
def De(t:Tx)(p:List Tx×Bool):List Tx×Bool:=cond (!(t == [86])) (p.1++[t],p.2) p
def Kx(L:List za)(c:Tx)(x:zr)(s:Tx)(p:List Tx×Bool):List Tx×Bool:=
 cond ((x.Op == 43)||(x.Op == 45)) (Xl L [84] [x.C] p.1 p.2)
  (cond (x.Op == 44) ((Xg [84] p.1 p.2).2.1,(Xg [84] p.1 p.2).2.2||!(X4 L (Xg [84] p.1 p.2).1 x.C&&(X4 L (Xg [84] p.1 p.2).1 c&&(Xq L c).any (λy=>s == y)))) p)
def Hu(L:List za)(c:Tx)(stk:List Tx)(b:Bool)(x:zr)(s:Tx)(f:zb)(ok:Bool):List Tx×Bool:=
 De f.Ret (Kx L c x s (Xl L [84] f.Params.reverse stk (b||!(ok&&(f.Static == (x.Op == (42:Int)))))))
theorem zxN(c:Tx)(x:zr)(s:Tx)(p:List Tx×Bool):(Kx L c x s p).1<+:p.1:=by
 unfold Kx
 cases (x.Op == 43)||(x.Op == 45) with
 |true=>exact UA _ _ _ _ _
 |false =>
  cases x.Op == 44 with
  |true=>exact Ge _ _ _
  |false=>exact QS _
theorem zt4{c:Tx}{x:zr}{s:Tx}{p:List Tx×Bool}(h:p.2=true):(Kx L c x s p).2=true:=by
 unfold Kx
 cases (x.Op == 43)||(x.Op == 45) with
 |true=>exact Zw _ _ _ h
 |false =>
  cases x.Op == 44 with
  |true=>show ((Xg [84] p.1 p.2).2.2||_)=true;rw [Gf h];rfl
  |false=>exact h
theorem zyq(h:XL l L m mt loc stk b){s:Tx}{f:zb}{ok:Bool}(hR:f.Ret.length≤25)(hM:ok=true->ZT f.Ret=true):X0 loc stk b (loc,Hu L c stk b x s f ok):=by
 have hp:=(zxN (L:=L) c x s (Xl L [84] f.Params.reverse stk (b||!(ok&&(f.Static == (x.Op == (42:Int))))))).trans (UA _ _ _ _ _);have hb:b=true->(Kx L c x s (Xl L [84] f.Params.reverse stk (b||!(ok&&(f.Static == (x.Op == (42:Int))))))).2=true:=λe=>zt4 (Zw _ _ _ (by rw [e];rfl));unfold Hu De
 cases hv:f.Ret == [86] with
 |true=>exact KK hb h.shL h.shS hp
 |false =>
  refine Uh hb h.shL h.shS hp hR λe=>.inr ?_
  have:ok=true:=by
   cases ok with
   |true=>rfl
   |false =>
    rw [zt4 (Zw _ _ _ (by simp))] at e;cases e
  have hr:=hM this;unfold ZT at hr;rw [hv] at hr;exact BN (by simpa using hr) hR
theorem zAZ{f:zb}(h1:∀s∈f.Params,Xs s=true)(h2:f.Params.length≤6):ShL f.Params:=⟨by omega,λs hs=>Gb (h1 s hs)⟩
theorem zCE{f:zb}{s:List Tx}{e:Bool}(hs:s.length≤1000):Wi L m c mt loc f s e=some (De f.Ret (s,e)):=by
 unfold Wi De;rw [ZP hs];cases f.Ret == [86] <;> rfl
theorem zEv(h:XL l L m mt loc stk b)(ho:42≤x.Op/\x.Op≤45)(hC:x.C.length≤25)(hc:c.length≤25){s:Tx}{f:zb}{ok:Bool}(h1:∀s∈f.Params,Xs s=true)(h2:f.Params.length≤6):
  EZ L m c mt loc stk b x s f ok=some (Hu L c stk b x s f ok):=by
 have h26:=UM h.made c;unfold EZ Hu;rw [Z2 h.made h.map (zAZ h1 h2) h.shS];simp only [Qa]
 generalize hq:Xl L [84] f.Params.reverse stk (b||!(ok&&(f.Static == (x.Op == (42:Int)))))=q
 have hs:ShL q.1:=by rw [<-hq];exact Z3 (by decide) _ _ _ h.shS
 obtain ⟨g1,g2⟩:=ZA (b:=q.2) hs (e:=[84]) (by decide)
 have hT:∀v:Bool,v=true->Bs L m c mt loc x s f q v=some (De f.Ret (Xl L [84] [x.C] q.1 q.2)):=λv hv=>by
  unfold Bs;rw [hv];simp only [cond_true];rw [Z2 h.made h.map (sh1 hC) hs];simp only [Qa,Qw];rw [zCE (Z3 (by decide) _ _ _ hs).len]
 have ho4:x.Op=42∨x.Op=43∨x.Op=44∨x.Op=45:=by omega
 unfold Kx
 rcases ho4 with h4 |h4 |h4 |h4
 .rw [qf (show x.Op≠43 by omega),qf (show x.Op≠45 by omega),qf (show x.Op≠44 by omega)];simp only [cond_false,Q0];unfold Bs;rw [qf (show x.Op≠44 by omega)];simp only [cond_false];exact zCE hs.len
 .rw [qt h4];simp only [cond_true,Bool.true_or];exact hT _ rfl
 .rw [qf (show x.Op≠43 by omega),qf (show x.Op≠45 by omega),qt h4];simp only [cond_false,Q0,cond_true];unfold Bs;rw [qt h4];simp only [cond_false,cond_true];rw [G3 hs.len];simp only [Qa];rw [zq6 h.made h.map g1 hC,zq6 h.made h.map g1 hc,WW h.made h.map];simp only [Qa];rw [zq7 (by omega)];simp only [Qa];rw [zCE g2.len,zCE g2.len];cases X4 L (Xg [84] q.1 q.2).1 x.C <;> cases X4 L (Xg [84] q.1 q.2).1 c <;> rfl
 .rw [qf (show x.Op≠43 by omega),qt h4];simp only [cond_false,cond_true,Jw];exact hT _ rfl
theorem zB9(T:List Tx)(s:Tx):(T.any λy=>s == y)=T.any λy=>y == s:=by
 congr 1;funext y;rw [QT,beq_iff_eq,beq_iff_eq];exact eq_comm
theorem zFN(h:XL l L m mt loc stk false)(ho:42≤x.Op/\x.Op≤45)(hC:x.C.length≤25)(hc:c.length≤25){s:Tx}{f:zb}(h1:∀s∈f.Params,Xs s=true)(h2:f.Params.length≤6):
  H8 L c mt loc stk false x f s true=Wb L c mt loc f (Kx L c x s (Xl L [84] f.Params.reverse stk false)).1 (Kx L c x s (Xl L [84] f.Params.reverse stk false)).2:=by
 have h26:=UM h.made c;unfold H8;simp only [Qt,Q0,cond_false];rw [Ug h.made (zAZ h1 h2) h.shS,ZN [78] [84]];simp only [Qa];generalize hq:Xl L [84] f.Params.reverse stk false=q
 have hs:ShL q.1:=by rw [<-hq];exact Z3 (by decide) _ _ _ h.shS
 obtain ⟨g1,g2⟩:=ZA (b:=q.2) hs (e:=[78]) (by decide)
 have ho4:x.Op=42∨x.Op=43∨x.Op=44∨x.Op=45:=by omega
 unfold Kx;rw [GG hs.len];simp only [Qa];rw [OA h.made g1 hC,OA h.made g1 hc,W6 h.made];simp only [Qa];rw [zn8 (by omega)];simp only [Qa]
 rcases ho4 with h4 |h4 |h4 |h4
 .rw [qt h4,qf (show x.Op≠43 by omega),qf (show x.Op≠45 by omega),qf (show x.Op≠44 by omega)];rfl
 .rw [qt h4,qf (show x.Op≠42 by omega),qf (show x.Op≠44 by omega),ZN [84] [78]];rfl
 .rw [qt h4,qf (show x.Op≠42 by omega),qf (show x.Op≠43 by omega),qf (show x.Op≠45 by omega)];simp only [QL,cond_true,cond_false,Q0];have e2:=KF [84] [78] q.1 q.2;rw [zB9,e2]
  have e3:((Xg [78] q.1 q.2).2.2||!(X4 L (Xg [84] q.1 q.2).1 x.C&&(X4 L (Xg [84] q.1 q.2).1 c&&(Xq L c).any (λy=>y == s))))=((Xg [78] q.1 q.2).2.2||!(X4 L (Xg [78] q.1 q.2).1 x.C&&(X4 L (Xg [78] q.1 q.2).1 c&&(Xq L c).any (λy=>y == s)))):=
   Iu λe=>by rw [GL [78] [84] q.1 q.2 e]
  rw [e3];cases X4 L (Xg [78] q.1 q.2).1 x.C <;> cases X4 L (Xg [78] q.1 q.2).1 c <;> cases (Xq L c).any (λy=>y == s) <;> simp
 .rw [qt h4,qf (show x.Op≠42 by omega),qf (show x.Op≠43 by omega),qf (show x.Op≠44 by omega),ZN [84] [78]];rfl
theorem zxa(h:XL l L m mt loc stk b)(ho:42≤x.Op/\x.Op≤45)(hC:x.C.length≤25)(hc:c.length≤25){s:Tx}{f:zb}{ok:Bool}(h1:∀s∈f.Params,Xs s=true)(h2:f.Params.length≤6)(h3:f.Ret.length≤25)(h4:ok=true->ZT f.Ret=true)
  (hP:ER L m c mt loc stk b x=EZ L m c mt loc stk b x s f ok) (hD:Eu L c mt loc stk b x=H8 L c mt loc stk b x f s (ok&&(f.Static == (x.Op == (42:Int))))):
  ∃p r,zg L m c mt loc stk b x=some p/\zk L c mt loc stk b x=some r/\Zm mt.Stack p r/\X0 loc stk b p:=by
 have hO:zg L m c mt loc stk b x=some (loc,Hu L c stk b x s f ok):=by
  rw [zCT ho,hP,zEv h ho hC hc h1 h2];rfl
 have hK:=zyq (c:=c) (x:=x) (s:=s) h h3 h4
 cases hb:(b||!(ok&&(f.Static == (x.Op == (42:Int))))) with
 |true =>
  refine ⟨_,(loc,stk,true),hO,?_,Kl ?_ rfl,hK⟩
  .rw [instr_call ho,hD];unfold H8;rw [hb];rfl
  .show (Hu L c stk b x s f ok).2=true;have:(Kx L c x s (Xl L [84] f.Params.reverse stk (b||!(ok&&(f.Static == (x.Op == (42:Int))))))).2=true:=zt4 (Zw _ _ _ hb);unfold Hu De;cases f.Ret == [86] <;> exact this
 |false =>
  have hb1:b=false:=by simp only [Qo] at hb;exact hb.1
  have hb2:(ok&&(f.Static == (x.Op == (42:Int))))=true:=by simp only [Qo,Q9] at hb;exact hb.2
  subst hb1;rw [hb2,zFN h ho hC hc h1 h2] at hD;have hl:=(zxN (L:=L) c x s (Xl L [84] f.Params.reverse stk false)).length_le;have hl2:=DI (L:=L) [84] f.Params.reverse stk false;have hr:=h.room;have hsh:=h.shS.1
  have eK:Hu L c stk false x s f ok=De f.Ret (Kx L c x s (Xl L [84] f.Params.reverse stk false)):=by unfold Hu;rw [hb]
  generalize Kx L c x s (Xl L [84] f.Params.reverse stk false)=q at hD hl eK
  cases hv:f.Ret == [86] with
  |true =>
   refine ⟨_,(loc,q.1,q.2),hO,?_,?_,hK⟩
   .rw [instr_call ho,hD]
    unfold Wb
    rw [hv];rfl
   .rw [eK];unfold De;rw [hv]
    exact KI λ_=>by omega
  |false =>
   rw [eK] at hO hK;unfold De at hO hK;rw [hv] at hO hK;refine ⟨_,_,hO,?_,Uy _,hK⟩;rw [instr_call ho,hD]
   unfold Wb
   rw [hv];simp only [QL,cond_true];rw [ZO (by omega)];rfl
theorem zBq(h:XL l L m mt loc stk b)(ho:42≤x.Op/\x.Op≤45)(hC:x.C.length≤25)(hc:c.length≤25):
  ∃p r,zg L m c mt loc stk b x=some p/\zk L c mt loc stk b x=some r/\Zm mt.Stack p r/\X0 loc stk b p:=by
 by_cases h5:x.Op=45
 .obtain ⟨⟨k1,k2,k3,k4⟩,k5⟩:=zE8 h.made x.C x.M;refine zxa (s:=(KE L x.C x.M).1) (f:=(KE L x.C x.M).2.1) (ok:=(KE L x.C x.M).2.2) h ho hC hc k1 k2 k3 k4 ?_ ?_
  .unfold ER;rw [zpx h.made h.map h.lens,qt h5,zz9 h.made h.map h.lens];rfl
  .unfold Eu;rw [qt h5,zsd h.made h.lens,qf (show x.Op≠42 by omega)];show H8 L c mt loc stk b x _ _ _=_;congr 1
   cases hq:(KE L x.C x.M).2.2 with
   |false=>rfl
   |true=>rw [k5 hq];rfl
 .obtain ⟨k1,k2,k3,k4⟩:=zAC h.made UB x.M (Xq L x.C);generalize hR:((Xq L x.C).findSome? (X3 L UB x.M)).getD ([],zM,false)=R at k1 k2 k3 k4;refine zxa (s:=R.1) (f:=R.2.1) (ok:=R.2.2&&!R.2.1.Abstract) h ho hC hc k1 k2 k3 (λe=>k4 (by rw [Qd] at e;exact e.1)) ?_ ?_
  .unfold ER;rw [zpx h.made h.map h.lens,qf h5,hR];rfl
  .unfold Eu;rw [qf h5,zmm h.made h.lens,hR];show H8 L c mt loc stk b x _ _ _=_;congr 1;cases R.2.2 <;> cases R.2.1.Abstract <;> cases R.2.1.Static == (x.Op == (42:Int)) <;> rfl
end
section
variable {l L : List za} {m : List (Tx × Int)} {c : Tx} {mt : zb} {loc stk : List Tx} {b : Bool} {x : zr}
theorem instr_arrays(ho:49≤x.Op/\x.Op≤55):zk L c mt loc stk b x=(Hi L c mt loc stk b x).bind λv=>some (loc,v.1,v.2):=by
 unfold zk;rw [cf (by omega),cf (by omega),qf (show x.Op≠20 by omega),cf (by omega),cf (by omega),ct ho];rfl
def Gq(C:Tx):Tx:=cond (Xs (91 ::C)) (91 ::C) []
theorem zE4{C:Tx}(h:Xs (91 ::C)=true):Xs C=true:=by
 have e:XQ (91 ::C)=C:=by rw [HO,if_pos rfl]
 unfold Xs at h ⊢;rw [e] at h
 have hb:brk (XQ C)=false:=by
  rw [Qp] at h
  rcases h with h |h
  .have:XQ C=[73]:=by simpa using h
   rw [this];rfl
  .exact Ox h
 rw [Od hb];exact h
theorem ztM{C:Tx}(h:C.length≤1000):zn1 C=some (Gq C):=by
 unfold zn1 Gq
 have hl:Len C:=by show C.length≤9223372036854775807;omega
 have hl2:Len (91 ::C):=by show (91 ::C).length≤9223372036854775807;simp;omega
 rw [W4 hl,zzQ (by simp;omega)];simp only [Qa,List.singleton_append];rw [W4 hl2]
 cases h1:Xs (91 ::C) with
 |true=>rw [zE4 h1];rfl
 |false=>cases Xs C <;> rfl
theorem zud{C:Tx}(h:C.length≤1000):zn5 C=some (Gq C):=by
 unfold zn5 Gq
 have hl2:Len (91 ::C):=by show (91 ::C).length≤9223372036854775807;simp;omega
 rw [zzQ (by simp;omega)];simp only [Qa,List.singleton_append];rw [HS hl2];cases Xs (91 ::C) <;> rfl
theorem zzP(x:UInt8):((x.toNat:Int) == (91:Int))=(x == 91):=by
 rw [QT,beq_iff_eq,beq_iff_eq];constructor
 .intro h;exact J9.1 (by simpa using (Int.ofNat_inj.1 h))
 .intro h;rw [h];rfl
theorem zvx{s:Tx}(h:Len s):zpF s=some (Zi s):=by
 unfold zpF Zi;rw [HS h]
 cases hm:Xs s with
 |false=>rfl
 |true =>
  cases s with
  |nil =>
   exfalso;unfold Xs at hm;rw [show XQ (XQ [])=[] from rfl] at hm;simp at hm;exact On hm rfl
  |cons x r =>
   simp only [Qa,Qt,cond_false,QC];rw [HM];simp only [Q7,Qa,zzP];rw [show (1:Int)=((1:Nat):Int) from rfl,Hd (by simp)];show cond (!(x == 91)) _ _=some (cond (x == 91) _ _);cases x == 91 <;> rfl
theorem zvw(hs:ShL stk):zfz L c mt loc stk b=some (XP [78] stk b):=by
 unfold zfz XP;obtain ⟨h1,h2⟩:=ZA (b:=b) hs (e:=[78]) (by decide);rw [GG hs.len];simp only [Qa];rw [zvx (Wv h1)]
 cases hq:(Xg [78] stk b).1 == [78] with
 |true =>
  have e:(Xg [78] stk b).1=[78]:=by simpa using hq
  rw [e];simp
 |false=>rfl
def E5(t:Tx):Bool:=(t == [78])||(decide (1<(t.length:Int))&&brk t)
theorem zEY(t:Tx):((cond (t == [78]) (some true) ((cond (decide (1<(List.length t:Int))) ((idx t 0).bind λv16=>some ((v16.toNat:Int) == (91:Int))) (some false)).bind λv17=>some v17)):Option Bool)=some (E5 t):=by
 unfold E5
 cases t == [78] with
 |true=>rfl
 |false =>
  cases t with
  |nil=>rfl
  |cons x r =>
   rw [HM];simp only [Q7,Qa,zzP];show ((cond (decide (1<(List.length (x ::r):Int))) (some (x == 91)) (some false)).bind λv17=>some v17)=some (false||(decide (1<(List.length (x ::r):Int))&&(x == 91)));cases decide (1<(List.length (x ::r):Int)) <;> rfl
theorem zF0{t:Tx}(h:onS t):E5 t=((Zi t).2||(t == [78])):=by
 rcases h with rfl |h
 .unfold E5;rw [beq_self_eq_true];simp
 .unfold E5 Zi;rw [h]
  cases hb:brk t with
  |false=>simp
  |true =>
   have h1:=(zra h hb).1
   have h2:t.drop 1≠[]:=λe=>by
    rw [e] at h1;unfold Xs at h1;rw [show XQ (XQ [])=[] from rfl] at h1;simp at h1;exact On h1 rfl
   have h3:1<t.length:=by
    have:0<(t.drop 1).length:=List.length_pos_iff.2 h2;simp at this;omega
   rw [decide_eq_true (show 1<(t.length:Int) by omega)];simp
def thA(L:List za)(C:Tx):Bool:=Xs (91 ::C)&&thN L (91 ::C)
theorem zD7(C:Tx)(T:Tx->Bool)(h:Xs (91 ::C)=true->T (91 ::C)=thN L (91 ::C)):(cond (!(Gq C == [])) (some (T (Gq C))) (some false))=some (thA L C):=by
 unfold Gq thA
 cases hm:Xs (91 ::C) with
 |true =>
  rw [<-h hm];rfl
 |false=>rfl
theorem zBo(h:XL l L m mt loc stk b)(ho:x.Op=49∨x.Op=50∨x.Op=52∨x.Op=53)(hC:x.C.length≤10):
  ∃p r,zg L m c mt loc stk b x=some p/\zk L c mt loc stk b x=some r/\Zm mt.Stack p r/\X0 loc stk b p:=by
 have hI:=Uu.1
 have hA:([91,73]:Tx).length≤25:=by decide
 have hr:=h.room
 rcases ho with h4 |h4 |h4 |h4
 .refine ⟨(loc,(Xl L [84] [[73]] stk b).1++[[91,73]],(Xl L [84] [[73]] stk b).2),_,?_,?_,Uy _,Uh (Zw _ _ _) h.shL h.shS (UA _ _ _ _ _) hA λ_=>.inr ⟨hA,.inr (by decide +kernel)⟩⟩
  .rw [W0 (by omega)];unfold Hl;rw [qt h4];simp only [cond_true];rw [Z2 h.made h.map (sh1 hI) h.shS];simp only [Qa,Qw];rw [ZP (Z3 (by decide) _ _ _ h.shS).len];rfl
  .rw [instr_arrays (by omega)];unfold Hi;rw [qt h4];simp only [cond_true];rw [Ug h.made (sh1 hI) h.shS,ZN [78] [84]];simp only [Qa,Qw];rw [ZO (Z3 (by decide) _ _ _ h.shS).len];rfl
 .have hT:(Gq x.C).length≤25:=by
   unfold Gq;cases Xs (91 ::x.C)
   .exact QW _
   .show (91 ::x.C).length≤25;simp;omega
  refine ⟨(loc,(Xl L [84] [[73]] stk (b||!thA L x.C)).1++[Gq x.C],(Xl L [84] [[73]] stk (b||!thA L x.C)).2),_,?_,?_,Uy _,Uh (λe=>Zw _ _ _ (by rw [e];rfl)) h.shL h.shS (UA _ _ _ _ _) hT λe=>.inr ?_⟩
  .rw [W0 (by omega)];unfold Hl;rw [qf (show x.Op≠49 by omega),qt h4];simp only [cond_true,cond_false];rw [ztM (by omega)];simp only [Qa];rw [WH h.made h.map hT];simp only [Qa];rw [zD7 x.C (ZS L) λhm=>zur hm];simp only [Qa];rw [Z2 h.made h.map (sh1 hI) h.shS];simp only [Qa,Qw];rw [ZP (Z3 (by decide) _ _ _ h.shS).len];rfl
  .rw [instr_arrays (by omega)];unfold Hi;rw [qf (show x.Op≠49 by omega),qt h4];simp only [cond_true,cond_false];rw [zud (by omega)];simp only [Qa];rw [Kp h.made (by omega)];simp only [Qa];rw [zD7 x.C (thN L) λhm=>rfl];simp only [Qa];rw [Ug h.made (sh1 hI) h.shS,ZN [78] [84]];simp only [Qa,Qw];rw [ZO (Z3 (by decide) _ _ _ h.shS).len];rfl
  .have hth:thA L x.C=true:=by
    cases hq:thA L x.C with
    |true=>rfl
    |false=>rw [hq,Zw _ _ _ (by simp)] at e;cases e
   unfold thA at hth;rw [Qd] at hth;unfold Gq at hT ⊢;rw [hth.1] at hT ⊢;exact BN hth.1 hT
 .refine ⟨(loc,(Xl L [84] [[73],[91,73]] stk b).1++[[73]],(Xl L [84] [[73],[91,73]] stk b).2),_,?_,?_,Uy _,Uh (Zw _ _ _) h.shL h.shS (UA _ _ _ _ _) hI λ_=>.inr Uu⟩
  .rw [W0 (by omega)];unfold Hl;rw [qf (show x.Op≠49 by omega),qf (show x.Op≠50 by omega),qf (show x.Op≠51 by omega),qt h4];simp only [cond_true,cond_false];rw [Z2 h.made h.map (sh2 hA hI) h.shS];simp only [Qa];rw [show ([[91,73],[73]]:List Tx).reverse=[[73],[91,73]] from rfl,ZP (Z3 (by decide) _ _ _ h.shS).len];rfl
  .rw [instr_arrays (by omega)];unfold Hi;rw [qf (show x.Op≠49 by omega),qf (show x.Op≠50 by omega),qf (show x.Op≠51 by omega),qt h4];simp only [cond_true,cond_false];rw [Ug h.made (sh2 hA hI) h.shS,ZN [78] [84]];simp only [Qa];rw [show ([[91,73],[73]]:List Tx).reverse=[[73],[91,73]] from rfl,ZO (Z3 (by decide) _ _ _ h.shS).len];rfl
 .have hl:=DI (L:=L) [84] [[73],[73],[91,73]] stk b;refine ⟨(loc,Xl L [84] [[73],[73],[91,73]] stk b),(loc,Xl L [84] [[73],[73],[91,73]] stk b),?_,?_,KI λ_=>by show ((Xl L [84] [[73],[73],[91,73]] stk b).1.length:Int)≤mt.Stack;omega,zrJ id h.shL h.shS⟩
  .rw [W0 (by omega)];unfold Hl;rw [qf (show x.Op≠49 by omega),qf (show x.Op≠50 by omega),qf (show x.Op≠51 by omega),qf (show x.Op≠52 by omega),qt h4];simp only [cond_true,cond_false];rw [Z2 h.made h.map (sh3 hA hI hI) h.shS];rfl
  .rw [instr_arrays (by omega)];unfold Hi;rw [qf (show x.Op≠49 by omega),qf (show x.Op≠50 by omega),qf (show x.Op≠51 by omega),qf (show x.Op≠52 by omega),qt h4];simp only [cond_true,cond_false];rw [Ug h.made (sh3 hA hI hI) h.shS,ZN [78] [84]];rfl
theorem zEo(e:Tx)(s:List Tx)(b:Bool):(XP e s b).2.1.length≤s.length:=It e s b
theorem zEp{s:List Tx}{b:Bool}(hs:∀t∈s,onS t)(hl:∀t∈s,t.length≤25)(h:(XP [84] s b).2.2=false):Dh (XP [84] s b).1:=by
 unfold XP at h ⊢;simp only [Qo,Q9] at h;have hin:=DC h.1;generalize (Xg [84] s b).1=t at h hin;have h1:=hl t hin;simp only
 cases hq:t == [78] with
 |true =>
  have e:t=[78]:=by simpa using hq
  rw [e];exact zCo
 |false =>
  rw [hq] at h;simp only [QX,Qd] at h;have h2:=h.2.1;unfold Zi at h2 ⊢
  cases hb:Xs t&&brk t with
  |false=>rw [hb] at h2;cases h2
  |true =>
   rw [Qd] at hb;refine BN (zra hb.1 hb.2).1 ?_;show (t.drop 1).length≤25;simp;omega
theorem zBp(h:XL l L m mt loc stk b)(ho:x.Op=51∨x.Op=54∨x.Op=55):
  ∃p r,zg L m c mt loc stk b x=some p/\zk L c mt loc stk b x=some r/\Zm mt.Stack p r/\X0 loc stk b p:=by
 have hI:=Uu.1;have hr:=h.room
 rcases ho with h4 |h4 |h4
 .obtain ⟨g1,g2⟩:=ZA (b:=b) h.shS (e:=[84]) (by decide);obtain ⟨k1,k2⟩:=ZA (b:=b) h.shS (e:=[78]) (by decide)
  have hb:((Xg [78] stk b).2.2||!E5 (Xg [78] stk b).1)=((Xg [84] stk b).2.2||!((Zi (Xg [84] stk b).1).2||((Xg [84] stk b).1 == [78]))):=by
   have e2:=KF [78] [84] stk b;rw [e2];refine Iu λe=>?_;rw [<-GL [84] [78] stk b e,zF0 (h.on _ (DC e))]
  refine ⟨(loc,(Xg [84] stk b).2.1++[[73]],(Xg [84] stk b).2.2||!((Zi (Xg [84] stk b).1).2||((Xg [84] stk b).1 == [78]))),_,?_,?_,Uy _,Uh (λe=>by rw [Gf e];rfl) h.shL h.shS (Ge _ _ _) hI λ_=>.inr Uu⟩
  .rw [W0 (by omega)];unfold Hl;rw [qf (show x.Op≠49 by omega),qf (show x.Op≠50 by omega),qt h4];simp only [cond_true,cond_false];rw [G3 h.shS.len];simp only [Qa];rw [OY (Wv g1)];simp only [Qa];rw [ZP g2.len];rfl
  .rw [instr_arrays (by omega)];unfold Hi;rw [qf (show x.Op≠49 by omega),qf (show x.Op≠50 by omega),qt h4];simp only [cond_true,cond_false];rw [GG h.shS.len];simp only [Qa];rw [zEY];simp only [Qa];rw [ZO k2.len,hb,KF [78] [84]];rfl
 .have hT:=Z3 (L:=L) (e:=[84]) (by decide) [[73]] stk b h.shS;have hP:=UA L [84] [[73]] stk b;have hB:b=true->(Xl L [84] [[73]] stk b).2=true:=Zw _ _ _;have hOn:∀t∈(Xl L [84] [[73]] stk b).1,onS t:=λt ht=>h.on t (hP.subset ht)
  have hO:zg L m c mt loc stk b x=some (loc,(XP [84] (Xl L [84] [[73]] stk b).1 (Xl L [84] [[73]] stk b).2).2.1++[(XP [84] (Xl L [84] [[73]] stk b).1 (Xl L [84] [[73]] stk b).2).1],(XP [84] (Xl L [84] [[73]] stk b).1 (Xl L [84] [[73]] stk b).2).2.2):=by
   rw [W0 (by omega)];unfold Hl;rw [qf (show x.Op≠49 by omega),qf (show x.Op≠50 by omega),qf (show x.Op≠51 by omega),qf (show x.Op≠52 by omega),qf (show x.Op≠53 by omega),qt h4];simp only [cond_true,cond_false];rw [Z2 h.made h.map (sh1 hI) h.shS];simp only [Qa,Qw];rw [zw7 hT];simp only [Qa];rw [ZP (zwa hT (by decide)).2.len];rfl
  have hD:zk L c mt loc stk b x=some (loc,(Zr mt.Stack (XP [78] (Xl L [84] [[73]] stk b).1 (Xl L [84] [[73]] stk b).2).2.1 (XP [78] (Xl L [84] [[73]] stk b).1 (Xl L [84] [[73]] stk b).2).2.2 (XP [78] (Xl L [84] [[73]] stk b).1 (Xl L [84] [[73]] stk b).2).1).1,(Zr mt.Stack (XP [78] (Xl L [84] [[73]] stk b).1 (Xl L [84] [[73]] stk b).2).2.1 (XP [78] (Xl L [84] [[73]] stk b).1 (Xl L [84] [[73]] stk b).2).2.2 (XP [78] (Xl L [84] [[73]] stk b).1 (Xl L [84] [[73]] stk b).2).1).2):=by
   rw [instr_arrays (by omega)];unfold Hi;rw [qf (show x.Op≠49 by omega),qf (show x.Op≠50 by omega),qf (show x.Op≠51 by omega),qf (show x.Op≠52 by omega),qf (show x.Op≠53 by omega),qt h4];simp only [cond_true,cond_false];rw [Ug h.made (sh1 hI) h.shS,ZN [78] [84]];simp only [Qa,Qw];rw [zvw hT];simp only [Qa];rw [ZO (zwa hT (by decide)).2.len];rfl
  generalize Xl L [84] [[73]] stk b=q at hT hP hB hOn hO hD
  have hK:X0 loc stk b (loc,(XP [84] q.1 q.2).2.1++[(XP [84] q.1 q.2).1],(XP [84] q.1 q.2).2.2):=
   Uh (λe=>zw5 (hB e)) h.shL h.shS ((zw6 _ _ _).trans hP) (zwa hT (by decide)).1 λe=>.inr (zEp hOn hT.2 e)
  refine ⟨_,_,hO,hD,?_,hK⟩;have e2:=zDE [78] [84] q.1 q.2
  cases hb:(XP [84] q.1 q.2).2.2 with
  |true=>exact Kl rfl (ID (by rw [e2];exact hb))
  |false =>
   rw [<-zyp [84] [78] q.1 q.2 hb,e2,hb];exact Uy _
 .have e2:=(zpO (b:=b) h.on).1;obtain ⟨g1,g2⟩:=zun (b:=b) h.shS (e:=[84]) (by decide);have hP0:=WO [84] stk b;have hB0:b=true->(Xv [84] stk b).2.2=true:=Og;have hT:=Z3 (L:=L) (e:=[84]) (by decide) [[73]] (Xv [84] stk b).2.1 (Xv [84] stk b).2.2 g2;have hP:=(UA L [84] [[73]] (Xv [84] stk b).2.1 (Xv [84] stk b).2.2).trans hP0;have hB:b=true->(Xl L [84] [[73]] (Xv [84] stk b).2.1 (Xv [84] stk b).2.2).2=true:=λe=>Zw _ _ _ (hB0 e)
  have hO:zg L m c mt loc stk b x=some (loc,(XP [84] (Xl L [84] [[73]] (Xv [84] stk b).2.1 (Xv [84] stk b).2.2).1 (Xl L [84] [[73]] (Xv [84] stk b).2.1 (Xv [84] stk b).2.2).2).2.1,(XP [84] (Xl L [84] [[73]] (Xv [84] stk b).2.1 (Xv [84] stk b).2.2).1 (Xl L [84] [[73]] (Xv [84] stk b).2.1 (Xv [84] stk b).2.2).2).2.2):=by
   rw [W0 (by omega)];unfold Hl;rw [qf (show x.Op≠49 by omega),qf (show x.Op≠50 by omega),qf (show x.Op≠51 by omega),qf (show x.Op≠52 by omega),qf (show x.Op≠53 by omega),qf (show x.Op≠54 by omega)];simp only [cond_true,cond_false];rw [BV h.shS];simp only [Qa];rw [Z2 h.made h.map (sh1 hI) g2];simp only [Qa,Qw];rw [zw7 hT];rfl
  have hD:zk L c mt loc stk b x=some (loc,(XP [78] (Xl L [84] [[73]] (Xv [84] stk b).2.1 (Xv [84] stk b).2.2).1 (Xl L [84] [[73]] (Xv [84] stk b).2.1 (Xv [84] stk b).2.2).2).2.1,(XP [78] (Xl L [84] [[73]] (Xv [84] stk b).2.1 (Xv [84] stk b).2.2).1 (Xl L [84] [[73]] (Xv [84] stk b).2.1 (Xv [84] stk b).2.2).2).2.2):=by
   rw [instr_arrays (by omega)];unfold Hi;rw [qf (show x.Op≠49 by omega),qf (show x.Op≠50 by omega),qf (show x.Op≠51 by omega),qf (show x.Op≠52 by omega),qf (show x.Op≠53 by omega),qf (show x.Op≠54 by omega),qt h4];simp only [cond_true,cond_false];rw [WM h.shS];simp only [Qa];rw [e2,Ug h.made (sh1 hI) g2,ZN [78] [84]];simp only [Qa,Qw];rw [zvw hT];rfl
  rw [zDE [78] [84]] at hD;have hl:=zEo [84] (Xl L [84] [[73]] (Xv [84] stk b).2.1 (Xv [84] stk b).2.2).1 (Xl L [84] [[73]] (Xv [84] stk b).2.1 (Xv [84] stk b).2.2).2;have hl2:=hP.length_le;exact ⟨_,_,hO,hD,KI λ_=>by omega,KK (λe=>zw5 (hB e)) h.shL h.shS ((zw6 _ _ _).trans hP)⟩
end
section
variable {l L : List za} {m : List (Tx × Int)} {c : Tx} {mt : zb} {loc stk : List Tx} {b : Bool} {x : zr}
theorem zAu{x:zr}(h:UJ x=true):(1≤x.Op/\x.Op≤61)/\HF x.Op x.A=true/\Hw x.Op x.C=true:=by
 unfold UJ WR KL at h;simp only [Qd,decide_eq_true_eq] at h;exact ⟨h.1.1.1,h.1.1.2,h.1.2⟩
def zDD(L:List za)(m:List (Tx×Int))(c:Tx)(mt:zb)(loc stk:List Tx)(b:Bool)(x:zr):Prop:=
 ∃p r,zg L m c mt loc stk b x=some p/\zk L c mt loc stk b x=some r/\Zm mt.Stack (p.1,p.2.1,cond (UN x.Op) (p.2.2||!Kf L mt p.1 p.2.1 x.A) p.2.2) r/\X0 loc stk b p
theorem zFq(hj:UN x.Op=false)(h:∃p r,zg L m c mt loc stk b x=some p/\zk L c mt loc stk b x=some r/\Zm mt.Stack p r/\X0 loc stk b p):zDD L m c mt loc stk b x:=by
 obtain ⟨p,r,h1,h2,h3,h4⟩:=h;exact ⟨p,r,h1,h2,by rw [hj];exact h3,h4⟩
theorem zDm(h:XL l L m mt loc stk b)(hk:XX mt)(hm:UJ x=true)(hc:c.length≤25):zDD L m c mt loc stk b x:=by
 obtain ⟨hO,hA,hC⟩:=zAu hm;have h10:=zCC hm;by_cases hj:20≤x.Op/\x.Op≤36
 .have e:UN x.Op=true:=bt hj;obtain ⟨p,r,h1,h2,h3,h4⟩:=zBs (c:=c) h hk hj;exact ⟨p,r,h1,h2,by rw [e];exact h3,h4⟩
 have e:UN x.Op=false:=bf hj;refine zFq e ?_;by_cases h1:x.Op=1∨x.Op=2
 .exact zzd h h1
 by_cases h3:x.Op=3
 .have:0≤x.A:=by
   unfold HF KL at hA;rw [h3] at hA;simp at hA;omega
  exact zBt h h3 this
 by_cases h4:x.Op=4
 .have:0≤x.A:=by
   unfold HF KL at hA;rw [h4] at hA;simp at hA;omega
  exact zzf h h4 this
 by_cases h5:x.Op=5
 .exact zDq h h5
 by_cases h6:x.Op=6
 .exact zDn h h6
 by_cases h7:x.Op=7
 .exact zBv h h7
 by_cases h8:8≤x.Op/\x.Op≤19
 .exact zzc h h8
 by_cases h9:x.Op=37
 .exact zDo h h9 (by omega)
 by_cases h11:38≤x.Op/\x.Op≤41
 .exact zze h h11 (by omega)
 by_cases h12:42≤x.Op/\x.Op≤45
 .exact zBq h h12 (by omega) hc
 by_cases h13:x.Op=46∨x.Op=47
 .exact zDr h h13
 by_cases h14:x.Op=48
 .exact zBn h h14 hk.ret (WA hk.ret)
 by_cases h15:x.Op=49∨x.Op=50∨x.Op=52∨x.Op=53
 .exact zBo h h15 h10
 by_cases h16:x.Op=51∨x.Op=54∨x.Op=55
 .exact zBp h h16
 by_cases h17:x.Op=56∨x.Op=57
 .refine zBr h h17 ?_ (by omega)
  have ht:Gg x.Op=true:=by
   unfold Gg
   rcases h17 with e |e <;> rw [e] <;> rfl
  unfold Hw at hC;rw [ht] at hC;simp only [cond_true] at hC;unfold Zv at hC;rw [Qd] at hC;exact hC.2
 by_cases h18:x.Op=58
 .exact zzg h h18
 by_cases h19:x.Op=59
 .exact zFp h h19
 exact zDp h (by omega)
theorem zz6(n:Int):HN n=GC n:=rfl
theorem zym(h:XL l L m mt loc stk false)(hk:XX mt){p:List Tx×List Tx×Bool}(hp:X0 loc stk false p)(hb:p.2.2=false)(hr:(p.2.1.length:Int)≤mt.Stack):XL l L m mt p.1 p.2.1 false:=by
 obtain ⟨_,⟨k1,k2,k3,k4⟩,k5⟩:=hp;obtain ⟨k6,k7⟩:=k5 hb;have hs:=hk.stack.2;refine ⟨h.made,h.map,h.lens,⟨by rw [k1];exact h.shL.1,k3⟩,⟨by omega,k4⟩,λt ht=>?_,hr,λt ht=>?_⟩
 .rcases k6 t ht with e |e
  .exact h.on t e
  .exact e.2
 .rcases k7 t ht with e |e
  .exact h.onL t e
  .exact .inr (h.on t e)
end
section
variable {l L : List za} {m : List (Tx × Int)} {c : Tx} {mt : zb} {loc stk : List Tx} {b : Bool}
def Kz(L:List za)(m:List (Tx×Int))(c:Tx)(mt:zb)(z:List Tx×List Tx×Bool×Bool×Int):Option Bool:=
 (zp (λz=>Ku c (zJ.mk L m) mt z.1 z.2.1 z.2.2.1 z.2.2.2.1 z.2.2.2.2) z).bind λo=>zH o (λb=>zlG b.1 b.2.1 b.2.2) some
def Da(L:List za)(c:Tx)(mt:zb)(z:List Tx×List Tx×Bool×Bool×Int):Option Bool:=
 (zp (λz=>Hj c (zB.mk L) mt z.1 z.2.1 z.2.2.1 z.2.2.2.1 z.2.2.2.2) z).bind λo=>zH o (λb=>zjG b.1 b.2.1 b.2.2.1 b.2.2.2) some
theorem zBh{g g':Bool}{i i':Int}{loc' stk':List Tx}{b':Bool}(h:Ku c (zJ.mk L m) mt loc stk b g i=some (.inl (loc',stk',b',g',i'))):Kz L m c mt (loc,stk,b,g,i)=Kz L m c mt (loc',stk',b',g',i'):=by
 unfold Kz;rw [zK];show ((Ku c (zJ.mk L m) mt loc stk b g i).bind _).bind _=_;rw [h];rfl
theorem zvL{g:Bool}{i:Int}{v:Bool}(h:Ku c (zJ.mk L m) mt loc stk b g i=some (.inr (.inr v))):Kz L m c mt (loc,stk,b,g,i)=some v:=by
 unfold Kz;rw [zK];show ((Ku c (zJ.mk L m) mt loc stk b g i).bind _).bind _=_;rw [h];rfl
theorem zvK{g:Bool}{i:Int}(h:Ku c (zJ.mk L m) mt loc stk b g i=some (.inr (.inl (loc,stk,b)))):Kz L m c mt (loc,stk,b,g,i)=some (!b):=by
 unfold Kz;rw [zK];show ((Ku c (zJ.mk L m) mt loc stk b g i).bind _).bind _=_;rw [h];rfl
theorem zBg{g g':Bool}{i i':Int}{loc' stk':List Tx}{b':Bool}(h:Hj c (zB.mk L) mt loc stk b g i=some (.inl (loc',stk',b',g',i'))):Da L c mt (loc,stk,b,g,i)=Da L c mt (loc',stk',b',g',i'):=by
 unfold Da;rw [zK];show ((Hj c (zB.mk L) mt loc stk b g i).bind _).bind _=_;rw [h];rfl
theorem zvJ{g:Bool}{i:Int}(h:Hj c (zB.mk L) mt loc stk b g i=some (.inr (.inl (loc,stk,b,g)))):Da L c mt (loc,stk,b,g,i)=some (!b&&!g):=by
 unfold Da;rw [zK];show ((Hj c (zB.mk L) mt loc stk b g i).bind _).bind _=_;rw [h];rfl
theorem zx3(h:Xi l L)(hm:Xu L m)(hk:XX mt)(hl:ShL loc)(hs:ShL stk){g:Bool}{i:Nat}(hi:i≤mt.Code.length):Kz L m c mt (loc,stk,true,g,(i:Int))=some false:=by
 by_cases hlt:i<mt.Code.length
 .refine zvL ?_;unfold Ku;have hx:mt.Code[i]?=some mt.Code[i]:=Qe hlt;rw [Xn hx,zt,hx];simp only [cond_true,Qa];rw [zz8 h hm hk hl hs];rfl
 .refine zvK ?_;unfold Ku;rw [decide_eq_false (by omega)];rfl
theorem zup{g:Bool}{i:Int}:Da L c mt (loc,stk,true,g,i)=some false:=by
 refine zvJ ?_;unfold Hj;rw [Qt,Jt];rfl
theorem zEF(h:Xi l L)(hk:XX mt)(hl:ShL loc)(hs:ShL stk){g:Bool}{i:Nat}{x:zr}(hx:mt.Code[i]?=some x):
  Hj c (zB.mk L) mt loc stk false g (i:Int) =
   (Wd L c mt (ZJ L mt loc stk i g).1 (ZJ L mt loc stk i g).2.1 (ZJ L mt loc stk i g).2.2 (i:Int)).bind λv98 =>
    (zk L c mt (ZJ L mt loc stk i g).1 (ZJ L mt loc stk i g).2.1 v98 x).bind λv100=>some (.inl (v100.1,v100.2.1,v100.2.2,(!(HN x.Op)),(i64.wrap ((i:Int)+1)))):=by
 unfold Hj;rw [Xn hx];simp only [QL,Bool.and_true,cond_true];rw [ztV hk];unfold zF2 ZJ
 have key:∀(v:zS×Bool) (b:Bool) (p q:List Tx),zes c (zB.mk L) mt g (i:Int) v b p q =
   (Wd L c mt p q (b||!(v.2||g)) (i:Int)).bind λv98=>(zk L c mt p q v98 x).bind λv100=>some (.inl (v100.1,v100.2.1,v100.2.2,(!(HN x.Op)),(i64.wrap ((i:Int)+1)))):=λv b p q=>by
  unfold zes;rw [zt,hx];rfl
 cases hf:Kd mt (i:Int) with
 |none =>
  simp only [Qa,Jn,cond_false];unfold E0;simp only [cond_false];rw [key];simp
 |some y =>
  have hy:=WF hk hf;simp only [Qa,QC]
  have key2:∀b:Bool,E0 c (zB.mk L) mt loc stk g (i:Int) (y,true) b=(Wd L c mt y.Locals y.Stack b (i:Int)).bind λv98=>(zk L c mt y.Locals y.Stack v98 x).bind λv100=>some (.inl (v100.1,v100.2.1,v100.2.2,(!(HN x.Op)),(i64.wrap ((i:Int)+1)))):=λb=>by
   unfold E0;simp only [cond_true];rw [zz0 (hy.shl hk).len (hy.shs hk).len];simp only [Qa];rw [key];simp
  rw [zAo h hk hl hs]
  cases g with
  |true=>simp only [cond_true,Qa,QX,QC];exact key2 _
  |false=>simp only [cond_false,Jn];exact key2 _
theorem zDe(hk:XX mt)(hc:c.length≤25):∀(d i:Nat) (loc stk:List Tx) (g:Bool),d+i=mt.Code.length->XL l L m mt loc stk false->(d=0->g=false) ->
  ∃v,Kz L m c mt (loc,stk,false,g,(i:Int))=some v/\Da L c mt (loc,stk,false,g,(i:Int))=some v:=by
 intro d
 induction d with
 |zero =>
  intro i loc stk g hd h hg;have hg:=hg rfl;subst hg;refine ⟨true,?_,?_⟩
  .refine zvK ?_;unfold Ku;rw [decide_eq_false (by omega)];rfl
  .refine zvJ ?_;unfold Hj;rw [decide_eq_false (by omega)];rfl
 |succ d ih =>
  intro i loc stk g hd h hg
  have hlt:i<mt.Code.length:=by omega
  have hx:mt.Code[i]?=some mt.Code[i]:=Qe hlt;have hxm:=hk.ins _ (Qh hlt);have h100:=hk.code.2;generalize mt.Code[i]=x at hx hxm;have hw:i64.wrap ((i:Int)+1)=((i+1:Nat):Int):=zP (by omega);have hE:∀b,XL l L m mt (ZJ L mt loc stk i g).1 (ZJ L mt loc stk i g).2.1 b:=λb=>zwd h hk;have hD:=zEF (c:=c) h.made hk h.shL h.shS (g:=g) hx
  have hP:Ku c (zJ.mk L m) mt loc stk false g (i:Int)=cond (ZJ L mt loc stk i g).2.2 (some (.inr (.inr false))) ((zew L m c mt (ZJ L mt loc stk i g).1 (ZJ L mt loc stk i g).2.1 (ZJ L mt loc stk i g).2.2 (i:Int)).bind λv51=>(zg L m c mt (ZJ L mt loc stk i g).1 (ZJ L mt loc stk i g).2.1 v51 x).bind λv52=>cond (UN x.Op) ((EP L m c mt v52.1 v52.2.1 v52.2.2 x.A).bind λv53=>O3 mt (i:Int) x v52 v53) (O3 mt (i:Int) x v52 v52.2.2)):=by
   unfold Ku;rw [Xn hx,zt,hx];simp only [cond_true,Qa];rw [zz8 h.made h.map hk h.shL h.shS];rfl
  generalize ZJ L mt loc stk i g=E at hE hD hP;obtain ⟨p,r,s1,s2,s3,s4⟩:=zDm (c:=c) (hE (E.2.2||mt.Traps.any (Gt L mt E.1 i))) hk hxm hc;rw [zFv h.made hk (hE false).shL] at hD;simp only [Qa] at hD;rw [s2] at hD;simp only [Qa] at hD;rw [hw,zz6] at hD;have hDn:=zBg hD
  cases hb:E.2.2 with
  |true =>
   rw [hb] at hP s4;refine ⟨false,zvL hP,?_⟩;have hpb:p.2.2=true:=s4.1 rfl
   have hrb:r.2.2=true:=by
    rw [<-s3.1,hpb];cases UN x.Op <;> rfl
   rw [hDn,hrb];exact zup
  |false =>
   rw [hb] at hP s1 s4;simp only [cond_false] at hP;rw [zFu h.made h.map hk (hE false).shL] at hP;simp only [Qa] at hP;rw [s1] at hP;simp only [Qa] at hP;obtain ⟨k0,⟨k1,k2,k3,k4⟩,k5⟩:=s4;have hroom:=(hE false).room;have hst:=hk.stack.2;have hl1:ShL p.1:=⟨by rw [k1];exact (hE false).shL.1,k3⟩;have hs1:ShL p.2.1:=⟨by omega,k4⟩;rw [zDP h.made h.map hk hl1 hs1] at hP
   have hP2:Ku c (zJ.mk L m) mt loc stk false g (i:Int)=some (.inl (p.1,p.2.1,r.2.2,!GC x.Op,((i+1:Nat):Int))):=by
    rw [hP,<-s3.1,<-hw];unfold O3;cases UN x.Op <;> rfl
   have hPn:=zBh hP2;rw [hPn,hDn]
   cases hrb:r.2.2 with
   |true=>exact ⟨false,zx3 h.made h.map hk hl1 hs1 (by omega),zup⟩
   |false =>
    obtain ⟨e1,e2⟩:=s3.2 hrb;simp only at e1 e2;rw [<-e1,<-e2];have hsum:=s3.1;rw [hrb] at hsum;simp only [Qo,Q9,decide_eq_true_eq] at hsum
    have hpb:p.2.2=false:=by
     have:=hsum.1
     cases hq:UN x.Op with
     |true=>rw [hq] at this;simp only [cond_true,Qo] at this;exact this.1
     |false=>rw [hq] at this;exact this
    have hT:(false||mt.Traps.any (Gt L mt E.1 i))=false:=by
     cases hq:(false||mt.Traps.any (Gt L mt E.1 i)) with
     |false=>rfl
     |true=>rw [hq] at k0;rw [k0 rfl] at hpb;cases hpb
    rw [hT] at k0;refine ih (i+1) p.1 p.2.1 (!GC x.Op) (by omega) (zym (hE false) hk ⟨k0,⟨k1,k2,k3,k4⟩,k5⟩ hpb hsum.2) λh0=>?_;obtain ⟨y,hy1,hy2⟩:=hk.last;rw [Ju] at hy1
    have:mt.Code.length-1=i:=by omega
    rw [this,hx] at hy1;cases hy1;rw [hy2];rfl
end
theorem zxT{R:Type}{n:Int}{body:List Tx->Option (Sum (List Tx) (Sum (List Tx) R))}
  (hb:∀z:List Tx,body z=cond (decide (((List.length z):Int)<n)) ((Xx 16 z ([[84]])).bind λv=>some (.inl v)) (some (.inr (.inl z)))):
  ∀(k:Nat) (z:List Tx),((z.length+k:Nat):Int)=n->z.length+k≤1000->zp body z=some (.inl (z++List.replicate k [84]))
 | 0,z,h,h2=>by
  rw [zK,hb,decide_eq_false (by omega)];simp
 |k+1,z,h,h2=>by
  rw [zK,hb,decide_eq_true (by omega),Zk (by simp;omega) (by simp;omega)];simp only [cond_true,Qa,JV];rw [zxT hb k (z++[[84]]) (by simp;omega) (by simp;omega)];simp [List.replicate_succ]
section
variable {l L : List za} {m : List (Tx × Int)} {c : Tx} {f : zb} {b : Bool}
def KD(L:List za)(T:List Tx):Bool:=T.any λt=>!ZS L t
theorem zBM(h:Xi l L)(hm:Xu L m){T:List Tx}(hT:ShL T):Ot T L m=some (!KD L T):=by
 unfold Ot zbe zcU
 rw [show ((zp (λz=>zbl T L m z) 0).bind λo=>zH o (λb=>zeN) some)=_ from Zq (l:=T) (p:=λt=>!ZS L t) (by have:=hT.len;omega)
  (λi x hx=>by
   have hl:=hT.2 x (Qc hx);unfold zbl znP zkG;rw [Xn hx,zt,hx];simp only [Qa,cond_true];rw [WH h hm hl]
   rfl) (by unfold zbl;rw [Xo];rfl)]
 rw [Qa,ZB];rfl
theorem zDz(h:Xi l L)(hm:Xu L m){T:List Tx}(hT:ShL T):ziz T L m=some (!T.any λt=>!thN L t):=by
 unfold ziz zbf zcV
 rw [show ((zp (λz=>zbm T L m z) 0).bind λo=>zH o (λb=>zeO) some)=_ from Zq (l:=T) (p:=λt=>!thN L t) (by have:=hT.len;omega)
  (λi x hx=>by
   have hl:=hT.2 x (Qc hx);unfold zbm zkI zkH;rw [Xn hx,zt,hx];simp only [Qa,cond_true];rw [B8 h hm hl (Wv hl),zrf]
   rfl) (by unfold zbm;rw [Xo];rfl)]
 rw [Qa,ZB];rfl
def BI(c:Tx)(f:zb):List Tx:=cond (!f.Static) [c] []++f.Params
def UT(c:Tx)(f:zb):List Tx:=BI c f++List.replicate (f.Locals.toNat-(BI c f).length) [84]
theorem zvf(hk:XX f):((BI c f).length:Int)=Zh f:=by
 have h6:=hk.npar;unfold BI Zh
 cases f.Static with
 |true=>simp
 |false =>
  rw [ZZ (by omega) (by omega)];simp
theorem zD0{R:Type}(hk:XX f){body:List Tx->Option (Sum (List Tx) (Sum (List Tx) R))}
  (hb:∀z:List Tx,body z=cond (decide (((List.length z):Int)<f.Locals)) ((Xx 16 z ([[84]])).bind λv=>some (.inl v)) (some (.inr (.inl z)))):zp body (BI c f)=some (.inl (UT c f)):=by
 have h1:=zvf (c:=c) hk;have h2:=hk.locs;exact zxT hb _ _ (by omega) (by omega)
theorem zAy(hk:XX f):((UT c f).length:Int)=f.Locals:=by
 have h1:=zvf (c:=c) hk;have h2:=hk.locs;unfold UT;simp;omega
theorem zvg(hk:XX f)(hc:Xs c=true):∀t∈UT c f,t.length≤25/\(t=[84]∨onS t):=by
 intro t ht;unfold UT BI at ht
 rcases Qq.1 ht with h |h
 .rcases Qq.1 h with h |h
  .have:t=c:=by
    cases hs:f.Static with
    |true=>rw [hs] at h;cases h
    |false=>rw [hs] at h;simpa using h
   rw [this];exact ⟨Gb hc,.inr (.inr hc)⟩
  .have:=hk.params t h;exact ⟨Gb this,.inr (.inr this)⟩
 .rw [(List.mem_replicate.1 h).2];exact ⟨by decide,.inl rfl⟩
theorem zv6(h:Xi l L)(hm:Xu L m)(hL:XE L)(hk:XX f)(hc:Xs c=true):XL l L m f (UT c f) [] false:=by
 have h1:=zAy (c:=c) hk;have h2:=hk.locs;have h3:=hk.stack;exact ⟨h,hm,hL,⟨by omega,λt ht=>(zvg hk hc t ht).1⟩,⟨QW _,λt ht=>(List.not_mem_nil ht).elim⟩,λt ht=>(List.not_mem_nil ht).elim,by simp;omega,λt ht=>(zvg hk hc t ht).2⟩
def Wp(L:List za)(f:zb):Bool:=((f.Maps.any λx=>KD L x.Locals||KD L x.Stack)||!((f.Ret == [86])||thN L f.Ret))||f.Params.any λt=>!thN L t
theorem zEt(hk:XX f)(b:Bool):zfA L c f [] [] b=some (UT c f):=by
 have h6:=hk.npar;unfold zfA
 have key:zdW f (cond (!f.Static) [c] [])=some (UT c f):=by
  unfold zdW;rw [Zk (by cases f.Static <;> simp <;> omega) (by cases f.Static <;> simp <;> omega)];simp only [Qa];rw [show zp (λz=>zhc f z) (cond (!f.Static) [c] []++f.Params)=_ from zD0 (c:=c) hk (body:=λz=>zhc f z) λz=>rfl];rfl
 cases hs:f.Static with
 |true=>rw [hs] at key;exact key
 |false =>
  rw [hs] at key;simp only [QL,cond_true] at key ⊢;rw [Zk (by simp) (by simp)];exact key
theorem zAY(hk:XX f):ShL f.Params:=⟨by have:=hk.npar;omega,λs hs=>Gb (hk.params s hs)⟩
theorem zCO(h:Xi l L)(hm:Xu L m)(hk:XX f):((zp (λz=>Bb (zJ.mk L m) f z.1 z.2) (false,0)).bind λo=>zH o (λb=>zjC c (zJ.mk L m) f b) some)=Kz L m c f (UT c f,[],Wp L f,true,0):=by
 have h6:=hk.npar
 rw [Of (body:=λz=>Bb (zJ.mk L m) f z.1 z.2) (l:=f.Maps) (p:=λx=>KD L x.Locals||KD L x.Stack) (by have:=hk.nmaps;omega) (λi x b hx=>by
  have hy:=hk.maps x (Qc hx);show Bb (zJ.mk L m) f b (i:Int)=_;unfold Bb;rw [Xn hx,zt,hx];simp only [cond_true,Qa];rw [zBM h hm (hy.shl hk),zBM h hm (hy.shs hk)]
  cases KD L x.Locals <;> cases KD L x.Stack <;> rfl) (λb=>by
  show Bb (zJ.mk L m) f b (f.Maps.length:Int)=_;unfold Bb
  rw [Xo];rfl)]
 simp only [Qa,zH]
 have j4:∀(b v:Bool),zgH c (zJ.mk L m) f b v (cond (!f.Static) [c] [])=Kz L m c f (UT c f,[],b||!v,true,0):=λb v=>by
  unfold zgH;rw [Zk (by cases f.Static <;> simp <;> omega) (by cases f.Static <;> simp <;> omega)];simp only [Qa];rw [show zp (λz=>zjD f z) (cond (!f.Static) [c] []++f.Params)=_ from zD0 (c:=c) hk (body:=λz=>zjD f z) λz=>rfl];rfl
 have j3:∀b:Bool,zgG c (zJ.mk L m) f b=Kz L m c f (UT c f,[],b||(f.Params.any λt=>!thN L t),true,0):=λb=>by
  unfold zgG;rw [zDz h hm (zAY hk)];simp only [Qa];have:=j4 b (!f.Params.any λt=>!thN L t);rw [Bool.not_not] at this;rw [<-this]
  cases hs:f.Static with
  |true=>rfl
  |false =>
   simp only [QL,cond_true];rw [Zk (by simp) (by simp)];rfl
 unfold zjC Wp;have hr:=WA hk.ret;rw [B8 h hm hr (Wv hr),zrf];simp only [Qa];rw [j3,j3];cases f.Ret == [86] <;> simp
theorem zCN(h:Xi l L)(hk:XX f):((zp (λz=>Bj (zB.mk L) f z.1 z.2) (false,0)).bind λo=>zH o (λb=>zhX c (zB.mk L) f b) some)=Da L c f (UT c f,[],Wp L f,true,0):=by
 have h6:=hk.npar
 rw [Of (body:=λz=>Bj (zB.mk L) f z.1 z.2) (l:=f.Maps) (p:=λx=>KD L x.Locals||KD L x.Stack) (by have:=hk.nmaps;omega) (λi x b hx=>by
  have hy:=hk.maps x (Qc hx);have hl:=(hy.shl hk).1;have hs:=(hy.shs hk).1;show Bj (zB.mk L) f b (i:Int)=_;unfold Bj;rw [Xn hx,zt,hx];simp only [cond_true,Qa];rw [Zk (by simp;omega) (by simp;omega)];simp only [Qa,JR];rw [Zk (by omega) (by omega)];simp only [Qa]
  rw [Of (body:=λz=>ED (zB.mk L) (x.Locals++x.Stack) z.1 z.2) (l:=x.Locals++x.Stack) (p:=λt=>!ZS L t) (by simp;omega) (λj t b ht=>by
   have hm:=Qc ht
   have h25:t.length≤25:=by
    rcases Qq.1 hm with e |e
    .exact hy.loc25 t e
    .exact hy.stk25 t e
   show ED (zB.mk L) (x.Locals++x.Stack) b (j:Int)=_;unfold ED;rw [Xn ht,zt,ht];simp only [cond_true,Qa];rw [Kp h (by omega)];unfold ZS
   cases t == [84] <;> cases t == [78] <;> cases thN L t <;> rfl) (λb=>by
   show ED (zB.mk L) (x.Locals++x.Stack) b ((x.Locals++x.Stack).length:Int)=_;unfold ED
   rw [Xo];rfl)]
  rw [List.any_append]
  rfl) (λb=>by
  show Bj (zB.mk L) f b (f.Maps.length:Int)=_;unfold Bj
  rw [Xo];rfl)]
 simp only [Qa,zH];unfold zhX
 rw [Of (body:=λz=>EC (zB.mk L) f z.1 z.2) (l:=f.Params) (p:=λt=>!thN L t) (by omega) (λi t b ht=>by
  have h25:=(zAY hk).2 t (Qc ht);show EC (zB.mk L) f b (i:Int)=_;unfold EC;rw [Xn ht,zt,ht];simp only [cond_true,Qa];rw [Kp h (by omega)]
  rfl) (λb=>by
  show EC (zB.mk L) f b (f.Params.length:Int)=_;unfold EC
  rw [Xo];rfl)]
 simp only [Qa,zH];unfold zkr;have hr:=WA hk.ret;rw [Kp h (by omega)]
 have e:((cond (f.Ret == [86]) (some true) ((some (thN L f.Ret)).bind λv69=>some v69)):Option Bool)=some ((f.Ret == [86])||thN L f.Ret):=by cases f.Ret == [86] <;> rfl
 rw [e];simp only [Qa];rw [zEt hk];simp only [Qa]
 have e2:(((false||f.Maps.any λx=>KD L x.Locals||KD L x.Stack)||f.Params.any λt=>!thN L t)||!((f.Ret == [86])||thN L f.Ret))=Wp L f:=by
  unfold Wp
  cases (f.Maps.any λx=>KD L x.Locals||KD L x.Stack) <;> cases (f.Params.any λt=>!thN L t) <;> cases ((f.Ret == [86])||thN L f.Ret) <;> rfl
 rw [e2];rfl
theorem zCc(h:Xi l L)(hm:Xu L m)(hL:XE L)(hk:XX f)(hc:Xs c=true):∃v,Kz L m c f (UT c f,[],Wp L f,true,0)=some v/\Da L c f (UT c f,[],Wp L f,true,0)=some v:=by
 have hA:=zv6 h hm hL hk hc
 cases Wp L f with
 |true=>exact ⟨false,zx3 (i:=0) h hm hk hA.shL hA.shS (QW _),zup⟩
 |false=>exact zDe hk (Gb hc) f.Code.length 0 (UT c f) [] true (by omega) hA λe=>by have:=hk.code.1;omega
theorem zBN(h:Xi l L)(hm:Xu L m)(hL:XE L)(c:Tx)(k:Int):∃v,KN (some (zJ.mk L m)) c k=some v/\zgE (some (zB.mk L)) c k=some v:=by
 have h26:=h.len;unfold KN zgE;simp only [Um];rw [KJ hm,Zj (by omega)];simp only [Qa];rw [G4]
 cases hc:cl L c with
 |none =>
  rw [HG hc];exact ⟨false,rfl,rfl⟩
 |some x =>
  rw [ZG hc,UW,hc];simp only [Qa,Qt,QX];by_cases h0:k<0
  .rw [decide_eq_true h0];exact ⟨false,rfl,rfl⟩
  rw [decide_eq_false h0];simp only [QX,cond_false];by_cases h1:(x.Methods.length:Int)≤k
  .rw [decide_eq_true h1];exact ⟨false,rfl,rfl⟩
  rw [decide_eq_false h1];obtain ⟨n,rfl⟩:∃n:Nat,k=(n:Int):=⟨k.toNat,by omega⟩
  have hn:n<x.Methods.length:=by omega
  have hf:x.Methods[n]?=some x.Methods[n]:=Qe hn;have hfm:=Qh hn;generalize x.Methods[n]=f at hf hfm;rw [zt,hf];simp only [Qa,cond_false]
  cases ha:f.Abstract with
  |true=>exact ⟨false,rfl,rfl⟩
  |false =>
   have hk:=zF6 (zxH h (XU hc).1 hfm) ha;have hcm:=W3 (IR h (ZG hc));simp only [cond_false];rw [zCO h hm hk,zCN h hk];exact zCc h hm hL hk hcm
end
theorem zHG{α:Type}{w:Nat}{a b:List α}(h:a.length+b.length≤1000)(hw:w≤1000):Xx w a b=some (a++b):=Zk (QD (Nat.mul_le_mul h hw) (by decide)) (by omega)
section
variable {l L : List za} {m : List (Tx × Int)}
def X8(L:List za)(t:Tx):Bool:=(!(t == [86])&&!(t == []))&&!ZS L t
theorem Ir(h:Xi l L)(hm:Xu L m){t:Tx}(ht:t.length≤25):D4 t L m=some (X8 L t):=by
 unfold D4 X8;rw [WH h hm ht];cases (!(t == [86])&&!(t == [])) <;> rfl
def zxL(L:List za)(x:zr):Bool:=
 cond ((((x.Op == 38)||(x.Op == 39))||(x.Op == 40))||(x.Op == 41)) (XZ L x.C x.M).2.2
  (cond (((x.Op == 42)||(x.Op == 43))||(x.Op == 44)) ((((Xq L x.C).findSome? (X3 L UB x.M)).getD ([],zM,false)).2.2&&!isF L x.C) (cond (x.Op == 45) (KE L x.C x.M).2.2 true))
theorem zCP(h:Xi l L)(hm:Xu L m)(hL:XE L)(x:zr):zkQ L m x=some (zxL L x):=by
 unfold zkQ Ek zgY Ej zxL XZ;rw [KJ hm,zxn h hm hL,zpx h hm hL,zz9 h hm hL,zu3];simp only [Qa];cases x.Op == 38 <;> cases x.Op == 39 <;> cases x.Op == 40 <;> cases x.Op == 41 <;> cases x.Op == 42 <;> cases x.Op == 43 <;> cases x.Op == 44 <;> cases x.Op == 45 <;> rfl
def G7(L:List za)(x:zr):Bool:=X8 L x.C||!zxL L x
theorem zyH(h:Xi l L)(hm:Xu L m)(hL:XE L){x:zr}(hx:x.C.length≤25):zhH x L m L m=some (G7 L x):=by
 unfold zhH G7;rw [Ir h hm hx,zCP h hm hL];cases X8 L x.C <;> rfl
theorem zzT(h:Xi l L)(hm:Xu L m)(hL:XE L){T:List zj}(hl:T.length≤10000)(hT:∀x∈T,x.Type_.length≤25):zai T L m=some (T.any λx=>X8 L x.Type_):=by
 unfold zai zbW
 rw [show ((zp (λz=>zaG T L m z) 0).bind λo=>zH o (λb=>zc8) some)=_ from Zq (l:=T) (p:=λx:zj=>X8 L x.Type_) (by omega) (λi x hx=>by
   unfold zaG zla;rw [Xn hx,zt,hx];simp only [Qa,cond_true];rw [Ir h hm (hT x (Qc hx))]
   rfl) (by unfold zaG;rw [Xo];rfl)]
 rw [Qa,ZB]
theorem zCe(h:Xi l L)(hm:Xu L m)(hL:XE L){T:List zT}(hl:T.length≤10000)(hT:∀x∈T,x.C.length≤25):zaT T L m=some (T.any λx=>X8 L x.C):=by
 unfold zaT zb6
 rw [show ((zp (λz=>zaU T L m z) 0).bind λo=>zH o (λb=>zdL) some)=_ from Zq (l:=T) (p:=λx:zT=>X8 L x.C) (by omega) (λi x hx=>by
   unfold zaU zju;rw [Xn hx,zt,hx];simp only [Qa,cond_true];rw [Ir h hm (hT x (Qc hx))]
   rfl) (by unfold zaU;rw [Xo];rfl)]
 rw [Qa,ZB]
theorem zEw(h:Xi l L)(hm:Xu L m)(hL:XE L){T:List zr}(hl:T.length≤10000)(hT:∀x∈T,x.C.length≤25):za1 T L m L m=some (T.any λx=>G7 L x):=by
 unfold za1 zcs
 rw [show ((zp (λz=>za2 T L m L m z) 0).bind λo=>zH o (λb=>zel) some)=_ from Zq (l:=T) (p:=λx:zr=>G7 L x) (by omega) (λi x hx=>by
   unfold za2 ;rw [Xn hx,zt,hx];simp only [Qa,cond_true];rw [zyH h hm hL (hT x (Qc hx))]
   rfl) (by unfold za2;rw [Xo];rfl)]
 rw [Qa,ZB]
theorem zEy(h:Xi l L)(hm:Xu L m)(hL:XE L){T:List Tx}(hl:T.length≤10000)(hT:∀x∈T,x.length≤25):zbg T L m=some (T.any λx=>X8 L x):=by
 unfold zbg zcW
 rw [show ((zp (λz=>zbn T L m z) 0).bind λo=>zH o (λb=>zeP) some)=_ from Zq (l:=T) (p:=λx:Tx=>X8 L x) (by omega) (λi x hx=>by
   unfold zbn ;rw [Xn hx,zt,hx];simp only [Qa,cond_true];rw [Ir h hm (hT x (Qc hx))]
   rfl) (by unfold zbn;rw [Xo];rfl)]
 rw [Qa,ZB]
def DD(L:List za)(f:zb):Bool:=((X8 L f.Ret||f.Params.any λx=>X8 L x)||f.Traps.any λx=>X8 L x.C)||f.Code.any λx=>G7 L x
structure BB(f:zb):Prop where
 pars:f.Params.length≤10000/\∀x∈f.Params,x.length≤25
 ret:f.Ret.length≤25
 traps:f.Traps.length≤10000/\∀x∈f.Traps,x.C.length≤25
 code:f.Code.length≤10000/\∀x∈f.Code,x.C.length≤25
theorem XX.small{f:zb}(hk:XX f):BB f where
 pars:=⟨by have:=hk.npar;omega,(zAY hk).2⟩
 ret:=WA hk.ret
 traps:=⟨by have:=hk.ntraps;omega,λy hy=>by
  rcases hk.traps y hy with e |e
  .rw [e];exact QW _
  .have:=IA e;omega⟩
 code:=⟨by have:=hk.code.2;omega,λx hx=>by have:=zCC (hk.ins x hx);omega⟩
theorem zyQ(h:Xi l L)(hm:Xu L m)(hL:XE L){f:zb}(hf:BB f):zi5 f L m L m=some (DD L f):=by
 unfold zi5 DD;rw [zCe h hm hL hf.traps.1 hf.traps.2,zEw h hm hL hf.code.1 hf.code.2,Ir h hm hf.ret,zEy h hm hL hf.pars.1 hf.pars.2];simp only [Qa];cases X8 L f.Ret <;> rfl
theorem zEx(h:Xi l L)(hm:Xu L m)(hL:XE L){T:List zb}(hl:T.length≤10000)(hT:∀x∈T,BB x):zab T L m L m=some (T.any λx=>DD L x):=by
 unfold zab zbE
 rw [show ((zp (λz=>zas T L m L m z) 0).bind λo=>zH o (λb=>zcD) some)=_ from Zq (l:=T) (p:=λx:zb=>DD L x) (by omega) (λi x hx=>by
   unfold zas ;rw [Xn hx,zt,hx];simp only [Qa,cond_true];rw [zyQ h hm hL (hT x (Qc hx))]
   rfl) (by unfold zas;rw [Xo];rfl)]
 rw [Qa,ZB]
def K6(L:List za)(c:za):Bool:=!(c.Fields.any λx=>X8 L x.Type_)&&!(c.Methods.any λx=>DD L x)
theorem zDA(h:Xi l L)(hm:Xu L m)(hL:XE L){c:za}(h1:c.Fields.length≤10000/\∀f∈c.Fields,f.Type_.length≤25)(h2:c.Methods.length≤10000/\∀f∈c.Methods,BB f):I9 L m c=some (K6 L c):=by
 unfold I9 K6;rw [zzT h hm hL h1.1 h1.2,zEx h hm hL h2.1 h2.2];rfl
def Ud(a b:zb):Bool:=(a.Params == b.Params)&&(a.Ret == b.Ret)
theorem ztq{a b:zb}(h:a.Params.length≤10000):W2 a b=some (Ud a b):=by
 unfold W2 Ud;rw [zsk (by omega)];rfl
def Us(f y:zb):Bool:=((y.Name == f.Name)&&!(f.Name == [36,105,110,105,116]))&&((!Ud f y||f.Static)||y.Static)
theorem zC0{f y:zb}(h:f.Params.length≤10000):zgS y f.Name f.Params f.Ret f.Static f.Abstract f.Locals f.Stack f.Code f.Maps f.Traps=some (Us f y):=by
 unfold zgS Us;rw [ztq (a:=zb.mk f.Name f.Params f.Ret f.Static f.Abstract f.Locals f.Stack f.Code f.Maps f.Traps) h];cases ((y.Name == f.Name)&&!(f.Name == [36,105,110,105,116])) <;> rfl
theorem zC1{f:zb}(h:f.Params.length≤10000){T:List zb}(hl:T.length≤10000):zac T f.Name f.Params f.Ret f.Static f.Abstract f.Locals f.Stack f.Code f.Maps f.Traps=some (T.any λy=>Us f y):=by
 unfold zac zbF
 rw [show ((zp (λz=>zat T f.Name f.Params f.Ret f.Static f.Abstract f.Locals f.Stack f.Code f.Maps f.Traps z) 0).bind λo=>zH o (λb=>zcE) some)=_ from Zq (l:=T) (p:=λy:zb=>Us f y) (by omega) (λi x hx=>by
   unfold zat;rw [Xn hx,zt,hx];simp only [Qa,cond_true];rw [zC0 h]
   rfl) (by unfold zat;rw [Xo];rfl)]
 rw [Qa,ZB]
def XM(L:List za)(s:Tx):List zb:=match cl L s with |some x=>x.Methods |none=>[]
def KX(L:List za)(c:za):Bool:=!(c.Methods.any λf=>((Xq L c.Name).drop 1).any λs=>(XM L s).any λy=>Us f y)
theorem zBz(h:Xi l L){n:Tx}(hn:Xh L n=true):1≤(Xq L n).length:=by
 obtain ⟨x,hx⟩:=Zc hn;unfold Xq
 cases hd:L.length with
 |zero =>
  have:L=[]:=Qf hd;rw [this] at hn;cases hn
 |succ d =>
  unfold sup;rw [hx];simp
theorem zvt(h:Xi l L)(hm:Xu L m)(hs:∀s,(XM L s).length≤10000){c:za}(hc:Xh L c.Name=true)(h2:c.Methods.length≤10000/\∀f∈c.Methods,BB f):zgB L m c=some (KX L c):=by
 have h26:=UM h c.Name;have h1:=zBz h hc;unfold zgB
 rw [show zp (λz=>EN L m c z) 0=some (XC () (c.Methods.findSome? (λf=>cond (((Xq L c.Name).drop 1).any λs=>(XM L s).any λy=>Us f y) (some false) none))) from Zd (λi f hf=>by
  have hi:=(Qb.1 hf).1;have hF:=h2.2 f (Qc hf);show EN L m c (i:Int)=_;unfold EN;rw [Xn hf,zt,hf];simp only [cond_true,Qa];rw [WW h hm];simp only [Qa];rw [show (1:Int)=((1:Nat):Int) from rfl,Hd h1];simp only [Qa]
  have hin:zp (λz=>EO L m f ((Xq L c.Name).drop 1) z) 0=some (XC () (((Xq L c.Name).drop 1).findSome? (λs=>cond ((XM L s).any λy=>Us f y) (some false) none))):=Zd (λj s hj=>by
   have hjl:=(Qb.1 hj).1;simp only [List.length_drop] at hjl;show EO L m f ((Xq L c.Name).drop 1) (j:Int)=_;unfold EO;rw [Xn hj,zt,hj];simp only [cond_true,Qa];obtain ⟨v,e1,e2⟩:∃v,zQ L m s=some v/\v.1.Methods=XM L s:=⟨_,KJ hm s,by unfold XM;cases cl L s <;> rfl⟩;rw [e1];simp only [Qa];rw [e2,zC1 hF.pars.1 (hs s),zP (by omega)];simp only [Qa]
   cases (XM L s).any λy=>Us f y <;> rfl) (by
   show EO L m f ((Xq L c.Name).drop 1) (((Xq L c.Name).drop 1).length:Int)=_;unfold EO
   rw [Xo];rfl)
  rw [hin,z7];unfold zj8;rw [zP (by omega)]
  cases ((Xq L c.Name).drop 1).any λs=>(XM L s).any λy=>Us f y <;> rfl) (by
  show EN L m c (c.Methods.length:Int)=_;unfold EN
  rw [Xo];rfl),z7]
 unfold KX;cases c.Methods.any λf=>((Xq L c.Name).drop 1).any λs=>(XM L s).any λy=>Us f y <;> rfl
end
theorem zEu:zl5=some true:=by kernel_rfl
def zGV(i:Bool):List zr:=cond i [(zr.mk 1 0 [] []),(zr.mk 47 0 [] [])] [(zr.mk 46 0 [] [])]
def zH0(i:Bool):Tx:=cond i [73] [86]
def zG1(ps:List Tx)(i st:Bool):zb:=zb.mk [102] ps (zH0 i) st false ((ps.length:Int)+1) 1 (zGV i) [] []
def m0:zb:=zG1 [] false false
section
variable {l L : List za} {m : List (Tx × Int)}
theorem zvm(hL:L.length≤30):zfq L m=some (L.map (·.Name)):=by
 unfold zfq
 have key:∀(r pre:List za),L=pre++r->zp (λz=>Bq L z.1 z.2) (pre.map (·.Name),(pre.length:Int))=some (.inl (L.map (·.Name))):=by
  intro r
  induction r with
  |nil =>
   intro pre e;rw [Qx] at e;rw [zK];show (Bq L (pre.map (·.Name)) (pre.length:Int)).bind _=_;unfold Bq;rw [<-e,Xo];rfl
  |cons c r ih =>
   intro pre e
   have hlen:L.length=pre.length+(r.length+1):=by rw [e];simp
   have hx:L[pre.length]?=some c:=by rw [e];simp
   have ih:=ih (pre++[c]) (by rw [e];simp);rw [show (pre++[c]).length=pre.length+1 by simp] at ih;rw [zK];show (Bq L (pre.map (·.Name)) (pre.length:Int)).bind _=_;unfold Bq;rw [Xn hx,zt,hx];simp only [cond_true,Qa];rw [zHG (by simp;omega) (by omega),zP (by omega)];rw [J8] at ih;exact ih
 rw [show zp (λz=>Bq L z.1 z.2) ([],0)=_ from key L [] rfl];rfl
def G2(L:List za)(n:Tx):za:=(cl L n).getD zC
structure zHD(L:List za)(c:za):Prop where
 fields:c.Fields.length≤10000/\∀f∈c.Fields,f.Type_.length≤25
 methods:c.Methods.length≤10000/\∀f∈c.Methods,BB f
end
section
variable {l : List za} {m : List (Tx × Int)} {ps qs : List Tx} {i j s t : Bool}
end
section
variable {l L : List za} {m : List (Tx × Int)}
theorem zyw{f:zb}(h:ZQ f=true)(ha:f.Abstract=true)(h1:f.Code.length≤10000)(h2:f.Maps.length≤10000)(h3:f.Traps.length≤10000):f.Code=[]/\f.Traps=[]:=by
 unfold ZQ at h;rw [ha] at h;simp only [Qd,cond_true] at h;obtain ⟨_,h5⟩:=h;unfold HT at h5;simp only [Qd] at h5;have h6:=h5.2;rw [ZZ (n:=(f.Code.length:Int)+(f.Maps.length:Int)) (by omega) (by omega),ZZ (by omega) (by omega)] at h6
 have h7:(f.Code.length:Int)+(f.Maps.length:Int)+(f.Traps.length:Int)=0:=by simpa using h6
 exact ⟨Qf (by omega),Qf (by omega)⟩
structure Dk(f:zb):Prop where
 pars:f.Params.length≤6/\∀s∈f.Params,Xs s=true
 ret:ZT f.Ret=true
 traps:f.Traps.length≤6/\∀y∈f.Traps,y.C=[]∨XF y.C=true
 code:f.Code.length≤100/\∀x∈f.Code,UJ x=true
theorem zG2{f:zb}(h:ZQ f=true)(hF:zEc f):Dk f:=by
 obtain ⟨p1,p2,p3⟩:=ztZ h
 cases ha:f.Abstract with
 |true =>
  obtain ⟨e1,e2⟩:=zyw h ha hF.code.len hF.maps.len hF.traps.len;exact ⟨⟨p2,p1⟩,p3,by rw [e2];exact ⟨QW _,λy hy=>by cases hy⟩,by rw [e1];exact ⟨QW _,λy hy=>by cases hy⟩⟩
 |false =>
  have hk:=zF6 h ha;exact ⟨⟨p2,p1⟩,p3,⟨hk.ntraps,hk.traps⟩,hk.code.2,hk.ins⟩
theorem Dk.small{f:zb}(h:Dk f):BB f where
 pars:=⟨by have:=h.pars.1;omega,λs hs=>Gb (h.pars.2 s hs)⟩
 ret:=WA h.ret
 traps:=⟨by have:=h.traps.1;omega,λy hy=>by
  rcases h.traps.2 y hy with e |e
  .rw [e];exact QW _
  .have:=IA e;omega⟩
 code:=⟨by have:=h.code.1;omega,λx hx=>by have:=zCC (h.code.2 x hx);omega⟩
structure ZI(L:List za)(c:za):Prop where
 fields:c.Fields.length≤10000/\∀f∈c.Fields,Xs f.Type_=true
 methods:c.Methods.length≤10000/\∀f∈c.Methods,Dk f
 names:∀(i j:Nat) (f g:zb),c.Methods[i]?=some f->c.Methods[j]?=some g->f.Name=g.Name->i=j
theorem zuu{α:Type}{ok:α->Bool}{nm:α->List UInt8}:∀{r pre:List α},uB ok nm pre r=false->∀(i j:Nat) (x y:α),i<j->(pre++r)[i]?=some x->(pre++r)[j]?=some y->pre.length≤j->nm x≠nm y
 | [],pre,h,i,j,x,y,hij,hx,hy,hj=>by
  rw [Qx] at hy;have:=(Qb.1 hy).1;omega
 |z ::r,pre,h,i,j,x,y,hij,hx,hy,hj=>by
  unfold uB at h;simp only [Qo] at h;obtain ⟨⟨_,h2⟩,h3⟩:=h;by_cases e:j=pre.length
  .subst e
   have hz:y=z:=by simpa using hy.symm
   subst hz;rw [Qm hij] at hx;rw [QB] at h2;intro e;exact h2 x (Qc hx) (by rw [e];simp)
  .refine zuu (r:=r) (pre:=pre++[z]) h3 i j x y hij (by simpa using hx) (by simpa using hy) (by simp;omega)
theorem zDx{α:Type}{ok:α->Bool}{nm:α->List UInt8}{r:List α}(h:uB ok nm [] r=false)(i j:Nat)(x y:α)(hx:r[i]?=some x)(hy:r[j]?=some y)(e:nm x=nm y):i=j:=by
 rcases Yo i j with k |k |k
 .exact absurd e (zuu h i j x y k (by simpa using hx) (by simpa using hy) (QW _))
 .exact k
 .exact absurd e.symm (zuu h j i y x k (by simpa using hy) (by simpa using hx) (QW _))
theorem zAb{f:zj}(h:K3 f=true):Xs f.Type_=true:=by
 unfold K3 at h;simp only [Qd] at h;exact h.2
theorem zFQ(h:Xi l L)(hF:∀c∈L,GB c){c:za}(hc:c∈L):ZI L c:=by
 have hf:=hF c hc;have hfl:=hf.fields.len;have hml:=hf.methods.len;have hmd:∀f∈c.Methods,Dk f:=λf hm=>zG2 (zxH h hc hm) (hf.methods.all f hm);rw [h.app] at hc
 rcases Qq.1 hc with e |e
 .have hg:giv.all (λc=>decide (c.Methods.length=0)&&decide (c.Fields.length=0))=true:=by decide +kernel
  have:=Ql.1 hg c e;simp only [Qd,decide_eq_true_eq] at this;have e1:=Qf this.1;have e2:=Qf this.2;exact ⟨⟨hfl,λf hx=>by rw [e2] at hx;cases hx⟩,⟨hml,hmd⟩,λi j f g hx=>by rw [e1] at hx;simp at hx⟩
 .have hm:=h.may c e;unfold ZH at hm;simp only [Qd,Qn,decide_eq_true_eq] at hm;obtain ⟨_,⟨⟨⟨_,_⟩,h5,_⟩,h6,_⟩⟩:=hm;exact ⟨⟨hfl,λf hx=>zAb (BS h5 f hx)⟩,⟨hml,hmd⟩,λi j f g hx hy=>zDx h6 i j f g hx hy⟩
theorem ZI.small{c:za}(h:ZI L c):zHD L c:=⟨⟨h.fields.1,λf hf=>Gb (h.fields.2 f hf)⟩,⟨h.methods.1,λf hf=>(h.methods.2 f hf).small⟩⟩
theorem zwt:Xs []=false:=by decide +kernel
theorem zF4:Xs [84]=false:=by decide +kernel
theorem zF3:Xs [78]=false:=by decide +kernel
theorem WE{t s:Tx}(h:Xs t=true)(hs:Xs s=false):(t == s)=false:=by
 refine beq_eq_false_iff_ne.2 λe=>?_;rw [e,hs] at h;cases h
theorem Iz{t:Tx}(h:Xs t=true):X8 L t=!thN L t:=by
 unfold X8 ZS;rw [WE h zE2,WE h zwt,WE h zF3,WE h zF4];simp
theorem zxw:X8 L []=false:=by unfold X8;simp
theorem zCy{t:Tx}(h:ZT t=true):X8 L t=(!(t == [86])&&!thN L t):=by
 unfold ZT at h;rw [Qp] at h
 rcases h with h |h
 .unfold X8;rw [h];rfl
 .rw [Iz h,WE h zE2];simp
theorem zGv{t:Tx}(h:XF t=true):thN L t=Xh L t:=by
 unfold thN zx9;have e:ess t=t:=Oa (Ox h);rw [W3 h,e,QC]
 have:(t == [73])=false:=beq_eq_false_iff_ne.2 λe=>by rw [e,zoG] at h;cases h
 rw [this,QX]
theorem zAp{t:Tx}(h:t=[]∨XF t=true):X8 L t=(!(t == [])&&!Xh L t):=by
 rcases h with h |h
 .rw [h,zxw];rfl
 .rw [Iz (W3 h),zGv h,WE (W3 h) zwt];simp
theorem zCD{x:zr}(h:UJ x=true):x.C=[]∨Xs x.C=true:=by
 unfold UJ at h;simp only [Qd] at h;have:=h.1.2;unfold Hw at this;cases h1:Gg x.Op <;> rw [h1] at this
 .cases h2:Dc x.Op <;> rw [h2] at this
  .exact .inl (by simpa using this)
  .exact .inr (W3 this)
 .simp only [cond_true] at this;unfold Zv at this;simp only [Qd] at this;exact .inr this.2
theorem zCx{x:zr}(h:UJ x=true):X8 L x.C=(!(x.C == [])&&!thN L x.C):=by
 rcases zCD h with e |e
 .rw [e,zxw];rfl
 .rw [Iz e,WE e zwt];simp
theorem op4(o a b c d:Int)(h1:b=a+1)(h2:c=a+2)(h3:d=a+3):(decide (a≤o)&&decide (o≤d))=((((o == a)||(o == b))||(o == c))||(o == d)):=by
 rw [QT];simp only [Qd,Qp,decide_eq_true_eq,beq_iff_eq];omega
theorem op3(o a b c:Int)(h1:b=a+1)(h2:c=a+2):(decide (a≤o)&&decide (o≤c))=(((o == a)||(o == b))||(o == c)):=by
 rw [QT];simp only [Qd,Qp,decide_eq_true_eq,beq_iff_eq];omega
theorem zvG(h:Xi l L)(hL:XE L){x:zr}(hx:UJ x=true):ziv L x=some (!G7 L x):=by
 have h26:=h.len;have h10:=zCC hx;unfold ziv G7 Bm;rw [zCx hx,Kp h (by omega),op4 x.Op 38 39 40 41 rfl rfl rfl,op3 x.Op 42 43 44 rfl rfl,zqO h hL,zsd h hL,zmm h hL,Zj (by omega)]
 have e:(cond (!(x.C == [])) ((some (thN L x.C)).bind λv3=>some (!v3)) (some false):Option Bool)=some (!(x.C == [])&&!thN L x.C):=by cases x.C == [] <;> rfl
 rw [e];simp only [Qa]
 cases !(x.C == [])&&!thN L x.C with
 |true=>rfl
 |false =>
  unfold zxL XZ;simp only [cond_false,QX,Bool.not_not]
  cases (((x.Op == 38)||(x.Op == 39))||(x.Op == 40))||(x.Op == 41) with
  |true=>rfl
  |false =>
   simp only [cond_false]
   cases ((x.Op == 42)||(x.Op == 43))||(x.Op == 44) with
   |false =>
    simp only [cond_false];cases x.Op == 45 <;> rfl
   |true =>
    simp only [cond_true]
    cases hq:(((Xq L x.C).findSome? (X3 L UB x.M)).getD ([],zM,false)).2.2 with
    |false=>rfl
    |true =>
     simp only [cond_true,QC];rw [UW]
     cases hc:cl L x.C with
     |none =>
      exfalso;rw [WX (HG hc)] at hq;cases hq
     |some c =>
      have:isF L x.C=c.Interface:=by unfold isF;rw [hc]
      rw [this];rfl
end
section
variable {l L : List za} {m : List (Tx × Int)}
theorem zFl(h:Xi l L){f:zb}(hf:Dk f):zp (λz=>Eo L f z) 0=some (XC () (cond (f.Params.any λx=>X8 L x) (some false) none)):=by
 have h6:=hf.pars.1;rw [<-z7]
 exact Zd (λi s hs=>by
  have hi:=(Qb.1 hs).1;have hm:=hf.pars.2 s (Qc hs);show Eo L f (i:Int)=_;unfold Eo;rw [Xn hs,zt,hs];simp only [cond_true,Qa];rw [Kp h (by have:=Gb hm;omega),Iz hm,zP (by omega)];simp only [Qa]
  cases thN L s <;> rfl) (by
  show Eo L f (f.Params.length:Int)=_;unfold Eo
  rw [Xo];rfl)
theorem zDb(h:Xi l L){f:zb}(hf:Dk f):zp (λz=>EU L f z) 0=some (XC () (cond (f.Traps.any λx=>X8 L x.C) (some false) none)):=by
 have h6:=hf.traps.1;have h26:=h.len;rw [<-z7]
 exact Zd (λi s hs=>by
  have hi:=(Qb.1 hs).1;have hm:=hf.traps.2 s (Qc hs);show EU L f (i:Int)=_;unfold EU;rw [Xn hs,zt,hs];simp only [cond_true,Qa];rw [Zj (by omega),zAp hm,zP (by omega)];simp only [Qa];rw [G4]
  cases s.C == [] <;> cases Xh L s.C <;> rfl) (by
  show EU L f (f.Traps.length:Int)=_;unfold EU
  rw [Xo];rfl)
theorem zFj(h:Xi l L)(hL:XE L){f:zb}(hf:Dk f):zp (λz=>ET L f z) 0=some (XC () (cond (f.Code.any λx=>G7 L x) (some false) none)):=by
 have h6:=hf.code.1;rw [<-z7]
 exact Zd (λi s hs=>by
  have hi:=(Qb.1 hs).1;have hm:=hf.code.2 s (Qc hs);show ET L f (i:Int)=_;unfold ET;rw [Xn hs,zt,hs];simp only [cond_true,Qa];rw [zvG h hL hm,zP (by omega)];simp only [Qa]
  cases G7 L s <;> rfl) (by
  show ET L f (f.Code.length:Int)=_;unfold ET
  rw [Xo];rfl)
theorem zFk(h:Xi l L)(hL:XE L){c:za}(hc:ZI L c):zp (λz=>ES L c z) 0=some (XC () (cond (c.Methods.any λx=>DD L x) (some false) none)):=by
 have h6:=hc.methods.1;rw [<-z7]
 exact Zd (λi f hs=>by
  have hi:=(Qb.1 hs).1;have hf:=hc.methods.2 f (Qc hs);show ES L c (i:Int)=_;unfold ES;rw [Xn hs,zt,hs];simp only [cond_true,Qa];rw [Kp h (by have:=WA hf.ret;omega)]
  have e1:(cond (!(f.Ret == [86])) ((some (thN L f.Ret)).bind λv37=>some (!v37)) (some false):Option Bool)=some (X8 L f.Ret):=by rw [zCy hf.ret];cases f.Ret == [86] <;> rfl
  rw [e1,zFl h hf];unfold zkw;rw [zDb h hf];unfold zkx;rw [zFj h hL hf];unfold zky;rw [zP (by omega)];unfold DD
  cases X8 L f.Ret <;> cases (f.Params.any λx=>X8 L x) <;> cases (f.Traps.any λx=>X8 L x.C) <;> cases (f.Code.any λx=>G7 L x) <;> rfl) (by
  show ES L c (c.Methods.length:Int)=_;unfold ES
  rw [Xo];rfl)
theorem zwK(h:Xi l L)(hL:XE L){c:za}(hc:ZI L c):ziw L c=some (K6 L c):=by
 have h6:=hc.fields.1;unfold ziw
 rw [show zp (λz=>Ep L c z) 0=some (XC () (c.Fields.findSome? λx=>cond (X8 L x.Type_) (some false) none)) from Zd (λi f hs=>by
  have hi:=(Qb.1 hs).1;have hm:=hc.fields.2 f (Qc hs);show Ep L c (i:Int)=_;unfold Ep;rw [Xn hs,zt,hs];simp only [cond_true,Qa];rw [Kp h (by have:=Gb hm;omega),Iz hm,zP (by omega)];simp only [Qa]
  cases thN L f.Type_ <;> rfl) (by
  show Ep L c (c.Fields.length:Int)=_;unfold Ep
  rw [Xo];rfl),z7]
 unfold zk1;rw [zFk h hL hc];unfold K6;cases (c.Fields.any λx=>X8 L x.Type_) <;> cases (c.Methods.any λx=>DD L x) <;> rfl
def zGO(T:List zb):Prop:=∀(i j:Nat) (f g:zb),T[i]?=some f->T[j]?=some g->f.Name=g.Name->i=j
theorem ztt{T:List zb}{n:Tx}{q:zb->Bool}(hu:zGO T):(T.any λy=>(y.Name == n)&&q y)=(match T.find? (λy=>y.Name == n) with |some y=>q y |none=>false):=by
 cases hf:T.find? (λy=>y.Name == n) with
 |none =>
  rw [Yh] at hf;rw [QB];intro y hy;have:=hf y hy;simp only [Yy] at this;simp [this]
 |some y =>
  have h1:=QK hf
  have h2:y.Name=n:=by simpa using List.find?_some hf
  rw [QT,Qy];constructor
  .rintro ⟨z,hz,k⟩;simp only [Qd,beq_iff_eq] at k;obtain ⟨i,hi⟩:=List.mem_iff_getElem?.1 hz;obtain ⟨j,hj⟩:=List.mem_iff_getElem?.1 h1;have:=hu i j z y hi hj (by rw [k.1,h2]);subst this;rw [hi] at hj;cases hj;exact k.2
  .intro k;exact ⟨y,h1,by simp [h2];exact k⟩
theorem zFZ{α:Type}(p:α->Bool)(l:List α):decide (ixF p 0 l<0)=!(l.find? p).isSome:=by
 rw [<-HL];by_cases h:0≤ixF p 0 l
 .rw [decide_eq_true h,decide_eq_false (by omega)];rfl
 .rw [decide_eq_false h,decide_eq_true (by omega)];rfl
theorem zlJ(a b:zb):Ud a b=Ud b a:=by
 unfold Ud;rw [QT];simp only [Qd,beq_iff_eq];exact ⟨λh=>⟨h.1.symm,h.2.symm⟩,λh=>⟨h.1.symm,h.2.symm⟩⟩
theorem znG{a b:zb}(h:a.Params.length≤10000):WY a b=some (Ud a b):=by
 unfold WY Ud;rw [zqY (by omega)];rfl
theorem zt1{s:Tx}{x:za}(h:cl L s=some x):XM L s=x.Methods:=by unfold XM;rw [h]
theorem zGp(h:Xi l L)(hD:∀c∈L,ZI L c){c:za}{T:List Tx}{i j:Nat}{f:zb}{s:Tx}(hf:c.Methods[i]?=some f)(hp:f.Params.length≤10000)(hj:T[j]?=some s)(hjl:j<1000)(hs:Xh L s=true):
  EA L c T (i:Int) (j:Int)=some (UF j (cond ((XM L s).any λy=>Us f y) (some false) none)):=by
 have h26:=h.len;obtain ⟨x,hx⟩:=Zc hs;have hxd:=hD x (XU hx).1;have hm0:=hxd.methods.1;unfold EA;rw [Xn hj,zt T,hj];simp only [cond_true,Qa];rw [Zj (by omega)];simp only [Qa];rw [UW,hx];simp only [Qa];rw [zt c.Methods,hf];simp only [Qa];rw [Ba (by unfold XI;omega)];simp only [Qa];rw [zFZ,G8,zt1 hx]
 have e:(x.Methods.any λy=>Us f y)=x.Methods.any λy=>(y.Name == f.Name)&&(!(f.Name == [36,105,110,105,116])&&((!Ud f y||f.Static)||y.Static)):=by
  congr 1;funext y;unfold Us;rw [Bool.and_assoc]
 rw [e,ztt hxd.names];unfold zfx zgw;rw [zP (by omega)]
 cases hq:x.Methods.find? (λy=>y.Name == f.Name) with
 |none=>rfl
 |some y =>
  have hy:=QK hq;have hyd:=(hxd.methods.2 y hy).pars.1;simp only [JD,Qt,cond_false,Qa];rw [znG (by omega),zlJ y f];simp only [Qa];cases f.Name == [36,105,110,105,116] <;> cases Ud f y <;> cases f.Static <;> cases y.Static <;> rfl
end
section
variable {l L : List za} {m : List (Tx × Int)}
theorem zC5(h:Xi l L)(hD:∀c∈L,ZI L c){c:za}{T:List Tx}{i:Nat}{f:zb}(hf:c.Methods[i]?=some f)(hp:f.Params.length≤10000)(hT:T.length≤1000)(hT2:∀s∈T,Xh L s=true):
  zp (λz=>EA L c T (i:Int) z) 0=some (XC () (cond (T.any λs=>(XM L s).any λy=>Us f y) (some false) none)):=by
 rw [<-z7]
 exact Zd (λj s hj=>by
  have hjl:=(Qb.1 hj).1
  exact zGp h hD hf hp hj (by omega) (hT2 s (Qc hj))) (by
  show EA L c T (i:Int) (T.length:Int)=_;unfold EA
  rw [Xo];rfl)
theorem zFb(h:Xi l L)(hD:∀c∈L,ZI L c){c:za}(hc:ZI L c){T:List Tx}(hT:T.length≤1000)(hT2:∀s∈T,Xh L s=true):
  zp (λz=>Ez L c T z) 0=some (XC () (cond (c.Methods.any λf=>T.any λs=>(XM L s).any λy=>Us f y) (some false) none)):=by
 have h6:=hc.methods.1;rw [<-z7]
 exact Zd (λi f hf=>by
  have hi:=(Qb.1 hf).1;have hm:=hc.methods.2 f (Qc hf);show Ez L c T (i:Int)=_;unfold Ez;rw [Xn hf,zC5 h hD hf (by have:=hm.pars.1;omega) hT hT2];unfold zkt;rw [zP (by omega)]
  cases (T.any λs=>(XM L s).any λy=>Us f y) <;> rfl) (by
  show Ez L c T (c.Methods.length:Int)=_;unfold Ez
  rw [Xo];rfl)
def XR(f y:zb):Bool:=(y.Name == f.Name)&&!Ud f y
def KR(L:List za)(c:Tx)(f:zb):Bool:=(chN L c f.Name).2&&(XM L (chN L c f.Name).1).any λy=>(y.Name == f.Name)&&Ud f y
theorem Ie(hD:∀c∈L,ZI L c)(s:Tx):(XM L s).length≤10000/\∀f∈XM L s,Dk f:=by
 unfold XM
 cases hc:cl L s with
 |none=>exact ⟨QW _,λf hf=>by cases hf⟩
 |some x=>exact (hD x (XU hc).1).methods
theorem zFf(h:Xi l L)(hD:∀c∈L,ZI L c){T:List Tx}{f:zb}(hp:f.Params.length≤10000)(hT:T.length≤1000)(hT2:∀s∈T,Xh L s=true):
  zp (λz=>Er L T f z) 0=some (XC () (cond (T.any λs=>(XM L s).any λy=>XR f y) (some false) none)):=by
 have h26:=h.len;rw [<-z7]
 exact Zd (λj s hj=>by
  have hjl:=(Qb.1 hj).1;obtain ⟨x,hx⟩:=Zc (hT2 s (Qc hj));have hxd:=hD x (XU hx).1;have hm0:=hxd.methods.1;show Er L T f (j:Int)=_;unfold Er;rw [Xn hj,zt T,hj];simp only [cond_true,Qa];rw [Zj (by omega)];simp only [Qa];rw [UW,hx];simp only [Qa];rw [Ba (by unfold XI;omega)];simp only [Qa];rw [HL,G8,zt1 hx];have e:(x.Methods.any λy=>XR f y)=x.Methods.any λy=>(y.Name == f.Name)&&!Ud f y:=rfl;rw [e,ztt hxd.names];unfold zgT;rw [zP (by omega)]
  cases hq:x.Methods.find? (λy=>y.Name == f.Name) with
  |none=>rfl
  |some y =>
   have hy:=QK hq;have hyd:=(hxd.methods.2 y hy).pars.1;simp only [JD,cond_true,Qa];rw [znG (by omega),zlJ y f];simp only [Qa]
   cases Ud f y <;> rfl) (by
  show Er L T f (T.length:Int)=_;unfold Er
  rw [Xo];rfl)
theorem zCf{c n:Tx}(h:(chN L c n).2=true):∃x f,cl L (chN L c n).1=some x/\x.Methods.find? (λy=>y.Name == n)=some f:=by
 unfold chN at h ⊢
 cases hb:(Xh L c&&!isF L c) with
 |false=>rw [hb] at h;cases h
 |true =>
  rw [hb] at h;simp only [cond_true] at h ⊢
  cases hq:(Xq L c).findSome? (chG L n) with
  |none=>rw [hq] at h;cases h
  |some r =>
   rw [hq] at h;simp only [QY] at h ⊢;obtain ⟨s,hs,hr⟩:=Jh hq;unfold chG at hr
   cases hc:cl L s with
   |none=>rw [hc] at hr;cases hr
   |some x =>
    rw [hc] at hr;simp only at hr
    cases hf:x.Methods.find? (λy=>y.Name == n) with
    |none=>rw [hf] at hr;cases hr
    |some f =>
     rw [hf] at hr;simp only at hr
     cases hst:f.Static with
     |true=>rw [hst] at hr;cases hr
     |false =>
      rw [hst] at hr
      have e:r=(s,true):=by simpa using hr.symm
      rw [e];exact ⟨x,f,hc,hf⟩
theorem zCG(h:Xi l L)(hL:XE L)(hD:∀c∈L,ZI L c){c:za}{T:List Tx}{f:zb}(hp:f.Params.length≤10000)(hT:T.length≤1000)(hT2:∀s∈T,Xh L s=true):
  zhb L c T f=some (!(T.any λs=>(XM L s).any λy=>XR f y)&&(c.Interface||KR L c.Name f)):=by
 have h26:=h.len;unfold zhb;rw [zFf h hD hp hT hT2]
 cases (T.any λs=>(XM L s).any λy=>XR f y) with
 |true=>rfl
 |false =>
  simp only [cond_false,XC,Qa,zH,QL,QC];unfold zkZ
  cases c.Interface with
  |true=>rfl
  |false =>
   simp only [cond_false,QX];rw [zvE h hL];simp only [Qa];unfold KR
   cases hq:(chN L c.Name f.Name).2 with
   |false=>rfl
   |true =>
    obtain ⟨x,y,hx,hy⟩:=zCf hq;have hxd:=hD x (XU hx).1;have hm0:=hxd.methods.1;have hyd:=(hxd.methods.2 y (QK hy)).pars.1;simp only [Qt,cond_false,QC];rw [Zj (by omega)];simp only [Qa];rw [UW,hx];simp only [Qa];rw [Ba (by unfold XI;omega)];simp only [Qa];rw [G8,hy];simp only [Qa];rw [znG (by omega),zt1 hx,ztt hxd.names,hy,zlJ y f];rfl
def US(L:List za)(n:Tx):List zb:=(XH L n).flatMap (XM L)
def UX(L:List za)(c:za):Bool:=!((US L c.Name).any λf=>(US L c.Name).any λy=>XR f y)&&(c.Interface||!((US L c.Name).any λf=>!KR L c.Name f))
theorem zCF(c:za):((XH L c.Name).any λs=>(XM L s).any λf=>!(!((XH L c.Name).any λs=>(XM L s).any λy=>XR f y)&&(c.Interface||KR L c.Name f)))=!UX L c:=by
 have e1:∀f,((XH L c.Name).any λs=>(XM L s).any λy=>XR f y)=(US L c.Name).any λy=>XR f y:=λf=>by unfold US;rw [List.any_flatMap]
 have e2:∀p:zb->Bool,((XH L c.Name).any λs=>(XM L s).any p)=(US L c.Name).any p:=λp=>by unfold US;rw [List.any_flatMap]
 rw [e2];simp only [e1];unfold UX;generalize US L c.Name=A;rw [QT];simp only [Qn,JE,Qy,Qo,Q9,Qy];constructor
 .rintro ⟨f,hf,h |⟨h1,h2⟩⟩
  .exact .inl ⟨f,hf,by simpa using h⟩
  .exact .inr ⟨h1,f,hf,by simpa using h2⟩
 .rintro (⟨f,hf,h⟩ |⟨h1,f,hf,h2⟩)
  .exact ⟨f,hf,.inl (by simpa using h)⟩
  .exact ⟨f,hf,.inr ⟨h1,by simpa using h2⟩⟩
theorem zC6(h:Xi l L)(hL:XE L)(hD:∀c∈L,ZI L c){c:za}:zhZ L c=some (UX L c):=by
 have h26:=h.len;have h52:=Ol h c.Name;unfold zhZ;rw [znH h];simp only [Qa]
 rw [show zp (λz=>EV L c (XH L c.Name) z) 0=some (XC () ((XH L c.Name).findSome? λs=>cond ((XM L s).any λf=>!(!((XH L c.Name).any λs=>(XM L s).any λy=>XR f y)&&(c.Interface||KR L c.Name f))) (some false) none)) from Zd (λi s hs=>by
  have hi:=(Qb.1 hs).1;obtain ⟨x,hx⟩:=Zc (Om h (Qc hs));have hxd:=hD x (XU hx).1;have hm0:=hxd.methods.1;show EV L c (XH L c.Name) (i:Int)=_;unfold EV;rw [Xn hs,zt,hs];simp only [cond_true,Qa];rw [Zj (by omega)];simp only [Qa];rw [UW,hx];simp only [Qa]
  rw [show zp (λz=>EW L c (XH L c.Name) x z) 0=some (XC () (x.Methods.findSome? λf=>cond (!(!((XH L c.Name).any λs=>(XM L s).any λy=>XR f y)&&(c.Interface||KR L c.Name f))) (some false) none)) from Zd (λk f hf=>by
   have hk:=(Qb.1 hf).1;have hfd:=(hxd.methods.2 f (Qc hf)).pars.1;show EW L c (XH L c.Name) x (k:Int)=_;unfold EW;rw [Xn hf,zt,hf];simp only [cond_true,Qa];rw [zCG h hL hD (by omega) (by omega) (λs hs=>Om h hs),zP (by omega)];simp only [Qa]
   cases (!((XH L c.Name).any λs=>(XM L s).any λy=>XR f y)&&(c.Interface||KR L c.Name f)) <;> rfl) (by
   show EW L c (XH L c.Name) x (x.Methods.length:Int)=_;unfold EW
   rw [Xo];rfl),z7,zt1 hx]
  unfold zku;rw [zP (by omega)]
  cases (x.Methods.any λf=>!(!((XH L c.Name).any λs=>(XM L s).any λy=>XR f y)&&(c.Interface||KR L c.Name f))) <;> rfl) (by
  show EV L c (XH L c.Name) ((XH L c.Name).length:Int)=_;unfold EV
  rw [Xo];rfl),z7,zCF]
 unfold zkv;cases UX L c <;> rfl
theorem zwJ(h:Xi l L)(hL:XE L)(hD:∀c∈L,ZI L c){c:za}(hc:c∈L):ziu L c=some (KX L c&&UX L c):=by
 have hn:Xh L c.Name=true:=ZG (h.nd.cl hc);have h1:=zBz h hn;have h26:=UM h c.Name;unfold ziu;rw [W6 h];simp only [Qa];rw [show (1:Int)=((1:Nat):Int) from rfl,Hd h1];simp only [Qa];rw [zFb h hD (hD c hc) (by simp;omega) (λs hs=>Oq h c.Name s (J5 hs)),zC6 h hL hD];unfold KX;cases (c.Methods.any λf=>((Xq L c.Name).drop 1).any λs=>(XM L s).any λy=>Us f y) <;> rfl
end
section
variable {l L : List za} {m : List (Tx × Int)}
theorem zAa{f y:zb}(h:f.Params.length≤10000):zi4 y f.Name f.Params f.Ret f.Static f.Abstract f.Locals f.Stack f.Code f.Maps f.Traps=some (XR f y):=by
 unfold zi4 XR;rw [ztq (a:=zb.mk f.Name f.Params f.Ret f.Static f.Abstract f.Locals f.Stack f.Code f.Maps f.Traps) h];cases y.Name == f.Name <;> rfl
theorem zEq{f:zb}(h:f.Params.length≤10000){T:List zb}(hl:T.length≤10000000):zad T f.Name f.Params f.Ret f.Static f.Abstract f.Locals f.Stack f.Code f.Maps f.Traps=some (T.any λy=>XR f y):=by
 unfold zad zbG
 rw [show ((zp (λz=>zau T f.Name f.Params f.Ret f.Static f.Abstract f.Locals f.Stack f.Code f.Maps f.Traps z) 0).bind λo=>zH o (λb=>zcF) some)=_ from Zq (l:=T) (p:=λy:zb=>XR f y) (by omega) (λi x hx=>by
   unfold zau;rw [Xn hx,zt,hx];simp only [Qa,cond_true];rw [zAa h]
   rfl) (by unfold zau;rw [Xo];rfl)]
 rw [Qa,ZB]
theorem zES{f y:zb}(h:f.Params.length≤10000):zkP y f.Name f.Params f.Ret f.Static f.Abstract f.Locals f.Stack f.Code f.Maps f.Traps=some ((y.Name == f.Name)&&Ud f y):=by
 unfold zkP;rw [ztq (a:=zb.mk f.Name f.Params f.Ret f.Static f.Abstract f.Locals f.Stack f.Code f.Maps f.Traps) h];cases y.Name == f.Name <;> rfl
theorem zEU{f:zb}(h:f.Params.length≤10000){T:List zb}(hl:T.length≤10000):zaf T f.Name f.Params f.Ret f.Static f.Abstract f.Locals f.Stack f.Code f.Maps f.Traps=some (T.any λy=>(y.Name == f.Name)&&Ud f y):=by
 unfold zaf zbI
 rw [show ((zp (λz=>zaw T f.Name f.Params f.Ret f.Static f.Abstract f.Locals f.Stack f.Code f.Maps f.Traps z) 0).bind λo=>zH o (λb=>zcH) some)=_ from Zq (l:=T) (p:=λy:zb=>(y.Name == f.Name)&&Ud f y) (by omega) (λi x hx=>by
   unfold zaw;rw [Xn hx,zt,hx];simp only [Qa,cond_true];rw [zES h]
   rfl) (by unfold zaw;rw [Xo];rfl)]
 rw [Qa,ZB]
theorem zGZ(h:Xi l L)(hm:Xu L m)(hL:XE L)(hD:∀c∈L,ZI L c){c:Tx}{f:zb}(hp:f.Params.length≤10000):znW L m c f=some (KR L c f):=by
 unfold znW KR;rw [zCg h hm hL];simp only [Qa]
 cases (chN L c f.Name).2 with
 |false=>rfl
 |true =>
  simp only [Qt,cond_false,QC];obtain ⟨v,e1,e2⟩:∃v,zQ L m (chN L c f.Name).1=some v/\v.1.Methods=XM L (chN L c f.Name).1:=⟨_,KJ hm _,by unfold XM;cases cl L (chN L c f.Name).1 <;> rfl⟩;rw [e1];simp only [Qa];rw [e2,zEU hp (Ie hD _).1];rfl
theorem zE9(h:Xi l L)(hm:Xu L m)(hL:XE L)(hD:∀c∈L,ZI L c){c:za}{T:List zb}(hl:T.length≤10000000)(hT:∀f∈T,f.Params.length≤10000):
  zae T L m c.Name c.Super c.Interface c.Impl c.Fields c.Methods=some (T.any λf=>!KR L c.Name f):=by
 unfold zae zbH
 rw [show ((zp (λz=>zav T L m c.Name c.Super c.Interface c.Impl c.Fields c.Methods z) 0).bind λo=>zH o (λb=>zcG) some)=_ from Zq (l:=T) (p:=λf:zb=>!KR L c.Name f) (by omega) (λi x hx=>by
   unfold zav zk9;rw [Xn hx,zt,hx];simp only [Qa,cond_true];rw [zGZ h hm hL hD (hT x (Qc hx))]
   rfl) (by unfold zav;rw [Xo];rfl)]
 rw [Qa,ZB]
def ZD:List zb->List zb->Option (List zb)
 |acc,[]=>some acc
 |acc,f ::r=>cond (acc.any λy=>XR f y) none (ZD (acc++[f]) r)
theorem zw0:∀(A acc B:List zb),ZD acc (A++B)=(ZD acc A).bind λa=>ZD a B
 | [],acc,B=>rfl
 |f ::r,acc,B=>by
  show cond (acc.any λy=>XR f y) none (ZD (acc++[f]) (r++B))=(cond (acc.any λy=>XR f y) none (ZD (acc++[f]) r)).bind λa=>ZD a B;rw [zw0 r (acc++[f]) B];cases (acc.any λy=>XR f y) <;> rfl
theorem zzy:∀(A acc a:List zb),ZD acc A=some a->a=acc++A
 | [],acc,a,h=>by
  have:a=acc:=by simpa [ZD] using h.symm
  rw [this];simp
 |f ::r,acc,a,h=>by
  have h:cond (acc.any λy=>XR f y) none (ZD (acc++[f]) r)=some a:=h
  cases hb:(acc.any λy=>XR f y) with
  |true=>rw [hb] at h;cases h
  |false =>
   rw [hb] at h;rw [zzy r (acc++[f]) a h];simp
theorem zCa{f y:zb}(h:XR f y=true):XR y f=true:=by
 unfold XR at h ⊢;simp only [Qd,beq_iff_eq] at h ⊢;exact ⟨h.1.symm,by rw [zlJ];exact h.2⟩
theorem zCb(f:zb):XR f f=false:=by
 unfold XR Ud;simp
theorem zuF:∀(A acc:List zb),(∃f∈A,∃y∈acc++A,XR f y=true)->ZD acc A=none
 | [],acc,⟨f,hf,_⟩=>by cases hf
 |f ::r,acc,⟨g,hg,y,hy,hb⟩=>by
  show cond (acc.any λy=>XR f y) none (ZD (acc++[f]) r)=none
  cases ha:(acc.any λy=>XR f y) with
  |true=>rfl
  |false =>
   rw [QB] at ha;show ZD (acc++[f]) r=none;refine zuF r (acc++[f]) ?_
   have hy2:y∈(acc++[f])++r:=by simpa using hy
   rcases Qr.1 hg with e |e
   .subst e
    rcases Qq.1 hy with k |k
    .exact absurd hb (ha y k)
    .rcases Qr.1 k with e |e
     .subst e;rw [zCb] at hb;cases hb
     .exact ⟨y,e,g,by simp,zCa hb⟩
   .exact ⟨g,e,y,hy2,hb⟩
theorem zuG:∀(A acc:List zb),(∀f∈A,∀y∈acc++A,XR f y=false)->ZD acc A=some (acc++A)
 | [],acc,_=>by simp [ZD]
 |f ::r,acc,h=>by
  show cond (acc.any λy=>XR f y) none (ZD (acc++[f]) r)=_
  have ha:(acc.any λy=>XR f y)=false:=by
   rw [QB];intro y hy;rw [h f (by simp) y (by simp [hy])];simp
  rw [ha];show ZD (acc++[f]) r=_;rw [zuG r (acc++[f]) λg hg y hy=>h g (by simp [hg]) y (by simpa using hy)];simp
theorem zB4(A:List zb):ZD [] A=cond (A.any λf=>A.any λy=>XR f y) none (some A):=by
 cases h:(A.any λf=>A.any λy=>XR f y) with
 |true =>
  rw [Qy] at h;obtain ⟨f,hf,h⟩:=h;rw [Qy] at h;obtain ⟨y,hy,h⟩:=h;exact zuF A [] ⟨f,hf,y,by simpa using hy,h⟩
 |false =>
  rw [QB] at h
  have:=zuG A [] λf hf y hy=>by
   have h1:=h f hf;simp only [Yy,QB] at h1;simpa using h1 y (by simpa using hy)
  simpa using this
theorem zxq(x:za)(b:Bool)(hp:∀f∈x.Methods,f.Params.length≤10000)(hn:x.Methods.length≤10000):∀(r pre acc:List zb),x.Methods=pre++r->acc.length+r.length≤1000000 ->
  zp (λz=>Em (x,b) z.1 z.2) (acc,(pre.length:Int))=some (match ZD acc r with |some a=>.inl a |none=>.inr false)
 | [],pre,acc,e,hl=>by
  rw [Qx] at e;rw [zK];show (Em (x,b) acc (pre.length:Int)).bind _=_;unfold Em;simp only;rw [<-e,Xo];rfl
 |f ::r,pre,acc,e,hl=>by
  have hx:x.Methods[pre.length]?=some f:=by rw [e];simp
  have hlen:x.Methods.length=pre.length+(r.length+1):=by rw [e];simp
  simp only [Qu] at hl;rw [zK];show (Em (x,b) acc (pre.length:Int)).bind _=_;unfold Em;simp only;rw [Xn hx,zt,hx];simp only [cond_true,Qa];rw [zEq (hp f (Qc hx)) (by omega)];simp only [Qa]
  show _=some (match cond (acc.any λy=>XR f y) none (ZD (acc++[f]) r) with |some a=>Sum.inl a |none=>Sum.inr false)
  cases (acc.any λy=>XR f y) with
  |true=>rfl
  |false =>
   simp only [cond_false];rw [Zk (by simp;omega) (by simp;omega)];simp only [Qa];rw [zP (by omega)];have ih:=zxq x b hp hn r (pre++[f]) (acc++[f]) (by rw [e];simp) (by simp;omega);rw [show (pre++[f]).length=pre.length+1 by simp] at ih;exact ih
theorem zxr(h:Xi l L)(hm:Xu L m)(hD:∀c∈L,ZI L c){T:List Tx}(hT:T.length≤52):∀(r pre:List Tx) (acc:List zb),T=pre++r->acc.length≤10000*pre.length ->
  zp (λz=>El L m T z.1 z.2) (acc,(pre.length:Int))=some (match ZD acc (r.flatMap (XM L)) with |some a=>.inl a |none=>.inr false)
 | [],pre,acc,e,hl=>by
  rw [Qx] at e;rw [zK];show (El L m T acc (pre.length:Int)).bind _=_;unfold El;rw [<-e,Xo];rfl
 |s ::r,pre,acc,e,hl=>by
  have hx:T[pre.length]?=some s:=by rw [e];simp
  have hlen:T.length=pre.length+(r.length+1):=by rw [e];simp
  have hd:=Ie hD s
  obtain ⟨x,b,e1,e2⟩:∃x b,zQ L m s=some (x,b)/\x.Methods=XM L s:=by
   rw [KJ hm];unfold XM
   cases cl L s with
   |none=>exact ⟨_,_,rfl,rfl⟩
   |some x=>exact ⟨_,_,rfl,rfl⟩
  rw [zK];show (El L m T acc (pre.length:Int)).bind _=_;unfold El;rw [Xn hx,zt,hx];simp only [cond_true,Qa];rw [e1];simp only [Qa];have hin:=zxq x b (λf hf=>by rw [e2] at hf;have:=(hd.2 f hf).pars.1;omega) (by rw [e2];exact hd.1) x.Methods [] acc rfl (by rw [e2];have:=hd.1;omega);rw [show (([]:List zb).length:Int)=0 from rfl] at hin;rw [hin,e2];rw [List.flatMap_cons,zw0]
  cases ha:ZD acc (XM L s) with
  |none=>rfl
  |some a =>
   simp only [Qa,zH,Sum.elim];unfold zm9;rw [zP (by omega)]
   have hal:a.length≤10000*(pre++[s]).length:=by
    rw [zzy _ _ _ ha];simp only [QA,Qu,Je];have:=hd.1;omega
   have ih:=zxr h hm hD hT r (pre++[s]) a (by rw [e];simp) hal;rw [show (pre++[s]).length=pre.length+1 by simp] at ih;exact ih
theorem zEH(h:Xi l L)(hm:Xu L m)(hL:XE L)(hD:∀c∈L,ZI L c){c:za}:zjb L m c=some (UX L c):=by
 have h52:=Ol h c.Name;unfold zjb;rw [zrx h hm];simp only [Qa];have ho:=zxr h hm hD h52 (XH L c.Name) [] [] rfl (by simp);rw [show (([]:List Tx).length:Int)=0 from rfl] at ho;rw [ho]
 show (some (match ZD [] (US L c.Name) with |some a=>Sum.inl a |none=>Sum.inr false):Option (Sum (List zb) Bool)).bind _=_
 rw [zB4];unfold UX
 cases hb:((US L c.Name).any λf=>(US L c.Name).any λy=>XR f y) with
 |true=>rfl
 |false =>
  simp only [cond_false,Qa,zH,QL,QC];unfold zna
  have hlen:(US L c.Name).length≤10000*52:=by
   unfold US
   have:∀T:List Tx,(T.flatMap (XM L)).length≤10000*T.length:=λT=>by
    induction T with
    |nil=>simp
    |cons s T ih =>
     rw [List.flatMap_cons,QA,Qu];have:=(Ie hD s).1;omega
   have:=this (XH L c.Name);omega
  rw [zE9 h hm hL hD (c:=c) (T:=US L c.Name) (by omega) (λf hf=>by
   unfold US at hf;obtain ⟨s,hs,hf⟩:=Yu.1 hf;have:=((Ie hD s).2 f hf).pars.1
   omega)]
  cases c.Interface <;> rfl
end
section
variable {l L : List za} {m : List (Tx × Int)}
def BK(L:List za):Int:=cond (L.any λc=>!K6 L c) 4 (cond (L.any λc=>!(KX L c&&UX L c)) 1 0)
theorem zs2(h:Xi l L)(p:za->Bool):((L.map (·.Name)).any λn=>p (G2 L n))=L.any p:=by
 have hnd:Nd L:=h.nd;rw [List.any_map,QT,Qy,Qy];constructor
 .rintro ⟨c,hc,k⟩;refine ⟨c,hc,?_⟩
  have:G2 L c.Name=c:=by unfold G2;rw [hnd.cl hc];rfl
  simpa [Function.comp,this] using k
 .rintro ⟨c,hc,k⟩;refine ⟨c,hc,?_⟩
  have:G2 L c.Name=c:=by unfold G2;rw [hnd.cl hc];rfl
  simpa [Function.comp,this] using k
theorem zxK(h:Xi l L){i:Nat}{n:Tx}(hn:(L.map (·.Name))[i]?=some n):∃c,c∈L/\cl L n=some c/\c.Name=n/\G2 L n=c:=by
 have hnd:Nd L:=h.nd;rw [JU] at hn
 cases hc:L[i]? with
 |none=>rw [hc] at hn;cases hn
 |some c =>
  rw [hc] at hn
  have e:c.Name=n:=by simpa using hn
  have hcm:=Qc hc
  have h2:cl L n=some c:=by rw [<-e];exact hnd.cl hcm
  exact ⟨c,hcm,h2,e,by unfold G2;rw [h2];rfl⟩
theorem zxE(h:Xi l L)(hm:Xu L m)(hL:XE L)(hD:∀c∈L,ZI L c):DX (some (zJ.mk L m))=some (BK L):=by
 have h26:=h.len;unfold DX;simp only [Um];rw [zvm (by omega)];simp only [Qa]
 rw [show zp (λz=>Eb (zJ.mk L m) (L.map (·.Name)) z) 0=some (XC () ((L.map (·.Name)).findSome? (λn=>cond (!K6 L (G2 L n)) (some 4) none))) from Zd (λi n hn=>by
  have hi:=(Qb.1 hn).1;rw [Ja] at hi;obtain ⟨c,c1,c2,c3,c4⟩:=zxK h hn;have hs:=(hD c c1).small;show Eb (zJ.mk L m) (L.map (·.Name)) (i:Int)=_;unfold Eb;rw [Xn hn,zt,hn];simp only [cond_true,Qa];rw [KJ hm,c2];simp only [Qa];rw [zDA h hm hL hs.fields hs.methods,zP (by omega),c4]
  cases K6 L c <;> rfl) (by
  show Eb (zJ.mk L m) (L.map (·.Name)) ((L.map (·.Name)).length:Int)=_;unfold Eb
  rw [Xo];rfl),z7,zs2 h (λc=>!K6 L c)]
 unfold BK
 cases (L.any λc=>!K6 L c) with
 |true=>rfl
 |false =>
  simp only [cond_false,XC,Qa,zH];unfold zmy;simp only;rw [zvm (by omega)];simp only [Qa]
  rw [show zp (λz=>Ea (zJ.mk L m) (L.map (·.Name)) z) 0=some (XC () ((L.map (·.Name)).findSome? (λn=>cond (!(KX L (G2 L n)&&UX L (G2 L n))) (some 1) none))) from Zd (λi n hn=>by
   have hi:=(Qb.1 hn).1;rw [Ja] at hi;obtain ⟨c,c1,c2,c3,c4⟩:=zxK h hn;have hs:=(hD c c1).small;show Ea (zJ.mk L m) (L.map (·.Name)) (i:Int)=_;unfold Ea;rw [Xn hn,zt,hn];simp only [cond_true,Qa];rw [KJ hm,c2];simp only [Qa];rw [zvt h hm (λs=>(Ie hD s).1) (by rw [c3];exact ZG c2) hs.methods,zEH h hm hL hD,zP (by omega),c4]
   cases KX L c <;> cases UX L c <;> rfl) (by
   show Ea (zJ.mk L m) (L.map (·.Name)) ((L.map (·.Name)).length:Int)=_;unfold Ea
   rw [Xo];rfl),z7,zs2 h (λc=>!(KX L c&&UX L c))]
  cases (L.any λc=>!(KX L c&&UX L c)) <;> rfl
theorem zxD(h:Xi l L)(hL:XE L)(hD:∀c∈L,ZI L c):Bc (some (zB.mk L))=some (BK L):=by
 have h26:=h.len;unfold Bc;simp only [Um]
 rw [show zp (λz=>EG (zB.mk L) z) 0=some (XC () (L.findSome? (λc=>cond (!K6 L c) (some 4) none))) from Zd (λi c hn=>by
  have hi:=(Qb.1 hn).1;have hc:=Qc hn;show EG (zB.mk L) (i:Int)=_;unfold EG;simp only;rw [Xn hn,zt,hn];simp only [cond_true,Qa];rw [zwK h hL (hD c hc),zP (by omega)]
  cases K6 L c <;> rfl) (by
  show EG (zB.mk L) (L.length:Int)=_;unfold EG;simp only
  rw [Xo];rfl),z7]
 unfold BK
 cases (L.any λc=>!K6 L c) with
 |true=>rfl
 |false =>
  simp only [cond_false,XC,Qa,zH];unfold zkp
  rw [show zp (λz=>EF (zB.mk L) z) 0=some (XC () (L.findSome? (λc=>cond (!(KX L c&&UX L c)) (some 1) none))) from Zd (λi c hn=>by
   have hi:=(Qb.1 hn).1;have hc:=Qc hn;show EF (zB.mk L) (i:Int)=_;unfold EF;simp only;rw [Xn hn,zt,hn];simp only [cond_true,Qa];rw [zwJ h hL hD hc,zP (by omega)]
   cases KX L c <;> cases UX L c <;> rfl) (by
   show EF (zB.mk L) (L.length:Int)=_;unfold EF;simp only
   rw [Xo];rfl),z7]
  cases (L.any λc=>!(KX L c&&UX L c)) <;> rfl
def vN(L:List za)(n:Tx)(k:Int):Bool:=(zgE (some (zB.mk L)) n k).getD false
theorem zEa(h:Xi l L)(hm:Xu L m)(hL:XE L)(n:Tx)(k:Int):KN (some (zJ.mk L m)) n k=some (vN L n k)/\zhY L n k=some (vN L n k):=by
 obtain ⟨v,v1,v2⟩:=zBN h hm hL n k
 have e:vN L n k=v:=by unfold vN;rw [v2];rfl
 rw [e];exact ⟨v1,v2⟩
def zGU(L:List za)(c:za)(k:Nat):Bool:=match c.Methods[k]? with |some f=>!f.Abstract&&!vN L c.Name (k:Int) |none=>false
def UP(L:List za)(c:za):Bool:=(List.range c.Methods.length).any (zGU L c)
theorem zFO(h:Xi l L)(hm:Xu L m)(hL:XE L){e:Int}{c:za}(hc:c.Methods.length≤10000):zp (λz=>Ee (some (zJ.mk L m),e) c z) 0=some (XC () (cond (UP L c) (some (none,5)) none)):=by
 unfold UP;rw [<-z7]
 exact zqd (λk hk=>by
  have hf:c.Methods[k]?=some c.Methods[k]:=Qe hk;show Ee (some (zJ.mk L m),e) c (k:Int)=_;unfold Ee zGU;rw [Xn hf,zt,hf];simp only [cond_true,Qa];rw [(zEa h hm hL c.Name (k:Int)).1,zP (by omega)]
  cases (c.Methods[k]).Abstract <;> cases vN L c.Name (k:Int) <;> rfl) (by
  show Ee (some (zJ.mk L m),e) c (c.Methods.length:Int)=_;unfold Ee
  rw [Xo];rfl)
theorem zEz(h:Xi l L)(hm:Xu L m)(hL:XE L)(hn:∀c∈l,c.Methods.length≤10000){e:Int}:zp (λz=>Ed l (some (zJ.mk L m),e) z) 0=some (XC () (cond (l.any (UP L)) (some (none,5)) none)):=by
 have h16:=h.few;rw [<-z7]
 exact Zd (λi c hc=>by
  have hi:=(Qb.1 hc).1;show Ed l (some (zJ.mk L m),e) (i:Int)=_;unfold Ed;rw [Xn hc,zt,hc];simp only [cond_true,Qa];rw [zFO h hm hL (hn c (Qc hc))];unfold zm8;rw [zP (by omega)]
  cases UP L c <;> rfl) (by
  show Ed l (some (zJ.mk L m),e) (l.length:Int)=_;unfold Ed
  rw [Xo];rfl)
theorem zy5(h:Xi l L)(hm:Xu L m)(hL:XE L){i:Nat}{c:za}(hi:L[i]?=some c)(hc:c.Methods.length≤10000):zp (λz=>ON (i:Int) (zB.mk L) z) 0=some (XC () (cond (UP L c) (some (none,5)) none)):=by
 unfold UP;rw [<-z7]
 exact zqd (λk hk=>by
  have hf:c.Methods[k]?=some c.Methods[k]:=Qe hk;show ON (i:Int) (zB.mk L) (k:Int)=_;unfold ON zGU;simp only;rw [zt L,hi];simp only [Qa];rw [Xn hf,zt,hf];simp only [cond_true,Qa];rw [(zEa h hm hL c.Name (k:Int)).2,zP (by omega)]
  cases (c.Methods[k]).Abstract <;> cases vN L c.Name (k:Int) <;> rfl) (by
  show ON (i:Int) (zB.mk L) (c.Methods.length:Int)=_;unfold ON;simp only;rw [zt L,hi];simp only [Qa]
  rw [Xo];rfl)
theorem zsc(h:Xi l L)(hm:Xu L m)(hL:XE L)(hn:∀c∈L,c.Methods.length≤10000):∀(r pre:List za),L=pre++r->zp (λz=>DV z.1 z.2) (some (zB.mk L),(pre.length:Int))=some (cond (r.any (UP L)) (.inr (none,5)) (.inl L))
 | [],pre,e=>by
  rw [Qx] at e;rw [zK];show (DV (some (zB.mk L)) (pre.length:Int)).bind _=_;unfold DV;simp only [Um];rw [<-e,Xo];rfl
 |c ::r,pre,e=>by
  have h26:=h.len
  have hx:L[pre.length]?=some c:=by rw [e];simp
  have hlen:L.length=pre.length+(r.length+1):=by rw [e];simp
  rw [zK];show (DV (some (zB.mk L)) (pre.length:Int)).bind _=_;unfold DV;simp only [Um];rw [Xn hx,zy5 h hm hL hx (hn c (Qc hx))];rw [Q3]
  cases UP L c with
  |true=>rfl
  |false =>
   simp only [cond_true,cond_false,XC,Qa,zH,QX];unfold zpL;rw [zP (by omega)];have ih:=zsc h hm hL hn r (pre++[c]) (by rw [e];simp);rw [show (pre++[c]).length=pre.length+1 by simp] at ih;exact ih
theorem zEr(h:Xi l L):L.any (UP L)=l.any (UP L):=by
 have hg:giv.all (λc=>decide (c.Methods.length=0))=true:=by decide +kernel
 have e:giv.any (UP L)=false:=by
  rw [QB];intro c hc;have:=of_decide_eq_true (Ql.1 hg c hc);unfold UP;rw [this];simp
 have e2:(giv++l).any (UP L)=l.any (UP L):=by rw [List.any_append,e,QX]
 rw [<-h.app] at e2;exact e2
theorem zyr(hf:∀c∈l,GB c)(e:XW):∃(r:Int) (m:List (Tx×Int)) (o:Option (List za)),DP l e=some (o.map (λL=>zJ.mk L m),r)/\zn6 l e=some (o.map zB.mk,r)/\(∀L,o=some L->Xi l L/\Xu L m/\r=0):=by
 have hc:∀c∈l,Di c:=λc hc=>(hf c hc).cg;obtain ⟨m,hm,he⟩:=zrD hc;unfold DP zn6;rw [he,zr8 hc];simp only [Qa]
 cases hE:(Z4 l).1 with
 |none =>
  have h0:=zAG hE;refine ⟨(Z4 l).2,m,none,?_,?_,λL h=>by cases h⟩
  .have:((Z4 l).2 == (0:Int))=false:=beq_eq_false_iff_ne.2 h0;rw [this];rfl
  .have:((Z4 l).2 == (0:Int))=false:=beq_eq_false_iff_ne.2 h0;rw [this];rfl
 |some L =>
  obtain ⟨hM,hz⟩:=zvn hE;have hmp:=hm L hE;have hF:=zAA hM hf;have hL:XE L:=zAx hF;have hD:∀c∈L,ZI L c:=λc hc=>zFQ hM hF hc;rw [hz];simp only [QO,beq_self_eq_true,Qt,cond_false];rw [zxE hM hmp hL hD,zxD hM hL hD];simp only [Qa]
  cases h0:(BK L == (0:Int)) with
  |false=>exact ⟨BK L,m,none,rfl,rfl,λL h=>by cases h⟩
  |true =>
   simp only [Qt,cond_false];rw [show IY (some (zJ.mk L m)) e.C e.M=O1 L m e.C e.M from rfl,zpx hM hmp hL];rw [show ze0 (some (zB.mk L)) e.C e.M=O4 L e.C e.M from rfl,zmm hM hL];simp only [Qa];generalize ((Xq L e.C).findSome? (X3 L UB e.M)).getD ([],zM,false)=V
   cases ((((!V.2.2)||(!V.2.1.Static))||(decide (0<(List.length V.2.1.Params:Int))))||(!(V.2.1.Ret == [86]))) with
   |true=>exact ⟨4,m,none,rfl,rfl,λL h=>by cases h⟩
   |false =>
    simp only [cond_false];rw [zEz hM hmp hL (λc hc=>(hf c hc).methods.len)];have hr:=zsc hM hmp hL (λc hc=>(hF c hc).methods.len) L [] rfl;rw [show (([]:List za).length:Int)=0 from rfl] at hr;rw [hr,zEr hM]
    cases l.any (UP L) with
    |true=>exact ⟨5,m,none,rfl,rfl,λL h=>by cases h⟩
    |false=>exact ⟨0,m,some L,rfl,rfl,λL' h=>by cases h;exact ⟨hM,hmp,rfl⟩⟩
theorem zBi(hf:∀c∈l,GB c)(e:XW):Ou l e=some true:=by
 have hc:∀c∈l,Di c:=λc hc=>(hf c hc).cg;obtain ⟨r,m0,o,h1,h2,_⟩:=zyr hf e;obtain ⟨m,hm,he⟩:=zrD hc;unfold Ou;rw [h1,h2,he,zr8 hc];simp only [Qa]
 have e1:((!(r == r))||(!((Option.isNone (o.map λL=>zJ.mk L m0)) == (Option.isNone (o.map zB.mk)))))=false:=by cases o <;> simp
 rw [e1];simp only [cond_false]
 cases hE:(Z4 l).1 with
 |none=>rfl
 |some L =>
  obtain ⟨hM,hz⟩:=zvn hE;have hF:=zAA hM hf;have hL:XE L:=zAx hF;have hD:∀c∈L,ZI L c:=λc hc=>zFQ hM hF hc;simp only [QO,Option.isNone_some,cond_false];rw [zxE hM (hm L hE) hL hD,zxD hM hL hD];simp
end
theorem GF{s:List UInt8}{n:Nat}(h:wS s):wS (s.take n):=by
 have:(s.take n).length≤s.length:=by rw [QH];omega
 exact QD this h
theorem WG{α:Type}{W:α->Prop}{f:α->α}{l:List α}{n:Nat}(hf:∀x,W x->W (f x))(h:wL W l):wL W ((l.take n).map f):=by
 refine ⟨?_,λy hy=>?_⟩
 .have:((l.take n).map f).length≤l.length:=by rw [Ja,QH];omega
  exact QD this h.1
 .obtain ⟨x,hx,rfl⟩:=QQ.1 hy;exact hf x (h.2 x (JG hx))
theorem wcS{n:Nat}{l:List (List UInt8)}(h:wL wS l):wL wS (Gs n l):=WG (λ_ h=>GF h) h
theorem wcM{m:zb}(h:Oy m):Oy (zFS m):=by
 obtain ⟨h1,h2,h3,h4,h5,h6,h7,h8,h9,h10⟩:=h;exact ⟨GF h1,wcS h2,GF h3,h4,h5,h6,h7,WG (λx h=>⟨h.1,h.2.1,GF h.2.2.1,GF h.2.2.2⟩) h8,WG (λx h=>⟨h.1,wcS h.2.1,wcS h.2.2⟩) h9,WG (λx h=>⟨h.1,h.2.1,h.2.2.1,GF h.2.2.2⟩) h10⟩
theorem wcC{c:za}(h:Ui c):Ui (Db c):=by
 obtain ⟨h1,h2,h3,h4,h5,h6⟩:=h;exact ⟨GF h1,GF h2,h3,wcS h4,WG (λx h=>⟨GF h.1,GF h.2.1,h.2.2⟩) h5,WG (λx h=>wcM h) h6⟩
theorem wcA{l:List za}(h:wL Ui l):wL Ui (zFH l):=WG (λx h=>wcC h) h
theorem zHd{a:Int}{n:Nat}(ha:¬a<0)(hn:0<n):∃i:Nat,i<n/\Z7 a (n:Int)=some (i:Int):=by
 have h1:=Int.tmod_nonneg (n:Int) (show 0≤a by omega);have h2:=Int.tmod_lt_of_pos a (show (0:Int)<n by omega);refine ⟨(a.tmod n).toNat,by omega,?_⟩;unfold Z7;rw [if_neg (by omega),Int.toNat_of_nonneg h1]
theorem zGE{α:Type}{l:List α}{i:Nat}(h:i<l.length):idx l (i:Int)=some l[i]:=by
 rw [zt];exact Qe h
theorem zG3(a:Int):∃x i,Z7 a 9=some x/\Z7 (i64.wrap (x+9)) 9=some i:=by
 exact ⟨a.tmod 9,_,by unfold Z7;rw [if_neg (by decide)],by unfold Z7;rw [if_neg (by decide)]⟩
theorem zHq{α:Type}{l:List α}{a:Int}(ha:¬a<0):cond (decide (0<(l.length:Int))) ((Z7 a (l.length:Int)).bind λi=>(idx l i).bind λ_=>some true) (some true)=some true:=by
 by_cases hn:0<l.length
 .obtain ⟨z,hz,e⟩:=zHd (n:=l.length) ha hn;rw [show decide (0<(l.length:Int))=true from decide_eq_true (by omega),cond_true,e,Qa,zGE hz];rfl
 .rw [show decide (0<(l.length:Int))=false from decide_eq_false (by omega)];rfl
theorem zHr{α:Type}{l:List α}:cond (decide (0<(l.length:Int))) ((idx l 0).bind λ_=>some true) (some true)=some true:=by
 by_cases hn:0<l.length
 .rw [show decide (0<(l.length:Int))=true from decide_eq_true (by omega),cond_true,show (0:Int)=((0:Nat):Int) from rfl,zGE hn];rfl
 .rw [show decide (0<(l.length:Int))=false from decide_eq_false (by omega)];rfl
theorem zu8(e:XW):II e=some (XW.mk (e.C.take 12) (e.M.take 12)):=by
 unfold II;rw [show (12:Int)=((12:Nat):Int) from rfl,Kr,Kr];rfl
section
variable {l : List za} {v2 : XW} {v3 v4 v5 : Int} {v6 : List UInt8}
theorem zGw(h:wL Ui l)(e:XW)(z:List UInt8):zE l e z=some true:=by
 unfold zE;rw [I1,Qa,zBi λc hc=>(zsZ h.2 c hc).fc];rfl
theorem zFw(h:wL Ui l):zhK l v2 v3 v4 v5 v6=some true:=by
 have hj:=zGw (wcA h);unfold zhK;rw [zEu,I1,zu8,show (10:Int)=((10:Nat):Int) from rfl,Kr];simp only [Qa,Qt,cond_false,hj,Bool.cond_self];generalize zFH l=L
 generalize hq:((((List.length L:Int) == (0:Int))||(decide (v3<0)))||(decide (v4<0)))=q
 cases q with
 |true=>rfl
 |false =>
 simp only [Qo,decide_eq_false_iff_not,beq_eq_false_iff_ne] at hq;obtain ⟨⟨q1,q2⟩,q3⟩:=hq;obtain ⟨i,hi,e1⟩:=zHd (n:=L.length) q2 (by omega);simp only [cond_false,e1,Qa,zGE hi];generalize L[i]=c;obtain ⟨x8,i8,e4,e5⟩:=zG3 v5;by_cases hn:0<c.Methods.length
 .obtain ⟨k,hk,e2⟩:=zHd (n:=c.Methods.length) q3 hn;rw [show decide (0<(c.Methods.length:Int))=true from decide_eq_true (by omega)];simp only [cond_true,e2,Qa,zGE hk,e4,e5,zHq q3,zHr,Bool.cond_self]
 .rw [show decide (0<(c.Methods.length:Int))=false from decide_eq_false (by omega)];simp only [cond_false,Qa,e4,e5,zHq q3,zHr,Bool.cond_self]
end
theorem zrs(l:List za)(v2:XW)(v3 v4 v5:Int)(v6:List UInt8)(h:wL Ui l)(_:zvW v2)(_:wI .i64 v3)(_:wI .i64 v4)(_:wI .i64 v5)(hs:wS v6):
  E9 prog 7 [.isl 6 (List.map zf l),.agg (Uj v2),iA v3,iA v4,iA v5,sA v6]:=
 zoR l v2 v3 v4 v5 v6 (zFw h) (λv8 e=>by rw [I1] at e;cases e;exact wcA h) (λv8 e c hc=>by
  rw [I1] at e;cases e;obtain ⟨c0,_,rfl⟩:=QQ.1 hc;show (Gs _ c0.Impl).length≤_;unfold Gs;rw [Ja,QH]
  omega) (λv10 e=>by
   rw [show (10:Int)=((10:Nat):Int) from rfl,Kr] at e;cases e
   exact GF hs) λcs e hcs=>⟨_,I1 cs,zBi (λc hc=>(zsZ hcs.2 c hc).fc) e⟩

end
end Go.Proofs.YthmnlfenkhmmhaaGreat
