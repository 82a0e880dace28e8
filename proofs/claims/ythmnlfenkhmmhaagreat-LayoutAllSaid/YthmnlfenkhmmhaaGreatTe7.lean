/- LayoutAll. -/
import Derived.Test.YthmnlfenkhmmhaaGreatTe6
namespace Go.Proofs.YthmnlfenkhmmhaaGreat
noncomputable section
open List (length map)
open IntKind (i64)
open Go.Proofs.Tryz
set_option linter.unusedSimpArgs false
set_option linter.unusedVariables false
def ShL(l:List Tx):Prop:=l.length≤100/\∀t∈l,t.length≤25
theorem ShL.add{l:List Tx}{t:Tx}(h:l.length≤99/\∀t∈l,t.length≤25)(ht:t.length≤25):ShL (l++[t]):=
 ⟨by simp;omega,λx hx=>by
  rcases Qm.1 hx with h1 |h1
  .exact h.2 x h1
  .rw [Qz.1 h1];exact ht⟩
theorem ShL.drop{l:List Tx}(h:ShL l):ShL l.dropLast:=⟨by rw [List.length_dropLast];have:=h.1;omega,λx hx=>h.2 x (List.dropLast_subset l hx)⟩
def Xg(e:Tx)(s:List Tx)(b:Bool):Tx×List Tx×Bool:=match s.getLast? with |some t=>(t,s.dropLast,b) |none=>(e,s,true)
theorem WR(e:Tx)(s:List Tx)(t:Tx)(b:Bool):Xg e (s++[t]) b=(t,s,b):=by simp [Xg]
theorem W1(s:List Tx):s=[]∨∃r t,s=r++[t]:=by
 rcases List.eq_nil_or_concat s with h |⟨r,t,h⟩
 .exact .inl h
 .exact .inr ⟨r,t,by simpa using h⟩
theorem ZK{e:Tx}{s:List Tx}{b:Bool}(h:ShL s)(he:e.length≤25):(Xg e s b).1.length≤25/\ShL (Xg e s b).2.1:=by
 rcases W1 s with rfl |⟨r,t,rfl⟩
 .exact ⟨he,h⟩
 .rw [WR];refine ⟨h.2 t (by simp),⟨?_,λx hx=>h.2 x (by simp [hx])⟩⟩;have:=h.1;simp at this;show r.length≤100;omega
theorem Gc{e:Tx}{s:List Tx}{b:Bool}(h:b=true):(Xg e s b).2.2=true:=by
 unfold Xg;split <;> simp [h]
section
variable {l L : List za} {m : List (Tx × Int)} {c : Tx} {mt : zb} {loc stk : List Tx} {b : Bool}
theorem G7(hs:stk.length≤1000):KD L m c mt loc stk b=some (Xg [84] stk b):=by
 unfold KD
 rcases W1 stk with rfl |⟨r,t,rfl⟩
 .rfl
 .have hl:((r++[t]).length:Int)=(r.length:Int)+1:=by simp
  have h0:(((r++[t]).length:Int) == 0)=false:=RB.2 (by omega)
  have hw:i64.wrap (((r++[t]).length:Int)-1)=(r.length:Int):=by
   rw [hl,ZE (by omega) (by simp at hs;omega)];omega
  rw [h0,hw,WR,zo]
  have h1:(r++[t])[r.length]?=some t:=by simp
  have h2:XK (r++[t]) 0 (r.length:Int)=some r:=by
   unfold XK;rw [if_pos ⟨by omega,by omega,by omega⟩];simp
  rw [h1,h2];rfl
theorem ZX{t:Tx}(hs:stk.length≤1000):zH L m c mt loc stk b t=some (stk++[t]):=by
 unfold zH Xx;rw [if_pos (by simp;omega)];rfl
theorem zvF{x:List Tx}(hs:x.length≤1000):Ks x=some x:=by
 unfold Ks Xx;rw [if_pos (by simp;omega)];rfl
def Xp(L:List za)(e:Tx):List Tx->List Tx->Bool->List Tx×Bool
 | [],s,b=>(s,b)
 |w ::r,s,b=>Xp L e r (Xg e s b).2.1 ((Xg e s b).2.2||!X9 L (Xg e s b).1 w)
theorem Uc{e:Tx}(he:e.length≤25):∀(ts s:List Tx) (b:Bool),ShL s->ShL (Xp L e ts s b).1:=by
 intro ts
 induction ts with
 |nil=>intro s b h;exact h
 |cons w r ih=>intro s b h;exact ih _ _ (ZK h he).2
theorem ZG{e:Tx}:∀(ts s:List Tx) (b:Bool),b=true->(Xp L e ts s b).2=true:=by
 intro ts
 induction ts with
 |nil=>intro s b h;exact h
 |cons w r ih=>intro s b h;exact ih _ _ (by rw [Gc h];rfl)
theorem zIa(h:Xe l L)(hm:Xu L m){ts:List Tx}(ht:ShL ts):∀(k:Nat),k≤ts.length->∀(s:List Tx) (b:Bool),ShL s ->
  zk (λz=>H8 L m c mt loc ts z.1 z.2.1 z.2.2) (s,b,(k:Int)-1)=some (.inl (Xp L [84] (ts.take k).reverse s b)):=by
 intro k
 induction k with
 |zero =>
  intro _ s b hs;rw [zG];show (H8 L m c mt loc ts s b (((0:Nat):Int)-1)).bind _=_;unfold H8;rw [RE (by omega)];rfl
 |succ k ih =>
  intro hk s b hs;rw [zG];show (H8 L m c mt loc ts s b (((k+1:Nat):Int)-1)).bind _=_
  have e1:(((k+1:Nat):Int)-1)=(k:Int):=by omega
  have hlt:k<ts.length:=by omega
  obtain ⟨h1,h2⟩:=ZK (b:=b) hs (e:=[84]) (by decide);have hw:i64.wrap ((k:Int)-1)=(k:Int)-1:=ZE (by omega) (by have:=ht.1;omega)
  have step:H8 L m c mt loc ts s b (((k+1:Nat):Int)-1)=some (.inl ((Xg [84] s b).2.1,(Xg [84] s b).2.2||!X9 L (Xg [84] s b).1 ts[k],(k:Int)-1)):=by
   unfold H8;rw [e1,RD (by omega),zo,Qe hlt,G7 (by have:=hs.1;omega)];simp only [RT,Qa];rw [zsU h hm h1 (ht.2 _ (Qi hlt)),hw];rfl
  rw [step];simp only [Qa,JT];rw [show zk (λz=>H8 L m c mt loc ts z.1 z.2.1 z.2.2) ((Xg [84] s b).2.1,(Xg [84] s b).2.2||!X9 L (Xg [84] s b).1 ts[k],(k:Int)-1)=_ from ih (by omega) _ _ h2]
  have e2:(ts.take (k+1)).reverse=ts[k]::(ts.take k).reverse:=by
   rw [JU,Qe hlt];simp
  rw [e2];rfl
theorem Ub(h:Xe l L)(hm:Xu L m){ts:List Tx}(ht:ShL ts)(hs:ShL stk):zN L m c mt loc stk b ts=some (Xp L [84] ts.reverse stk b):=by
 unfold zN;have hw:i64.wrap ((ts.length:Int)-1)=(ts.length:Int)-1:=ZE (by omega) (by have:=ht.1;omega);rw [hw,show zk (λz=>H8 L m c mt loc ts z.1 z.2.1 z.2.2) (stk,b,(ts.length:Int)-1)=_ from zIa h hm ht ts.length (Qg _) stk b hs,J4];rfl
end
theorem sh1{t:Tx}(h:t.length≤25):ShL [t]:=⟨by simp,λx hx=>by rw [Qz.1 hx];exact h⟩
theorem sh2{t u:Tx}(h:t.length≤25)(k:u.length≤25):ShL [t,u]:=⟨by simp,λx hx=>by
 rcases Qu.1 hx with rfl |hx
 .exact h
 .rw [Qz.1 hx];exact k⟩
theorem sh3{t u v:Tx}(h:t.length≤25)(k:u.length≤25)(j:v.length≤25):ShL [t,u,v]:=⟨by simp,λx hx=>by
 rcases Qu.1 hx with rfl |hx
 .exact h
 .exact (sh2 k j).2 x hx⟩
theorem ShL.len{l:List Tx}(h:ShL l):l.length≤1000:=by have:=h.1;omega
theorem Wx{t:Tx}(h:t.length≤25):Len t:=by
 show t.length≤9223372036854775807;omega
section
variable {l L : List za} {m : List (Tx × Int)} {c : Tx} {mt : zb} {loc stk : List Tx} {b : Bool}
def XB(e:Tx)(s:List Tx)(b:Bool):Tx×List Tx×Bool:=
 ((Xg e s b).1,(Xg e s b).2.1,(Xg e s b).2.2||!(((Xg e s b).1 == [78])||ZD (Xg e s b).1))
theorem zwy{e:Tx}{s:List Tx}{b:Bool}(h:ShL s)(he:e.length≤25):(XB e s b).1.length≤25/\ShL (XB e s b).2.1:=ZK h he
theorem B5(hs:ShL stk):D5 L m c mt loc stk b=some (XB [84] stk b):=by
 unfold D5 XB;obtain ⟨h1,h2⟩:=ZK (b:=b) hs (e:=[84]) (by decide);rw [G7 hs.len];simp only [Qa];rw [znu (Wx h1)];cases (Xg [84] stk b).1 == [78] <;> rfl
def XS(e:Tx)(s:List Tx)(b:Bool):Tx×List Tx×Bool:=
 (cond ((Xg e s b).1 == [78]) (Xg e s b).1 (XH (Xg e s b).1).1,(Xg e s b).2.1,(Xg e s b).2.2||!(((Xg e s b).1 == [78])||((XH (Xg e s b).1).2&&!((XH (Xg e s b).1).1 == [73]))))
theorem zCw{t:Tx}(h:t.length≤25):(XH t).1.length≤25:=by
 unfold XH;cases Xq t&&brk t
 .exact Qo _
 .show (t.drop 1).length≤25;simp;omega
theorem zyn{e:Tx}{s:List Tx}{b:Bool}(h:ShL s)(he:e.length≤25):(XS e s b).1.length≤25/\ShL (XS e s b).2.1:=by
 obtain ⟨h1,h2⟩:=ZK (b:=b) h he;refine ⟨?_,h2⟩;unfold XS;cases (Xg e s b).1 == [78]
 .exact zCw h1
 .exact h1
theorem zzo(hs:ShL stk):ze2 L m c mt loc stk b=some (XS [84] stk b):=by
 unfold ze2 XS;obtain ⟨h1,h2⟩:=ZK (b:=b) hs (e:=[84]) (by decide);rw [G7 hs.len];simp only [Qa];rw [DQ (Wx h1)];cases (Xg [84] stk b).1 == [78] <;> rfl
theorem KI(e f:Tx)(s:List Tx)(b:Bool):(Xg e s b).2=(Xg f s b).2:=by
 unfold Xg;split <;> rfl
theorem GJ(e f:Tx)(s:List Tx)(b:Bool)(h:(Xg e s b).2.2=false):(Xg e s b).1=(Xg f s b).1:=by
 unfold Xg at h ⊢;split
 .rfl
 .rename_i hq;rw [hq] at h;cases h
theorem I5{a p q:Bool}(h:a=false->p=q):(a||p)=(a||q):=by
 cases a
 .rw [h rfl]
 .rfl
theorem ZZ(e f:Tx):∀(ts s:List Tx) (b:Bool),Xp L e ts s b=Xp L f ts s b:=by
 intro ts
 induction ts with
 |nil=>intro s b;rfl
 |cons w r ih =>
  intro s b;show Xp L e r (Xg e s b).2.1 ((Xg e s b).2.2||!X9 L (Xg e s b).1 w)=Xp L f r (Xg f s b).2.1 ((Xg f s b).2.2||!X9 L (Xg f s b).1 w);rw [ih,<-KI e f s b,I5 (λh=>by rw [GJ e f s b h])]
theorem zGH(e f:Tx)(s:List Tx)(b:Bool):(XB e s b).2=(XB f s b).2:=by
 unfold XB;rw [<-KI e f s b,I5 (λh=>by rw [GJ e f s b h])]
theorem zBw(e f:Tx)(s:List Tx)(b:Bool)(h:(XB e s b).2.2=false):(XB e s b).1=(XB f s b).1:=
 GJ e f s b (by unfold XB at h;simp only [Qn] at h;exact h.1)
theorem zGf(e f:Tx)(s:List Tx)(b:Bool):(XS e s b).2=(XS f s b).2:=by
 unfold XS;rw [<-KI e f s b,I5 (λh=>by rw [GJ e f s b h])]
theorem zAL(e f:Tx)(s:List Tx)(b:Bool)(h:(XS e s b).2.2=false):(XS e s b).1=(XS f s b).1:=by
 have h1:(Xg e s b).2.2=false:=by unfold XS at h;simp only [Qn] at h;exact h.1
 unfold XS;rw [GJ e f s b h1]
end
section
variable {l L : List za} {c : Tx} {mt : zb} {loc stk : List Tx} {b : Bool}
theorem GD(hs:stk.length≤1000):Kg L c mt loc stk b=some (Xg [78] stk b):=by
 unfold Kg
 rcases W1 stk with rfl |⟨r,t,rfl⟩
 .rfl
 .have hl:((r++[t]).length:Int)=(r.length:Int)+1:=by simp
  have h0:(((r++[t]).length:Int) == 0)=false:=RB.2 (by omega)
  have hw:i64.wrap (((r++[t]).length:Int)-1)=(r.length:Int):=by
   rw [hl,ZE (by omega) (by simp at hs;omega)];omega
  rw [h0,hw,WR,zo]
  have h1:(r++[t])[r.length]?=some t:=by simp
  have h2:XK (r++[t]) 0 (r.length:Int)=some r:=by
   unfold XK;rw [if_pos ⟨by omega,by omega,by omega⟩];simp
  rw [h1,h2];rfl
theorem zFK(h:Xe l L){ts:List Tx}(ht:ShL ts):∀(k:Nat),k≤ts.length->∀(s:List Tx) (b:Bool),ShL s ->
  zk (λz=>H4 L c mt loc ts z.1 z.2.1 z.2.2) (s,b,(k:Int)-1)=some (.inl (Xp L [78] (ts.take k).reverse s b)):=by
 intro k
 induction k with
 |zero =>
  intro _ s b hs;rw [zG];show (H4 L c mt loc ts s b (((0:Nat):Int)-1)).bind _=_;unfold H4;rw [RE (by omega)];rfl
 |succ k ih =>
  intro hk s b hs;rw [zG];show (H4 L c mt loc ts s b (((k+1:Nat):Int)-1)).bind _=_
  have e1:(((k+1:Nat):Int)-1)=(k:Int):=by omega
  have hlt:k<ts.length:=by omega
  obtain ⟨h1,h2⟩:=ZK (b:=b) hs (e:=[78]) (by decide);have hw:i64.wrap ((k:Int)-1)=(k:Int)-1:=ZE (by omega) (by have:=ht.1;omega)
  have step:H4 L c mt loc ts s b (((k+1:Nat):Int)-1)=some (.inl ((Xg [78] s b).2.1,(Xg [78] s b).2.2||!X9 L (Xg [78] s b).1 ts[k],(k:Int)-1)):=by
   unfold H4;rw [e1,RD (by omega),zo,Qe hlt,GD hs.len];simp only [RT,Qa];rw [ON h h1 (ht.2 _ (Qi hlt)),hw];rfl
  rw [step];simp only [Qa,JT];rw [show zk (λz=>H4 L c mt loc ts z.1 z.2.1 z.2.2) ((Xg [78] s b).2.1,(Xg [78] s b).2.2||!X9 L (Xg [78] s b).1 ts[k],(k:Int)-1)=_ from ih (by omega) _ _ h2]
  have e2:(ts.take (k+1)).reverse=ts[k]::(ts.take k).reverse:=by
   rw [JU,Qe hlt];simp
  rw [e2];rfl
theorem Ul(h:Xe l L){ts:List Tx}(ht:ShL ts)(hs:ShL stk):z6 L c mt loc stk b ts=some (Xp L [78] ts.reverse stk b):=by
 unfold z6;have hw:i64.wrap ((ts.length:Int)-1)=(ts.length:Int)-1:=ZE (by omega) (by have:=ht.1;omega);rw [hw,show zk (λz=>H4 L c mt loc ts z.1 z.2.1 z.2.2) (stk,b,(ts.length:Int)-1)=_ from zFK h ht ts.length (Qg _) stk b hs,J4];rfl
def Zy(most:Int)(s:List Tx)(b:Bool)(t:Tx):List Tx×Bool:=(s++[t],b||!decide (((s++[t]).length:Int)≤most))
theorem ZW{t:Tx}(hs:stk.length≤1000):zX L c mt loc stk b t=some (Zy mt.Stack stk b t):=by
 unfold zX Zy Xx;rw [if_pos (by simp;omega)];simp only [Jl,Qa];rw [if_pos (by simp;omega)];rfl
def U5(s:List Tx)(b:Bool):Tx×List Tx×Bool:=((Xg [78] s b).1,(Xg [78] s b).2.1,(Xg [78] s b).2.2||!(!((Xg [78] s b).1 == [73])))
theorem WN(hs:ShL stk):Hm L c mt loc stk b=some (U5 stk b):=by
 unfold Hm;rw [GD hs.len];rfl
theorem zCs{p q:List Tx}(hp:p.length≤1000)(hq:q.length≤1000):DX (GG.mk p q)=some (p,q):=by
 unfold DX Xx;simp only;rw [if_pos (by simp;omega),if_pos (by simp;omega)];rfl
end
def Zs(most:Int)(p r:List Tx×List Tx×Bool):Prop:=
 (p.2.2||!decide ((p.2.1.length:Int)≤most))=r.2.2/\(r.2.2=false->p.1=r.1/\p.2.1=r.2.1)
section
variable {L : List za} {most : Int} {loc s : List Tx} {b : Bool}
theorem UB(t:Tx):Zs most (loc,s++[t],b) (loc,(Zy most s b t).1,(Zy most s b t).2):=⟨rfl,λ_=>⟨rfl,rfl⟩⟩
theorem zxW(t u:Tx):Zs most (loc,s++[t]++[u],b) (loc,(Zy most (Zy most s b t).1 (Zy most s b t).2 u).1,(Zy most (Zy most s b t).1 (Zy most s b t).2 u).2):=by
 refine ⟨?_,λ_=>⟨rfl,rfl⟩⟩;show (b||!decide (((s++[t]++[u]).length:Int)≤most))=((b||!decide (((s++[t]).length:Int)≤most))||!decide (((s++[t]++[u]).length:Int)≤most));by_cases h:((s++[t]++[u]).length:Int)≤most
 .have h2:((s++[t]).length:Int)≤most:=by simp at h ⊢;omega
  rw [RD h,RD h2];simp
 .rw [RE h];simp
theorem KP(h:b=false->(s.length:Int)≤most):Zs most (loc,s,b) (loc,s,b):=by
 refine ⟨?_,λ_=>⟨rfl,rfl⟩⟩;show (b||!decide ((s.length:Int)≤most))=b
 cases b with
 |true=>rfl
 |false=>rw [RD (h rfl)];rfl
theorem Kv{p r:List Tx×List Tx×Bool}(hp:p.2.2=true)(hr:r.2.2=true):Zs most p r:=
 ⟨by rw [hp,hr];rfl,λh=>by rw [hr] at h;cases h⟩
theorem I4(e:Tx)(s:List Tx)(b:Bool):(Xg e s b).2.1.length≤s.length:=by
 rcases W1 s with rfl |⟨r,t,rfl⟩
 .exact Qg _
 .rw [WR];simp
theorem DE(e:Tx):∀(ts s:List Tx) (b:Bool),(Xp L e ts s b).1.length≤s.length:=by
 intro ts
 induction ts with
 |nil=>intro s b;exact Qg _
 |cons w r ih=>intro s b;exact QL (ih _ _) (I4 e s b)
theorem zEc(e w w':Tx)(s:List Tx)(b:Bool):Xp L e [w,w'] s b=Xp L e [w'] (Xp L e [w] s b).1 (Xp L e [w] s b).2:=rfl
end
def onS(t:Tx):Prop:=t=[78]∨Xq t=true
theorem zry{s:List Tx}{b:Bool}(h:∀t∈s,onS t):(U5 s b).2=(XB [84] s b).2/\((U5 s b).2.2=false->(U5 s b).1=(XB [84] s b).1):=by
 have key:(U5 s b).2=(XB [78] s b).2:=by
  unfold U5 XB
  rcases W1 s with rfl |⟨r,t,rfl⟩
  .rfl
  .rw [WR];have ht:=h t (by simp);show (r,b||!(!(t == [73])))=(r,b||!((t == [78])||ZD t))
   rcases ht with rfl |ht
   .rfl
   .unfold ZD;rw [ht]
    have:(t == [78])=false:=RB.2 λe=>by rw [e,zHG] at ht;cases ht
    rw [this];cases t == [73] <;> rfl
 refine ⟨key.trans (zGH [78] [84] s b),λhf=>?_⟩
 have:(U5 s b).2.2=(XB [84] s b).2.2:=by rw [key,zGH [78] [84] s b]
 rw [this] at hf;exact (zBw [84] [78] s b hf).symm
def Dm(t:Tx):Prop:=t.length≤25/\onS t
theorem Ux:Dm [73]:=⟨by decide,.inr (by decide +kernel)⟩
theorem zEX:Dm [78]:=⟨by decide,.inl rfl⟩
theorem IO{t:Tx}(h:Xq t=true)(hl:t.length≤25):Dm t:=⟨hl,.inr h⟩
def X5(loc stk:List Tx)(b:Bool)(p:List Tx×List Tx×Bool):Prop:=
 (b=true->p.2.2=true) /\
 (p.1.length=loc.length/\p.2.1.length≤stk.length+2/\(∀t∈p.1,t.length≤25)/\∀t∈p.2.1,t.length≤25) /\
 (p.2.2=false->(∀t∈p.2.1,t∈stk∨Dm t)/\∀t∈p.1,t∈loc∨t∈stk)
theorem Gb(e:Tx)(s:List Tx)(b:Bool):(Xg e s b).2.1<+:s:=by
 rcases W1 s with rfl |⟨r,t,rfl⟩
 .exact QT _
 .rw [WR];exact List.prefix_append _ _
theorem DB{e:Tx}{s:List Tx}{b:Bool}(h:(Xg e s b).2.2=false):(Xg e s b).1∈s:=by
 rcases W1 s with rfl |⟨r,t,rfl⟩
 .cases h
 .rw [WR];simp
theorem WQ(e:Tx)(s:List Tx)(b:Bool):(XB e s b).2.1<+:s:=Gb e s b
theorem zzm(e:Tx)(s:List Tx)(b:Bool):(XS e s b).2.1<+:s:=Gb e s b
theorem Oq{e:Tx}{s:List Tx}{b:Bool}(h:b=true):(XB e s b).2.2=true:=by unfold XB;rw [Gc h];rfl
theorem zzl{e:Tx}{s:List Tx}{b:Bool}(h:b=true):(XS e s b).2.2=true:=by unfold XS;rw [Gc h];rfl
theorem UD(L:List za)(e:Tx):∀(ts s:List Tx) (b:Bool),(Xp L e ts s b).1<+:s:=by
 intro ts
 induction ts with
 |nil=>intro s b;exact QT _
 |cons w r ih=>intro s b;exact (ih _ _).trans (Gb e s b)
section
variable {L : List za} {loc stk s : List Tx} {b0 b : Bool}
theorem KQ(hb0:b0=true->b=true)(hl:ShL loc)(hs:ShL stk)(h:s<+:stk):X5 loc stk b0 (loc,s,b):=
 ⟨hb0,⟨rfl,by have:=h.length_le;show s.length≤_;omega,hl.2,λt ht=>hs.2 t (h.subset ht)⟩,λ_=>⟨λt ht=>.inl (h.subset ht),λt ht=>.inl ht⟩⟩
theorem Um{u:Tx}(hb0:b0=true->b=true)(hl:ShL loc)(hs:ShL stk)(h:s<+:stk)(h1:u.length≤25)(hu:b=false->u∈stk∨Dm u):X5 loc stk b0 (loc,s++[u],b):=
 ⟨hb0,⟨rfl,by have:=h.length_le;show (s++[u]).length≤_;simp;omega,hl.2,λt ht=>by
  rcases Qm.1 ht with k |k
  .exact hs.2 t (h.subset k)
  .rw [Qz.1 k];exact h1⟩,λhb=>⟨λt ht=>by
  rcases Qm.1 ht with k |k
  .exact .inl (h.subset k)
  .rw [Qz.1 k];exact hu hb,λt ht=>.inl ht⟩⟩
theorem zxg{u v:Tx}(hb0:b0=true->b=true)(hl:ShL loc)(hs:ShL stk)(h:s<+:stk)(h1:u.length≤25)(hu:b=false->u∈stk∨Dm u)(h2:v.length≤25)(hv:b=false->v∈stk∨Dm v):X5 loc stk b0 (loc,s++[u]++[v],b):=
 ⟨hb0,⟨rfl,by have:=h.length_le;show (s++[u]++[v]).length≤_;simp;omega,hl.2,λt ht=>by
  rcases Qm.1 ht with k |k
  .rcases Qm.1 k with k |k
   .exact hs.2 t (h.subset k)
   .rw [Qz.1 k];exact h1
  .rw [Qz.1 k];exact h2⟩,λhb=>⟨λt ht=>by
  rcases Qm.1 ht with k |k
  .rcases Qm.1 k with k |k
   .exact .inl (h.subset k)
   .rw [Qz.1 k];exact hu hb
  .rw [Qz.1 k];exact hv hb,λt ht=>.inl ht⟩⟩
theorem zvb{k:Nat}{u:Tx}(hb0:b0=true->b=true)(hl:ShL loc)(hs:ShL stk)(h:s<+:stk)(h1:u.length≤25)(hu:b=false->u∈stk):X5 loc stk b0 (loc.set k u,s,b):=
 ⟨hb0,⟨Je ..,by have:=h.length_le;show s.length≤_;omega,λt ht=>by
  rcases Yj ht with k |rfl
  .exact hl.2 t k
  .exact h1,λt ht=>hs.2 t (h.subset ht)⟩,λhb=>⟨λt ht=>.inl (h.subset ht),λt ht=>by
  rcases Yj ht with k |rfl
  .exact .inl k
  .exact .inr (hu hb)⟩⟩
end
theorem bt{n a b:Int}(h:a≤n/\n≤b):UE n a b=true:=by
 unfold UE;rw [RD h.1,RD h.2];rfl
theorem bf{n a b:Int}(h:¬(a≤n/\n≤b)):UE n a b=false:=by
 unfold UE;rw [JB,decide_eq_false_iff_not,decide_eq_false_iff_not];omega
theorem ct{n a b:Int}(h:a≤n/\n≤b):(decide (a≤n)&&decide (n≤b))=true:=bt h
theorem cf{n a b:Int}(h:¬(a≤n/\n≤b)):(decide (a≤n)&&decide (n≤b))=false:=bf h
theorem qt{n k:Int}(h:n=k):(n == k)=true:=by rw [h];exact beq_self_eq_true k
theorem qf{n k:Int}(h:n≠k):(n == k)=false:=RB.2 h
structure XP(l L:List za)(m:List (Tx×Int))(mt:zb)(loc stk:List Tx)(b:Bool):Prop where
 made:Xe l L
 map:Xu L m
 lens:XL L
 shL:ShL loc
 shS:ShL stk
 on:∀t∈stk,onS t
 room:(stk.length:Int)≤mt.Stack
 onL:∀t∈loc,t=[84]∨onS t
section
variable {l L : List za} {m : List (Tx × Int)} {c : Tx} {mt : zb} {loc stk : List Tx} {b : Bool} {x : zs}
theorem zBH(h:XP l L m mt loc stk b)(ho:8≤x.Op/\x.Op≤19):
  ∃p r,zj L m c mt loc stk b x=some p/\zn L c mt loc stk b x=some r/\Zs mt.Stack p r/\X5 loc stk b p:=by
 have h73:([73]:Tx).length≤25:=by decide
 by_cases hn:x.Op=13
 .refine ⟨(loc,(Xp L [84] [[73]] stk b).1++[[73]],(Xp L [84] [[73]] stk b).2),_,?_,?_,UB _,Um (ZG _ _ _) h.shL h.shS (UD _ _ _ _ _) (by decide) λ_=>.inr Ux⟩
  .unfold zj;rw [bf (by omega),qt hn,Ub h.made h.map (sh1 h73) h.shS];simp only [RF,RT,Qa,QA];rw [ZX (Uc (by decide) _ _ _ h.shS).len];rfl
  .unfold zn;rw [ct ho,Ul h.made (sh1 h73) h.shS,qt hn];simp only [RF,RT,Qa,QA,Qr];unfold zes;rw [ZW (Uc (by decide) _ _ _ h.shS).len,ZZ [78] [84]];rfl
 .refine ⟨(loc,(Xp L [84] [[73],[73]] stk b).1++[[73]],(Xp L [84] [[73],[73]] stk b).2),_,?_,?_,UB _,Um (ZG _ _ _) h.shL h.shS (UD _ _ _ _ _) (by decide) λ_=>.inr Ux⟩
  .unfold zj;rw [bf (by omega),qf hn,bt ho,Ub h.made h.map (sh2 h73 h73) h.shS];simp only [RF,RT,Qa];rw [show ([[73],[73]]:List Tx).reverse=[[73],[73]] from rfl,ZX (Uc (by decide) _ _ _ h.shS).len];rfl
  .unfold zn;have hs:=Uc (L:=L) (e:=[78]) (by decide) [[73]] stk b h.shS;rw [ct ho,Ul h.made (sh1 h73) h.shS,qf hn];simp only [RF,RT,Qa,QA,QH];rw [Ul h.made (sh1 h73) hs];simp only [Qa,QA];unfold zes;rw [ZW (Uc (by decide) _ _ _ hs).len];rw [<-zEc,ZZ [78] [84]];rfl
theorem instr_plain(h1:¬(8≤x.Op/\x.Op≤45))(h2:¬(49≤x.Op/\x.Op≤55)):zn L c mt loc stk b x=(zZ L c mt loc stk b x).bind λv=>some (v.1,v.2.1,v.2.2):=by
 unfold zn;rw [cf (by omega),cf (by omega),qf (show x.Op≠20 by omega),cf (by omega),cf (by omega),cf (by omega)];rfl
theorem WT(h:1≤x.Op/\x.Op≤7):zj L m c mt loc stk b x=(Hq L m c mt loc stk b x).bind λv=>some (v.1,v.2.1,v.2.2):=by
 unfold zj;rw [bt h];rfl
theorem I9(h:56≤x.Op/\x.Op≤61):zj L m c mt loc stk b x=(Wb L m c mt loc stk b x).bind λv=>some (loc,v.1,v.2):=by
 unfold zj;rw [bf (by omega),qf (by omega),bf (by omega),qf (by omega),bf (by omega),bf (by omega),bf (by omega),bf (by omega),qf (by omega),bf (by omega),bf (by omega),bf (by omega),bf (by omega)];rfl
theorem zBI(h:XP l L m mt loc stk b)(ho:x.Op=1∨x.Op=2):
  ∃p r,zj L m c mt loc stk b x=some p/\zn L c mt loc stk b x=some r/\Zs mt.Stack p r/\X5 loc stk b p:=by
 rcases ho with ho |ho
 .refine ⟨(loc,stk++[[73]],b),_,?_,?_,UB _,Um id h.shL h.shS (QT _) (by decide) λ_=>.inr Ux⟩
  .rw [WT (by omega)];unfold Hq;rw [qt ho,ZX h.shS.len];rfl
  .rw [instr_plain (by omega) (by omega)];unfold zZ;rw [qt ho,ZW h.shS.len];rfl
 .refine ⟨(loc,stk++[[78]],b),_,?_,?_,UB _,Um id h.shL h.shS (QT _) (by decide) λ_=>.inr zEX⟩
  .rw [WT (by omega)];unfold Hq;rw [qf (show x.Op≠1 by omega),qt ho];simp only [RF,RT];rw [ZX h.shS.len];rfl
  .rw [instr_plain (by omega) (by omega)];unfold zZ;rw [qf (show x.Op≠1 by omega),qt ho];simp only [RF,RT];rw [ZW h.shS.len];rfl
theorem zF0(h:XP l L m mt loc stk b)(ho:x.Op=5):
  ∃p r,zj L m c mt loc stk b x=some p/\zn L c mt loc stk b x=some r/\Zs mt.Stack p r/\X5 loc stk b p:=by
 obtain ⟨g1,g2⟩:=ZK (b:=b) h.shS (e:=[84]) (by decide);obtain ⟨k1,k2⟩:=ZK (b:=b) h.shS (e:=[78]) (by decide)
 .refine ⟨(loc,(Xg [84] stk b).2.1,(Xg [84] stk b).2.2),(loc,(Xg [84] stk b).2.1,(Xg [84] stk b).2.2),?_,?_,KP λ_=>?_,KQ Gc h.shL h.shS (Gb _ _ _)⟩
  .rw [WT (by omega)];unfold Hq;rw [qf (show x.Op≠1 by omega),qf (show x.Op≠2 by omega),qf (show x.Op≠3 by omega),qf (show x.Op≠4 by omega),qt ho];simp only [RF,RT];rw [G7 h.shS.len];rfl
  .rw [instr_plain (by omega) (by omega)];unfold zZ;rw [qf (show x.Op≠1 by omega),qf (show x.Op≠2 by omega),qf (show x.Op≠3 by omega),qf (show x.Op≠4 by omega),qt ho];simp only [RF,RT];rw [GD h.shS.len,KI [84] [78]];rfl
  .have:=I4 [84] stk b;have:=h.room;omega
end
section
variable {l L : List za} {m : List (Tx × Int)} {c : Tx} {mt : zb} {loc stk : List Tx} {b : Bool} {x : zs}
theorem I7{most:Int}{s:List Tx}{b:Bool}{t:Tx}(h:b=true):(Zy most s b t).2=true:=by
 unfold Zy;rw [h];rfl
theorem zFX(h:XP l L m mt loc stk b)(ho:x.Op=6):
  ∃p r,zj L m c mt loc stk b x=some p/\zn L c mt loc stk b x=some r/\Zs mt.Stack p r/\X5 loc stk b p:=by
 obtain ⟨g1,g2⟩:=ZK (b:=b) h.shS (e:=[84]) (by decide);obtain ⟨k1,k2⟩:=ZK (b:=b) h.shS (e:=[78]) (by decide)
 refine ⟨(loc,(Xg [84] stk b).2.1++[(Xg [84] stk b).1]++[(Xg [84] stk b).1],(Xg [84] stk b).2.2),
  (loc,(Zy mt.Stack (Zy mt.Stack (Xg [78] stk b).2.1 (Xg [78] stk b).2.2 (Xg [78] stk b).1).1 (Zy mt.Stack (Xg [78] stk b).2.1 (Xg [78] stk b).2.2 (Xg [78] stk b).1).2 (Xg [78] stk b).1).1,
   (Zy mt.Stack (Zy mt.Stack (Xg [78] stk b).2.1 (Xg [78] stk b).2.2 (Xg [78] stk b).1).1 (Zy mt.Stack (Xg [78] stk b).2.1 (Xg [78] stk b).2.2 (Xg [78] stk b).1).2 (Xg [78] stk b).1).2),?_,?_,?_,zxg Gc h.shL h.shS (Gb _ _ _) g1 (λhb=>.inl (DB hb)) g1 λhb=>.inl (DB hb)⟩
 .rw [WT (by omega)];unfold Hq;rw [qf (show x.Op≠1 by omega),qf (show x.Op≠2 by omega),qf (show x.Op≠3 by omega),qf (show x.Op≠4 by omega),qf (show x.Op≠5 by omega),qt ho];simp only [RF,RT];rw [G7 h.shS.len];simp only [Qa];rw [ZX g2.len];simp only [Qa];rw [ZX (by have:=g2.1;simp;omega)];rfl
 .rw [instr_plain (by omega) (by omega)];unfold zZ;rw [qf (show x.Op≠1 by omega),qf (show x.Op≠2 by omega),qf (show x.Op≠3 by omega),qf (show x.Op≠4 by omega),qf (show x.Op≠5 by omega),qt ho];simp only [RF,RT];rw [GD h.shS.len];simp only [Qa];rw [ZW k2.len];simp only [Qa];rw [ZW (by have:=k2.1;show ((Xg [78] stk b).2.1++[(Xg [78] stk b).1]).length≤1000;simp;omega)];rfl
 .cases hb:(Xg [84] stk b).2.2 with
  |true =>
   refine Kv rfl ?_
   have:(Xg [78] stk b).2.2=true:=by rw [<-KI [84] [78]];exact hb
   exact I7 (I7 this)
  |false =>
   have e1:=GJ [84] [78] stk b hb;have e2:=KI [84] [78] stk b;rw [<-e1,<-e2,hb];exact zxW _ _
theorem zAa{e:Tx}{s:List Tx}{b:Bool}(h:(Xg e s b).2.2=false):b=false:=by
 cases b with
 |false=>rfl
 |true=>rw [Gc rfl] at h;cases h
theorem zD4(h:XP l L m mt loc stk b)(ho:x.Op=7):
  ∃p r,zj L m c mt loc stk b x=some p/\zn L c mt loc stk b x=some r/\Zs mt.Stack p r/\X5 loc stk b p:=by
 obtain ⟨g1,g2⟩:=ZK (b:=b) h.shS (e:=[84]) (by decide);obtain ⟨k1,k2⟩:=ZK (b:=b) h.shS (e:=[78]) (by decide);generalize hP:Xg [84] stk b=P at g1 g2;generalize hR:Xg [78] stk b=R at k1 k2;obtain ⟨g3,g4⟩:=ZK (b:=P.2.2) g2 (e:=[84]) (by decide);obtain ⟨k3,k4⟩:=ZK (b:=R.2.2) k2 (e:=[78]) (by decide)
 have hPs:P.2.1<+:stk:=by rw [<-hP];exact Gb _ _ _
 have hPb:b=true->P.2.2=true:=by rw [<-hP];exact Gc
 have hPi:P.2.2=false->P.1∈stk:=by rw [<-hP];exact DB
 refine ⟨(loc,(Xg [84] P.2.1 P.2.2).2.1++[P.1]++[(Xg [84] P.2.1 P.2.2).1],(Xg [84] P.2.1 P.2.2).2.2),
  (loc,(Zy mt.Stack (Zy mt.Stack (Xg [78] R.2.1 R.2.2).2.1 (Xg [78] R.2.1 R.2.2).2.2 R.1).1 (Zy mt.Stack (Xg [78] R.2.1 R.2.2).2.1 (Xg [78] R.2.1 R.2.2).2.2 R.1).2 (Xg [78] R.2.1 R.2.2).1).1,
   (Zy mt.Stack (Zy mt.Stack (Xg [78] R.2.1 R.2.2).2.1 (Xg [78] R.2.1 R.2.2).2.2 R.1).1 (Zy mt.Stack (Xg [78] R.2.1 R.2.2).2.1 (Xg [78] R.2.1 R.2.2).2.2 R.1).2 (Xg [78] R.2.1 R.2.2).1).2),?_,?_,?_,zxg (λe=>Gc (hPb e)) h.shL h.shS ((Gb _ _ _).trans hPs) g1 (λhb=>.inl (hPi (zAa hb))) g3 λhb=>.inl (hPs.subset (DB hb))⟩
 .rw [WT (by omega)];unfold Hq;rw [qf (show x.Op≠1 by omega),qf (show x.Op≠2 by omega),qf (show x.Op≠3 by omega),qf (show x.Op≠4 by omega),qf (show x.Op≠5 by omega),qf (show x.Op≠6 by omega),qt ho];simp only [RF,RT];rw [G7 h.shS.len,hP];simp only [Qa];rw [G7 g2.len];simp only [Qa];rw [ZX g4.len];simp only [Qa];rw [ZX (by have:=g4.1;simp;omega)];rfl
 .rw [instr_plain (by omega) (by omega)];unfold zZ;rw [qf (show x.Op≠1 by omega),qf (show x.Op≠2 by omega),qf (show x.Op≠3 by omega),qf (show x.Op≠4 by omega),qf (show x.Op≠5 by omega),qf (show x.Op≠6 by omega),qt ho];simp only [RF,RT];rw [GD h.shS.len,hR];simp only [Qa];rw [GD k2.len];simp only [Qa];rw [ZW k4.len];simp only [Qa];rw [ZW (by have:=k4.1;show ((Xg [78] R.2.1 R.2.2).2.1++[R.1]).length≤1000;simp;omega)];rfl
 .have e2:P.2=R.2:=by rw [<-hP,<-hR];exact KI [84] [78] stk b
  cases hb:(Xg [84] P.2.1 P.2.2).2.2 with
  |true =>
   refine Kv rfl ?_
   have:(Xg [78] R.2.1 R.2.2).2.2=true:=by rw [<-e2,<-KI [84] [78]];exact hb
   exact I7 (I7 this)
  |false =>
   have e1:P.1=R.1:=by
    rw [<-hP,<-hR];exact GJ [84] [78] stk b (by rw [hP];exact zAa hb)
   have e3:=GJ [84] [78] P.2.1 P.2.2 hb;have e4:=KI [84] [78] P.2.1 P.2.2;rw [<-e2,<-e1,<-e3,<-e4,hb];exact zxW _ _
theorem zr4(h:58≤x.Op):∀k:Int,k<58->(x.Op == k)=false:=λk hk=>qf (by omega)
theorem zH6(h:XP l L m mt loc stk b)(ho:x.Op=59):
  ∃p r,zj L m c mt loc stk b x=some p/\zn L c mt loc stk b x=some r/\Zs mt.Stack p r/\X5 loc stk b p:=by
 have hq:=zr4 (x:=x) (by omega);refine ⟨(loc,stk++[[73]],b),_,?_,?_,UB _,Um id h.shL h.shS (QT _) (by decide) λ_=>.inr Ux⟩
 .rw [I9 (by omega)];unfold Wb;rw [hq 56 (by omega),hq 57 (by omega)];unfold Wc;rw [qf (show x.Op≠58 by omega),qt ho];simp only [RF,RT];rw [ZX h.shS.len];rfl
 .rw [instr_plain (by omega) (by omega)];unfold zZ;rw [hq 1 (by omega),hq 2 (by omega),hq 3 (by omega),hq 4 (by omega),hq 5 (by omega),hq 6 (by omega),hq 7 (by omega),hq 46 (by omega),hq 47 (by omega),hq 48 (by omega),hq 56 (by omega),hq 57 (by omega),qf (show x.Op≠58 by omega),qt ho];simp only [RF,RT];rw [ZW h.shS.len];rfl
theorem zFZ(h:XP l L m mt loc stk b)(ho:x.Op=60∨x.Op=61):
  ∃p r,zj L m c mt loc stk b x=some p/\zn L c mt loc stk b x=some r/\Zs mt.Stack p r/\X5 loc stk b p:=by
 have hq:=zr4 (x:=x) (by omega)
 have h73:([73]:Tx).length≤25:=by decide
 refine ⟨(loc,(Xp L [84] [[73]] stk b).1,(Xp L [84] [[73]] stk b).2),(loc,(Xp L [84] [[73]] stk b).1,(Xp L [84] [[73]] stk b).2),?_,?_,KP λ_=>?_,KQ (ZG _ _ _) h.shL h.shS (UD _ _ _ _ _)⟩
 .rw [I9 (by omega)];unfold Wb;rw [hq 56 (by omega),hq 57 (by omega)];unfold Wc;rw [qf (show x.Op≠58 by omega),qf (show x.Op≠59 by omega)];simp only [RF,RT];rw [Ub h.made h.map (sh1 h73) h.shS];rfl
 .rw [instr_plain (by omega) (by omega)];unfold zZ;rw [hq 1 (by omega),hq 2 (by omega),hq 3 (by omega),hq 4 (by omega),hq 5 (by omega),hq 6 (by omega),hq 7 (by omega),hq 46 (by omega),hq 47 (by omega),hq 48 (by omega),hq 56 (by omega),hq 57 (by omega),qf (show x.Op≠58 by omega),qf (show x.Op≠59 by omega)];simp only [RF]
  have key:∀v,v=true->(zet L c mt loc stk b v).bind (λv=>some (v.1,v.2.1,v.2.2))=some (loc,(Xp L [84] [[73]] stk b).1,(Xp L [84] [[73]] stk b).2):=λv hv=>by
   unfold zet;rw [hv,Ul h.made (sh1 h73) h.shS,ZZ [78] [84]];rfl
  rcases ho with ho |ho
  .rw [qt ho];exact key _ rfl
  .rw [qf (show x.Op≠60 by omega),qt ho];exact key _ rfl
 .have:=DE (L:=L) [84] [[73]] stk b;have:=h.room;omega
theorem zBL(h:XP l L m mt loc stk b)(ho:x.Op=58):
  ∃p r,zj L m c mt loc stk b x=some p/\zn L c mt loc stk b x=some r/\Zs mt.Stack p r/\X5 loc stk b p:=by
 have hq:=zr4 (x:=x) (by omega)
 have ht:([84,104,114,111,119,110]:Tx).length≤25:=by decide
 obtain ⟨k1,k2⟩:=ZK (b:=b) h.shS (e:=[78]) (by decide);refine ⟨(loc,(Xp L [84] [[84,104,114,111,119,110]] stk b).1,(Xp L [84] [[84,104,114,111,119,110]] stk b).2),(loc,(Xp L [84] [[84,104,114,111,119,110]] stk b).1,(Xp L [84] [[84,104,114,111,119,110]] stk b).2),?_,?_,KP λ_=>?_,KQ (ZG _ _ _) h.shL h.shS (UD _ _ _ _ _)⟩
 .rw [I9 (by omega)];unfold Wb;rw [hq 56 (by omega),hq 57 (by omega)];unfold Wc;rw [qt ho];simp only [RF,RT];rw [Ub h.made h.map (sh1 ht) h.shS];rfl
 .rw [instr_plain (by omega) (by omega)];unfold zZ;rw [hq 1 (by omega),hq 2 (by omega),hq 3 (by omega),hq 4 (by omega),hq 5 (by omega),hq 6 (by omega),hq 7 (by omega),hq 46 (by omega),hq 47 (by omega),hq 48 (by omega),hq 56 (by omega),hq 57 (by omega),qt ho];simp only [RF,RT];rw [GD h.shS.len];simp only [Qa];rw [ON h.made k1 ht,ZZ [84] [78]];rfl
 .have:=DE (L:=L) [84] [[84,104,114,111,119,110]] stk b;have:=h.room;omega
theorem zyS(h:46≤x.Op/\x.Op≤48):zj L m c mt loc stk b x=(ER L m c mt loc stk b x.Op).bind λv=>some (loc,v.1,v.2):=by
 unfold zj;rw [bf (by omega),qf (show x.Op≠13 by omega),bf (by omega),qf (show x.Op≠20 by omega),bf (by omega),bf (by omega),bf (by omega),bf (by omega),qf (show x.Op≠37 by omega),bf (by omega),bf (by omega),bt h];rfl
theorem zF1(h:XP l L m mt loc stk b)(ho:x.Op=46∨x.Op=47):
  ∃p r,zj L m c mt loc stk b x=some p/\zn L c mt loc stk b x=some r/\Zs mt.Stack p r/\X5 loc stk b p:=by
 have h73:([73]:Tx).length≤25:=by decide
 have hq:∀k:Int,k<46->(x.Op == k)=false:=λk hk=>qf (by omega)
 rcases ho with ho |ho
 .refine ⟨(loc,stk,b||!(mt.Ret == [86])),(loc,stk,b||!(mt.Ret == [86])),?_,?_,KP λ_=>h.room,KQ (λe=>by rw [e];rfl) h.shL h.shS (QT _)⟩
  .rw [zyS (by omega)];unfold ER;rw [qt ho];rfl
  .rw [instr_plain (by omega) (by omega)];unfold zZ;rw [hq 1 (by omega),hq 2 (by omega),hq 3 (by omega),hq 4 (by omega),hq 5 (by omega),hq 6 (by omega),hq 7 (by omega),qt ho];rfl
 .refine ⟨(loc,(Xp L [84] [[73]] stk (b||!(mt.Ret == [73]))).1,(Xp L [84] [[73]] stk (b||!(mt.Ret == [73]))).2),(loc,(Xp L [84] [[73]] stk b).1,(Xp L [84] [[73]] stk b).2||!(mt.Ret == [73])),?_,?_,?_,KQ (λe=>ZG _ _ _ (by rw [e];rfl)) h.shL h.shS (UD _ _ _ _ _)⟩
  .rw [zyS (by omega)];unfold ER;rw [qf (show x.Op≠46 by omega),qt ho];simp only [RF,RT];rw [Ub h.made h.map (sh1 h73) h.shS];rfl
  .rw [instr_plain (by omega) (by omega)];unfold zZ;rw [hq 1 (by omega),hq 2 (by omega),hq 3 (by omega),hq 4 (by omega),hq 5 (by omega),hq 6 (by omega),hq 7 (by omega),qf (show x.Op≠46 by omega),qt ho];simp only [RF,RT];rw [Ul h.made (sh1 h73) h.shS,ZZ [78] [84]];rfl
  .have hl:=DE (L:=L) [84] [[73]] stk b;have hr:=h.room
   cases mt.Ret == [73] with
   |true =>
    rw [show (b||!true)=b by simp];rw [show ((Xp L [84] [[73]] stk b).2||!true)=(Xp L [84] [[73]] stk b).2 by simp]
    exact KP λ_=>by omega
   |false=>exact Kv (ZG _ _ _ (by simp)) (by simp)
end
section
variable {l L : List za} {m : List (Tx × Int)} {c : Tx} {mt : zb} {loc stk : List Tx} {b : Bool} {x : zs}
theorem zD2(h:XP l L m mt loc stk b)(ho:x.Op=3)(hA:0≤x.A):
  ∃p r,zj L m c mt loc stk b x=some p/\zn L c mt loc stk b x=some r/\Zs mt.Stack p r/\X5 loc stk b p:=by
 have P0:zj L m c mt loc stk b x=(cond (decide (((List.length loc):Int)≤x.A)) (BC L m c mt loc stk b x true) ((idx loc x.A).bind λv11=>BC L m c mt loc stk b x (v11 == [84]))).bind λv=>some (v.1,v.2.1,v.2.2):=by
  rw [WT (by omega)];unfold Hq;rw [qf (show x.Op≠1 by omega),qf (show x.Op≠2 by omega),qt ho];rfl
 have R0:zn L c mt loc stk b x=(cond (decide (x.A<(List.length loc:Int))) ((idx loc (if (i64.wrap ((List.length loc:Int)-1))<x.A then (i64.wrap ((List.length loc:Int)-1)) else x.A)).bind λv10=>BN L c mt loc stk x (b||(!(!(v10 == [84]))))) (BN L c mt loc stk x (b||(!false)))).bind λv=>some (v.1,v.2.1,v.2.2):=by
  rw [instr_plain (by omega) (by omega)];unfold zZ;rw [qf (show x.Op≠1 by omega),qf (show x.Op≠2 by omega),qt ho];rfl
 rw [P0,R0];by_cases hlt:x.A<(loc.length:Int)
 .obtain ⟨k,hk⟩:∃k:Nat,x.A=(k:Int):=⟨x.A.toNat,by omega⟩
  have hkl:k<loc.length:=by omega
  have hw:i64.wrap ((loc.length:Int)-1)=(loc.length:Int)-1:=ZE (by omega) (by have:=h.shL.1;omega)
  have hi:idx loc x.A=some loc[k]:=by rw [hk,zo,Qe hkl]
  rw [hw,if_neg (by omega),RE (by omega),RD hlt,hi];simp only [RF,RT,Qa];unfold BC BN;rw [hi];simp only [Qa]
  cases ht:loc[k] == [84] with
  |true =>
   refine ⟨_,_,rfl,?_,Kv (r:=(loc,stk,true)) rfl rfl,KQ (λ_=>rfl) h.shL h.shS (QT _)⟩;simp
  |false =>
   rw [ZX h.shS.len]
   cases b with
   |true=>exact ⟨_,_,rfl,rfl,Kv rfl rfl,Um id h.shL h.shS (QT _) (h.shL.2 _ (Qi hkl)) λe=>by cases e⟩
   |false =>
    simp only [QH,Qr,Q2,RT];rw [ZW h.shS.len];exact ⟨_,_,rfl,rfl,UB _,Um id h.shL h.shS (QT _) (h.shL.2 _ (Qi hkl)) λ_=>.inr ⟨h.shL.2 _ (Qi hkl),(h.onL _ (Qi hkl)).resolve_left λe=>by rw [e] at ht;cases ht⟩⟩
 .rw [RD (by omega),RE hlt];simp only [RF,RT];unfold BC BN;refine ⟨_,_,rfl,?_,Kv (r:=(loc,stk,true)) rfl rfl,KQ (λ_=>rfl) h.shL h.shS (QT _)⟩;simp
theorem zBK(h:XP l L m mt loc stk b)(ho:x.Op=4)(hA:0≤x.A):
  ∃p r,zj L m c mt loc stk b x=some p/\zn L c mt loc stk b x=some r/\Zs mt.Stack p r/\X5 loc stk b p:=by
 have P0:zj L m c mt loc stk b x=((KD L m c mt loc stk b).bind λv15=>cond (decide (((List.length loc):Int)≤x.A)) (some (loc,v15.2.1,true)) ((Ks loc).bind λv16=>(idx v16 x.A).bind λv17=>some ((List.set v16 (Int.toNat x.A) v15.1),v15.2.1,v15.2.2))).bind λv=>some (v.1,v.2.1,v.2.2):=by
  rw [WT (by omega)];unfold Hq;rw [qf (show x.Op≠1 by omega),qf (show x.Op≠2 by omega),qf (show x.Op≠3 by omega),qt ho];rfl
 have R0:zn L c mt loc stk b x=((Kg L c mt loc stk b).bind λv14=>cond (!(v14.2.2||(!(decide (x.A<(List.length loc:Int)))))) ((DX (GG.mk loc v14.2.1)).bind λv15=>(idx v15.1 x.A).bind λv16=>some ((List.set v15.1 (Int.toNat x.A) v14.1),v15.2,(v14.2.2||(!(decide (x.A<(List.length loc:Int))))))) (some (loc,v14.2.1,(v14.2.2||(!(decide (x.A<(List.length loc:Int)))))))).bind λv=>some (v.1,v.2.1,v.2.2):=by
  rw [instr_plain (by omega) (by omega)];unfold zZ;rw [qf (show x.Op≠1 by omega),qf (show x.Op≠2 by omega),qf (show x.Op≠3 by omega),qt ho];rfl
 obtain ⟨g1,g2⟩:=ZK (b:=b) h.shS (e:=[84]) (by decide);obtain ⟨k1,k2⟩:=ZK (b:=b) h.shS (e:=[78]) (by decide);rw [P0,R0,G7 h.shS.len,GD h.shS.len];simp only [Qa];by_cases hlt:x.A<(loc.length:Int)
 .obtain ⟨k,hk⟩:∃k:Nat,x.A=(k:Int):=⟨x.A.toNat,by omega⟩
  have hkl:k<loc.length:=by omega
  have hi:idx loc x.A=some loc[k]:=by rw [hk,zo,Qe hkl]
  rw [RE (by omega),RD hlt,zvF h.shL.len,zCs h.shL.len k2.len];simp only [RF,Qa,Qr,Q2];rw [hi];have e2:=KI [84] [78] stk b
  cases hb:(Xg [78] stk b).2.2 with
  |true=>exact ⟨_,_,rfl,rfl,Kv (by show (Xg [84] stk b).2.2=true;rw [e2];exact hb) rfl,zvb Gc h.shL h.shS (Gb _ _ _) g1 DB⟩
  |false =>
   have e1:=GJ [78] [84] stk b hb;refine ⟨_,_,rfl,rfl,?_,zvb Gc h.shL h.shS (Gb _ _ _) g1 DB⟩;rw [e1,e2,hb];refine KP λ_=>?_;have:=I4 [78] stk b;have:=h.room;omega
 .rw [RD (by omega),RE hlt];simp only [RT,QH,Jr,Qr,RF];exact ⟨_,_,rfl,rfl,Kv rfl rfl,KQ (λ_=>rfl) h.shL h.shS (Gb _ _ _)⟩
theorem zwE{t:Tx}(ht:Xq t=true):Z1 L t=thN L t:=by
 unfold Z1
 have e1:(t == [78])=false:=RB.2 λe=>by rw [e,zHG] at ht;cases ht
 have e2:(t == [84])=false:=RB.2 λe=>by rw [e,zHH] at ht;cases ht
 rw [e1,e2];rfl
theorem zD0(h:XP l L m mt loc stk b)(ho:x.Op=56∨x.Op=57)(hC:Xq x.C=true)(hl:x.C.length≤25):
  ∃p r,zj L m c mt loc stk b x=some p/\zn L c mt loc stk b x=some r/\Zs mt.Stack p r/\X5 loc stk b p:=by
 have hq:∀k:Int,k<56->(x.Op == k)=false:=λk hk=>qf (by omega);obtain ⟨g1,g2⟩:=zwy (b:=b) h.shS (e:=[84]) (by decide);have e2:=(zry (b:=b) h.on).1
 have k2:ShL (U5 stk b).2.1:=by rw [e2];exact g2
 rcases ho with ho |ho
 .refine ⟨(loc,(XB [84] stk b).2.1++[x.C],(XB [84] stk b).2.2||!thN L x.C),_,?_,?_,UB _,Um (λe=>by rw [Oq e];rfl) h.shL h.shS (WQ _ _ _) hl λ_=>.inr (IO hC hl)⟩
  .rw [I9 (by omega)];unfold Wb;rw [qt ho];unfold Wc;simp only [RT];rw [B5 h.shS];simp only [Qa];rw [WL h.made h.map hl,zwE hC];simp only [Qa];rw [qt ho];simp only [RT];rw [ZX g2.len];rfl
  .rw [instr_plain (by omega) (by omega)];unfold zZ;rw [hq 1 (by omega),hq 2 (by omega),hq 3 (by omega),hq 4 (by omega),hq 5 (by omega),hq 6 (by omega),hq 7 (by omega),hq 46 (by omega),hq 47 (by omega),hq 48 (by omega),qt ho];simp only [RF,RT];rw [WN h.shS];simp only [Qa];rw [Kz h.made (by omega)];simp only [Qa];rw [ZW k2.len,e2];rfl
 .refine ⟨(loc,(XB [84] stk b).2.1++[[73]],(XB [84] stk b).2.2||!thN L x.C),_,?_,?_,UB _,Um (λe=>by rw [Oq e];rfl) h.shL h.shS (WQ _ _ _) (by decide) λ_=>.inr Ux⟩
  .rw [I9 (by omega)];unfold Wb;rw [qf (show x.Op≠56 by omega),qt ho];unfold Wc;simp only [RT,RF];rw [B5 h.shS];simp only [Qa];rw [WL h.made h.map hl,zwE hC];simp only [Qa];rw [qf (show x.Op≠56 by omega)];simp only [RF];rw [ZX g2.len];rfl
  .rw [instr_plain (by omega) (by omega)];unfold zZ;rw [hq 1 (by omega),hq 2 (by omega),hq 3 (by omega),hq 4 (by omega),hq 5 (by omega),hq 6 (by omega),hq 7 (by omega),hq 46 (by omega),hq 47 (by omega),hq 48 (by omega),qf (show x.Op≠56 by omega),qt ho];simp only [RF,RT];rw [WN h.shS];simp only [Qa];rw [Kz h.made (by omega)];simp only [Qa];rw [ZW k2.len,e2];rfl
end
section
variable {l L : List za} {m : List (Tx × Int)} {c : Tx} {mt : zb} {loc stk : List Tx} {b : Bool} {x : zs}
theorem zHl{t:Tx}(h1:(t == [73])=false)(h2:Xq t=true):X9 L [73] t=false:=by
 have e2:(t == [84])=false:=RB.2 λe=>by rw [e,zHH] at h2;cases h2
 have e3:(([73]:Tx) == t)=false:=by rw [Bool.eq_false_iff] at h1 ⊢;intro h;exact h1 (by rw [beq_iff_eq] at h ⊢;exact h.symm)
 rw [zCH,e2];simp only [RF];rw [show (([73]:Tx) == [78])=false from by decide,e3];simp
theorem zHI:Xq [86]=false:=by decide +kernel
theorem zDW(h:XP l L m mt loc stk b)(ho:x.Op=48)(hr:Z2 mt.Ret=true)(hl:mt.Ret.length≤25):
  ∃p r,zj L m c mt loc stk b x=some p/\zn L c mt loc stk b x=some r/\Zs mt.Stack p r/\X5 loc stk b p:=by
 have hq:∀k:Int,k<48->(x.Op == k)=false:=λk hk=>qf (by omega);obtain ⟨k1,k2⟩:=ZK (b:=b) h.shS (e:=[78]) (by decide)
 have P0:zj L m c mt loc stk b x=some (loc,(Xp L [84] [mt.Ret] stk (b||!ZD mt.Ret)).1,(Xp L [84] [mt.Ret] stk (b||!ZD mt.Ret)).2):=by
  rw [zyS (by omega)];unfold ER;rw [hq 46 (by omega),hq 47 (by omega),znu (Wx hl)];simp only [RF,Qa];rw [Ub h.made h.map (sh1 hl) h.shS];rfl
 have R0:zn L c mt loc stk b x=some (loc,(U5 stk b).2.1,(U5 stk b).2.2||!(!(mt.Ret == [86])&&(!(mt.Ret == [73])&&X9 L (U5 stk b).1 mt.Ret))):=by
  rw [instr_plain (by omega) (by omega)];unfold zZ;rw [hq 1 (by omega),hq 2 (by omega),hq 3 (by omega),hq 4 (by omega),hq 5 (by omega),hq 6 (by omega),hq 7 (by omega),hq 46 (by omega),hq 47 (by omega),qt ho];simp only [RF,RT];rw [WN h.shS];simp only [Qa];rw [ON h.made (show (U5 stk b).1.length≤25 from k1) hl];cases mt.Ret == [86] <;> cases mt.Ret == [73] <;> rfl
 refine ⟨_,_,P0,R0,?_,KQ (λe=>ZG _ _ _ (by rw [e];rfl)) h.shL h.shS (UD _ _ _ _ _)⟩
 cases h1:mt.Ret == [86] with
 |true =>
  have e:mt.Ret=[86]:=by simpa using h1
  have:ZD mt.Ret=false:=by unfold ZD;rw [e,zHI];rfl
  rw [this];exact Kv (ZG _ _ _ (by simp)) (by simp)
 |false =>
  cases h2:mt.Ret == [73] with
  |true =>
   have:ZD mt.Ret=false:=by unfold ZD;rw [h2];rfl
   rw [this];exact Kv (ZG _ _ _ (by simp)) (by simp)
  |false =>
   have hm:Xq mt.Ret=true:=by unfold Z2 at hr;rw [h1] at hr;simpa using hr
   have:ZD mt.Ret=true:=by unfold ZD;rw [h2,hm];rfl
   rw [this];simp only [Qr,Q2,QH,QC]
   have key:((U5 stk b).2.1,(U5 stk b).2.2||!X9 L (U5 stk b).1 mt.Ret)=Xp L [84] [mt.Ret] stk b:=by
    rw [ZZ [84] [78]];show ((Xg [78] stk b).2.1,((Xg [78] stk b).2.2||!(!((Xg [78] stk b).1 == [73])))||!X9 L (Xg [78] stk b).1 mt.Ret)=((Xg [78] stk b).2.1,(Xg [78] stk b).2.2||!X9 L (Xg [78] stk b).1 mt.Ret)
    cases h3:(Xg [78] stk b).1 == [73] with
    |true =>
     have e:(Xg [78] stk b).1=[73]:=by simpa using h3
     rw [e,zHl h2 hm];simp
    |false=>simp
   rw [<-key];refine KP λ_=>?_;have:=I4 [78] stk b;have:=h.room;show (((Xg [78] stk b).2.1).length:Int)≤mt.Stack;omega
end
theorem zEm(t:Tx):t.length≤(XT t).length+1:=by
 cases t with
 |nil=>exact Qo _
 |cons x r=>rw [HQ];split <;> simp
theorem zq1{t:Tx}(h:XF t=true):t.length≤8:=by
 unfold XF Kn at h;simp only [Qd,decide_eq_true_eq] at h;have:=h.1.1.2.2;omega
theorem zGv{t:Tx}(h:Xq t=true):t.length≤10:=by
 have h1:=zEm t;have h2:=zEm (XT t);unfold Xq at h;rw [Qt] at h
 rcases h with h |h
 .have e:XT (XT t)=[73]:=by simpa using h
  rw [e] at h2;simp at h2;omega
 .have:=zq1 h;omega
theorem KJ{t:Tx}(h:Xq t=true):t.length≤25:=by have:=zGv h;omega
theorem WE{t:Tx}(h:Z2 t=true):t.length≤25:=by
 unfold Z2 at h;rw [Qt] at h
 rcases h with h |h
 .have e:t=[86]:=by simpa using h
  rw [e];decide
 .exact KJ h
theorem zFO{t:Tx}(h:U4 t=true):t.length≤25/\(t=[84]∨onS t):=by
 unfold U4 at h;simp only [Qt,beq_iff_eq] at h
 rcases h with ((h |h) |h) |h
 .subst h;exact ⟨Ux.1,.inr Ux.2⟩
 .subst h;exact ⟨zEX.1,.inr zEX.2⟩
 .subst h;exact ⟨by decide,.inl rfl⟩
 .unfold ZD at h;rw [Qd] at h;exact ⟨KJ h.2,.inr (.inr h.2)⟩
theorem zGn{α:Type}{bad:List α->α->Bool}:∀{l pre:List α},gB bad pre l=false->∀x∈l,∃q,bad q x=false
 | [],_,_,x,hx=>by cases hx
 |y ::r,pre,h,x,hx=>by
  unfold gB at h;rw [Qn] at h
  rcases Qu.1 hx with e |e
  .rw [e];exact ⟨pre,h.1⟩
  .exact zGn h.2 x e
structure GU(m:zb)(x:zV):Prop where
 locs:(x.Locals.length:Int)=m.Locals
 stks:(x.Stack.length:Int)≤m.Stack
 locT:∀t∈x.Locals,U4 t=true
 stkT:∀t∈x.Stack,U4 t=true/\t≠[84]
structure XX(m:zb):Prop where
 params:∀s∈m.Params,Xq s=true
 npar:m.Params.length≤6
 ret:Z2 m.Ret=true
 locs:Zp m≤m.Locals/\m.Locals≤16
 stack:0≤m.Stack/\m.Stack≤16
 code:1≤m.Code.length/\m.Code.length≤100
 last:∃y,m.Code.getLast?=some y/\GE y.Op=true
 ins:∀x∈m.Code,UP x=true
 traps:∀y∈m.Traps,y.C=[]∨XF y.C=true
 ntraps:m.Traps.length≤6
 maps:∀x∈m.Maps,GU m x
 nmaps:m.Maps.length≤100
theorem btw{n a b:Int}(h:zx n a b=true):a≤n/\n≤b:=by
 unfold zx at h;simpa using h
theorem zxY{l:List Tx}(h:Uz l=true):∀t∈l,U4 t=true:=λt ht=>by
 unfold Uz at h;rw [Qk,Qw] at h;simpa using h t ht
theorem zwb{m:zb}(h:ZY m=true):(∀s∈m.Params,Xq s=true)/\m.Params.length≤6/\Z2 m.Ret=true:=by
 unfold ZY at h;simp only [Qd,Qk,Qn,decide_eq_false_iff_not] at h;obtain ⟨⟨⟨⟨h1,h2⟩,h3⟩,h4⟩,h5⟩:=h;refine ⟨λs hs=>?_,by omega,h4⟩;unfold IU at h3;rw [Qk,Qw] at h3;simpa using h3 s hs
theorem zFk{m:zb}(h:ZY m=true)(ha:m.Abstract=true):m.Static=false:=by
 unfold ZY at h;rw [ha] at h;simp only [Qd,RT] at h;obtain ⟨_,h5⟩:=h;unfold HV at h5;simp only [Qd,Qk] at h5
 first
  |exact h5.1
  |exact h5.1.1
  |exact h5.1.1.1
  |exact h5.1.1.1.1
theorem zIN{m:zb}(h:ZY m=true)(ha:m.Abstract=false):XX m:=by
 obtain ⟨p1,p2,p3⟩:=zwb h;unfold ZY at h;rw [ha] at h;simp only [Qd,RF] at h;obtain ⟨_,_,hl,hs,⟨hi,ht⟩,hm⟩:=h;have hl:=btw hl;have hs:=btw hs;unfold instrN at hi;simp only [Qd,Qk] at hi;obtain ⟨i1,i2,i3⟩:=hi;have i1:=btw i1;unfold HE at ht;simp only [Qd,Qk,decide_eq_true_eq] at ht;obtain ⟨t1,t2⟩:=ht;unfold HC at hm;simp only [Qd,Qk,decide_eq_true_eq] at hm;obtain ⟨m1,m2⟩:=hm;refine ⟨p1,p2,p3,hl,hs,by omega,?_,λx hx=>?_,λy hy=>?_,by omega,λx hx=>?_,by omega⟩
 .cases hg:m.Code.getLast? with
  |none=>rw [hg] at i2;cases i2
  |some y=>rw [hg] at i2;exact ⟨y,rfl,i2⟩
 .have:=(Qw.1 i3) x hx;unfold BW at this;simp only [Qt,Qk,not_or] at this;simpa using this.1
 .have:=(Qw.1 t1) y hy;unfold GZ at this;simp only [Qt,not_or,Qd,Qk,not_and,RB] at this;by_cases e:y.C=[]
  .exact .inl e
  .right;have:=this.2 e;simpa using this
 .obtain ⟨q,hq⟩:=zGn m1 x hx;unfold Wk at hq;simp only [Qn,Q6,beq_iff_eq,decide_eq_false_iff_not] at hq;obtain ⟨_,⟨h1,h2⟩,⟨h3,h4⟩,h5⟩:=hq;refine ⟨h1,by omega,zxY h3,λt ht=>⟨zxY h4 t ht,λe=>?_⟩⟩;subst e;have:=(Qw.1 h5) [84] ht;simp at this
theorem zzX{l L:List za}(h:Xe l L){x:za}(hx:x∈L){f:zb}(hf:f∈x.Methods):ZY f=true:=by
 rw [h.app] at hx
 rcases Qm.1 hx with e |e
 .have hg:giv.all (λc=>decide (c.Methods.length=0))=true:=by decide +kernel
  have:=of_decide_eq_true (Qp.1 hg x e);rw [Qf this] at hf;cases hf
 .have:=h.may x e;unfold ZN at this;simp only [Qd,Qk,decide_eq_true_eq] at this;have h2:=B2 this.2.2.1 f hf;rw [Qd] at h2;exact h2.2
theorem zET{l L:List za}(h:Xe l L){x:za}(hx:x∈L){f:zg}(hf:f∈x.Fields):Xq f.Type_=true:=by
 rw [h.app] at hx
 rcases Qm.1 hx with e |e
 .have hg:giv.all (λc=>decide (c.Fields.length=0))=true:=by decide +kernel
  have:=of_decide_eq_true (Qp.1 hg x e);rw [Qf this] at hf;cases hf
 .have:=h.may x e;unfold ZN at this;simp only [Qd,Qk,decide_eq_true_eq] at this;have h2:=B2 this.2.1.2.1 f hf;unfold K5 at h2;simp only [Qd] at h2;exact h2.2
theorem zFb{x:zs}(h:UP x=true):x.C.length≤10:=by
 unfold UP at h;simp only [Qd] at h;have:=h.1.2;unfold HB at this;cases h1:Gd x.Op <;> rw [h1] at this
 .cases h2:Db x.Op <;> rw [h2] at this
  .have e:x.C=[]:=by simpa using this
   rw [e];decide
  .have:=zq1 (show XF x.C=true from this);omega
 .have:ZD x.C=true:=this;unfold ZD at this;rw [Qd] at this;exact zGv this.2
def Ki(mt:zb)(n:Int):Option zV:=mt.Maps.find? (λx=>x.At == n)
def KY(L:List za)(a b:List Tx):Bool:=((a.length:Int) == (b.length:Int))&&!(List.range a.length).any (λi=>!X9 L ((a[i]?).getD []) ((b[i]?).getD []))
def Kq(L:List za)(mt:zb)(loc stk:List Tx)(n:Int):Bool:=match Ki mt n with |some x=>KY L loc x.Locals&&KY L stk x.Stack |none=>false
theorem zHC{α:Type}(p:α->Bool)(l:List α):decide (ixF p 0 l<0)=!(l.find? p).isSome:=by
 rw [<-Hc];by_cases h:ixF p 0 l<0
 .rw [RD h,RE (by omega)];rfl
 .rw [RE h,RD (by omega)];rfl
section
variable {l L : List za} {m : List (Tx × Int)} {c : Tx} {mt : zb} {loc stk : List Tx} {b : Bool}
theorem zzi{body:Int->Option (Sum Int (Sum Unit Bool))}{a b:List Tx}(ha:a.length≤1000)(hn:a.length=b.length)
  (hb:∀(i:Nat) x y,a[i]?=some x->b[i]?=some y->body (i:Int)=cond (!X9 L x y) (some (.inr (.inr false))) (some (.inl (i64.wrap ((i:Int)+1)))))
  (he:body (a.length:Int)=some (.inr (.inl ()))):((zk body 0).bind λo=>zB o (λ_=>some true) some)=some (KY L a b):=by
 rw [zrY (n:=a.length) (g:=λi=>cond (!X9 L ((a[i]?).getD []) ((b[i]?).getD [])) (some false) none) (u:=()) (λi hi=>by
  have h1:a[i]?=some a[i]:=Qe hi;have h2:b[i]?=some (b[i]'(by omega)):=Qe (by omega);rw [hb i _ _ h1 h2,h1,h2,zz (by omega)];simp only [Ju]
  cases X9 L a[i] (b[i]'(by omega)) <;> rfl) he,z7]
 unfold KY;rw [hn,beq_self_eq_true,QC];cases (List.range b.length).any (λi=>!X9 L ((a[i]?).getD []) ((b[i]?).getD [])) <;> rfl
theorem zB8{a b:List Tx}(h:a.length≠b.length):KY L a b=false:=by
 unfold KY;rw [RB.2 (show (a.length:Int)≠(b.length:Int) by omega)];rfl
theorem zB2(h:Xe l L)(hm:Xu L m){a b:List Tx}(ha:ShL a)(hb2:∀t∈b,t.length≤25):zkN L m a b=some (KY L a b):=by
 unfold zkN;by_cases hn:a.length=b.length
 .rw [show ((a.length:Int) == (b.length:Int))=true by rw [hn];exact beq_self_eq_true _]
  exact zzi (body:=λz=>EA L m a b z) ha.len hn (λi x y hx hy=>by
   show EA L m a b (i:Int)=_;have:=ha.2 x (Qc hx);have:=hb2 y (Qc hy);unfold EA;rw [Xk hx,zo,zo,hx,hy];simp only [RT,Qa]
   rw [zsU h hm (by omega) (by omega)];rfl) (by
   show EA L m a b (a.length:Int)=_;unfold EA
   rw [Xm];rfl)
 .rw [RB.2 (show (a.length:Int)≠(b.length:Int) by omega),zB8 hn];rfl
theorem XX.lenM(hk:XX mt):XG mt.Maps:=by have:=hk.nmaps;unfold XG;omega
theorem WD(hk:XX mt){n:Int}{x:zV}(h:Ki mt n=some x):GU mt x:=hk.maps x (QG h)
theorem GU.loc25{x:zV}(h:GU mt x):∀t∈x.Locals,t.length≤25:=λt ht=>(zFO (h.locT t ht)).1
theorem GU.stk25{x:zV}(h:GU mt x):∀t∈x.Stack,t.length≤25:=λt ht=>(zFO (h.stkT t ht).1).1
theorem zyu(hk:XX mt){n:Int}:Il L m c mt loc stk b n=some (Ki mt n):=by
 unfold Il zb4
 rw [show ((zk (λz=>zbC mt.Maps n z) 0).bind λo=>zB o (λb=>zfE) some)=_ from Zo (p:=λx:zV=>x.At == n) hk.lenM
  (λi x hx=>by
   unfold zbC zgr
   rw [Xk hx,zo,hx];rfl) (by unfold zbC;rw [Xm];rfl)]
 simp only [Qa];rw [zHC,G9];unfold Ki;cases mt.Maps.find? (λx=>x.At == n) <;> rfl
theorem zzJ(h:Xe l L)(hm:Xu L m){x:zV}(hx:GU mt x)(hl:ShL loc)(hs:ShL stk):DN L m x loc stk=some (KY L loc x.Locals&&KY L stk x.Stack):=by
 unfold DN;rw [zB2 h hm hl hx.loc25,zB2 h hm hs hx.stk25];cases KY L loc x.Locals <;> rfl
theorem zGp(h:Xe l L)(hm:Xu L m)(hk:XX mt)(hl:ShL loc)(hs:ShL stk){n:Int}:Ik L m c mt loc stk b n=some (b||!Kq L mt loc stk n):=by
 unfold Ik Kq;rw [zyu hk];simp only [Qa]
 cases hf:Ki mt n with
 |none=>rfl
 |some x =>
  show (DN L m x loc stk).bind _=_;rw [zzJ h hm (WD hk hf) hl hs];rfl
theorem zHu(h:Xe l L)(hm:Xu L m)(hk:XX mt)(hl:ShL loc){s:List Tx}(hs:ShL s){n:Int}:zfN L m c mt loc stk b n s=some (b||!Kq L mt loc s n):=by
 unfold zfN Kq;rw [zyu hk];simp only [Qa]
 cases hf:Ki mt n with
 |none=>rfl
 |some x =>
  show (DN L m x loc s).bind _=_;rw [zzJ h hm (WD hk hf) hl hs];rfl
end
section
variable {l L : List za} {m : List (Tx × Int)} {c : Tx} {mt : zb} {loc stk : List Tx} {b : Bool} {x : zs}
def X4(L:List za)(C M:Tx):FR:=((Xn L C).findSome? (UI L M)).getD ([],zF,false)
theorem zCJ(h:Xe l L)(C M:Tx):(X4 L C M).2.1.Type_.length≤25/\((X4 L C M).2.2=true->Xq (X4 L C M).2.1.Type_=true):=by
 unfold X4
 cases hq:(Xn L C).findSome? (UI L M) with
 |none=>exact ⟨Qo _,λe=>by cases e⟩
 |some r =>
  obtain ⟨s,hs,e⟩:=Q5 hq;unfold UI at e
  cases hc:cl L s with
  |none=>rw [hc] at e;cases e
  |some y =>
   rw [hc] at e;simp only at e
   cases hf:y.Fields.find? (λy=>y.Name == M) with
   |none=>rw [hf] at e;cases e
   |some f =>
    rw [hf] at e;cases e;have:=zET h (XO hc).1 (QG hf);exact ⟨KJ this,λ_=>this⟩
structure zJr(r:MR):Prop where
 params:∀s∈r.2.1.Params,Xq s=true
 npar:r.2.1.Params.length≤6
 ret25:r.2.1.Ret.length≤25
 ret:r.2.2=true->Z2 r.2.1.Ret=true
theorem zC7:zJr ([],zM,false):=⟨λs hs=>(Yw (show s∈([]:List Tx) from hs)).elim,Qo _,Qo _,λe=>by cases e⟩
theorem zC5{may:zb->Bool}{n s:Tx}{r:MR}(e:Za L may n s=some r):∃y f,cl L s=some y/\f∈y.Methods/\r=(s,f,true):=by
 unfold Za at e
 cases hc:cl L s with
 |none=>rw [hc] at e;cases e
 |some y =>
  rw [hc] at e;simp only at e
  cases hf:y.Methods.find? (λy=>y.Name == n) with
  |none=>rw [hf] at e;cases e
  |some f =>
   rw [hf] at e;simp only at e
   cases hm:may f with
   |false=>rw [hm] at e;cases e
   |true =>
    rw [hm] at e;cases e;exact ⟨y,f,rfl,QG hf,rfl⟩
theorem zC6(h:Xe l L)(may:zb->Bool)(n:Tx)(T:List Tx):zJr ((T.findSome? (Za L may n)).getD ([],zM,false)):=by
 cases hq:T.findSome? (Za L may n) with
 |none=>exact zC7
 |some r =>
  obtain ⟨s,hs,e⟩:=Q5 hq;obtain ⟨y,f,hc,hf,rfl⟩:=zC5 e;obtain ⟨p1,p2,p3⟩:=zwb (zzX h (XO hc).1 hf);exact ⟨p1,p2,WE p3,λ_=>p3⟩
theorem zHO(h:Xe l L)(C n:Tx):zJr (KH L C n)/\((KH L C n).2.2=true->(KH L C n).2.1.Static=false):=by
 unfold KH
 cases hF:isF L C with
 |false=>exact ⟨zC7,λe=>by cases e⟩
 |true =>
  refine ⟨zC6 h _ _ _,?_⟩;simp only [RT]
  cases hq:(C ::XN L C).findSome? (Za L Hk n) with
  |none=>exact λe=>by cases e
  |some r =>
   obtain ⟨s,hs,e⟩:=Q5 hq;obtain ⟨y,f,hc,hf,rfl⟩:=zC5 e;intro _
   have hI:isF L s=true:=by
    rcases Qu.1 hs with e |e
    .rw [e];exact hF
    .exact (zw8.1 e).2
   have hy:y.Interface=true:=by unfold isF at hI;rw [hc] at hI;exact hI
   have ha:=zlm h (XO hc).1 hf;exact zFk (zzX h (XO hc).1 hf) (ha.trans hy)
theorem zDf(ho:x.Op=20):zj L m c mt loc stk b x=some (loc,stk,b):=by
 unfold zj;rw [bf (by omega),qf (show x.Op≠13 by omega),bf (by omega),qt ho];rfl
theorem zDg(h:XP l L m mt loc stk b)(ho:21≤x.Op/\x.Op≤26):zj L m c mt loc stk b x=some (loc,Xp L [84] [[73]] stk b):=by
 unfold zj;rw [bf (by omega),qf (show x.Op≠13 by omega),bf (by omega),qf (show x.Op≠20 by omega),bt ho];simp only [RF,RT];rw [Ub h.made h.map (sh1 Ux.1) h.shS];rfl
theorem zDh(h:XP l L m mt loc stk b)(ho:27≤x.Op/\x.Op≤32):zj L m c mt loc stk b x=some (loc,Xp L [84] [[73],[73]] stk b):=by
 unfold zj;rw [bf (by omega),qf (show x.Op≠13 by omega),bf (by omega),qf (show x.Op≠20 by omega),bf (by omega),bt ho];simp only [RF,RT];rw [Ub h.made h.map (sh2 Ux.1 Ux.1) h.shS];rfl
theorem zDi(h:XP l L m mt loc stk b)(ho:33≤x.Op/\x.Op≤34):zj L m c mt loc stk b x=some (loc,(XB [84] stk b).2):=by
 unfold zj;rw [bf (by omega),qf (show x.Op≠13 by omega),bf (by omega),qf (show x.Op≠20 by omega),bf (by omega),bf (by omega),bt ho];simp only [RF,RT];rw [B5 h.shS];rfl
theorem zDj(h:XP l L m mt loc stk b)(ho:35≤x.Op/\x.Op≤36):zj L m c mt loc stk b x=some (loc,(XB [84] (XB [84] stk b).2.1 (XB [84] stk b).2.2).2):=by
 unfold zj;rw [bf (by omega),qf (show x.Op≠13 by omega),bf (by omega),qf (show x.Op≠20 by omega),bf (by omega),bf (by omega),bf (by omega),bt ho];simp only [RF,RT];rw [B5 h.shS];simp only [Qa];rw [B5 (zwy h.shS (by decide)).2];rfl
theorem zxx(ho:37≤x.Op/\x.Op≤41):zj L m c mt loc stk b x=(ze3 L m c mt loc stk b x).bind λv=>some (loc,v.1,v.2):=by
 have e:((x.Op == (37:Int))||UE x.Op 38 41)=true:=by
  by_cases h:x.Op=37
  .rw [qt h];rfl
  .rw [bt (show (38:Int)≤x.Op/\x.Op≤41 by omega),Jr]
 unfold zj;rw [bf (by omega),qf (show x.Op≠13 by omega),bf (by omega),qf (show x.Op≠20 by omega),bf (by omega),bf (by omega),bf (by omega),bf (by omega),e];rfl
theorem zFs(ho:42≤x.Op/\x.Op≤45):zj L m c mt loc stk b x=(Im L m c mt loc stk b x).bind λv=>some (loc,v.1,v.2):=by
 unfold zj;rw [bf (by omega),qf (show x.Op≠13 by omega),bf (by omega),qf (show x.Op≠20 by omega),bf (by omega),bf (by omega),bf (by omega),bf (by omega),qf (show x.Op≠37 by omega),bf (by omega),bt ho];rfl
theorem W0(ho:49≤x.Op/\x.Op≤55):zj L m c mt loc stk b x=(Hp L m c mt loc stk b x).bind λv=>some (loc,v.1,v.2):=by
 unfold zj;rw [bf (by omega),qf (show x.Op≠13 by omega),bf (by omega),qf (show x.Op≠20 by omega),bf (by omega),bf (by omega),bf (by omega),bf (by omega),qf (show x.Op≠37 by omega),bf (by omega),bf (by omega),bf (by omega),bt ho];rfl
end
theorem On{α R:Type}{body:Bool×Int->Option (Sum (Bool×Int) (Sum Bool R))}{l:List α}{p:α->Bool}(hl:l.length≤1000000)
  (hb:∀(i:Nat) x (b:Bool),l[i]?=some x->body (b,(i:Int))=some (.inl (b||p x,i64.wrap ((i:Int)+1))))
  (he:∀b:Bool,body (b,(l.length:Int))=some (.inr (.inl b))) (b0:Bool):zk body (b0,0)=some (.inl (b0||l.any p)):=by
 have key:∀(r pre:List α) (b:Bool),l=pre++r->zk body (b,(pre.length:Int))=some (.inl (b||r.any p)):=by
  intro r
  induction r with
  |nil =>
   intro pre b h
   have e:l=pre:=by rw [h,Qx]
   subst e;rw [zG,he];simp
  |cons x r ih =>
   intro pre b h
   have hlen:l.length=pre.length+(r.length+1):=by rw [h];simp
   have hx:l[pre.length]?=some x:=by rw [h];simp
   rw [zG,hb _ x b hx,zz (by omega)];have:=ih (pre++[x]) (b||p x) (by rw [h];simp);rw [show (pre++[x]).length=pre.length+1 by simp] at this;simp only [Qa,JT];rw [this,QZ,JL]
 exact key l [] b0 rfl
def ZS(L:List za)(mt:zb)(loc stk:List Tx)(n:Int)(g:Bool):List Tx×List Tx×Bool:=
 match Ki mt n with |none=>(loc,stk,!g) |some x=>(x.Locals,x.Stack,g&&!Kq L mt loc stk n)
def IY:Tx:=[84,104,114,111,119,110]
def G0(t:zU):Tx:=cond (t.C == []) IY t.C
def Gr(L:List za)(mt:zb)(loc:List Tx)(n:Int)(t:zU):Bool:=
 !UV L (G0 t) IY||((decide (t.From≤n)&&decide (n<t.To))&&!Kq L mt loc [G0 t] t.At)
section
variable {l L : List za} {m : List (Tx × Int)} {c : Tx} {mt : zb} {loc stk : List Tx} {b : Bool}
theorem GU.shl{x:zV}(hk:XX mt)(h:GU mt x):ShL x.Locals:=⟨by have:=h.locs;have:=hk.locs.2;omega,h.loc25⟩
theorem GU.shs{x:zV}(hk:XX mt)(h:GU mt x):ShL x.Stack:=⟨by have:=h.stks;have:=hk.stack.2;omega,h.stk25⟩
theorem zCA(h:Xe l L)(hm:Xu L m)(hk:XX mt)(hl:ShL loc)(hs:ShL stk){n:Int}{g:Bool}:
  zgF L m c mt loc stk b n g=some ((ZS L mt loc stk n g).1,(ZS L mt loc stk n g).2.1,b||(ZS L mt loc stk n g).2.2):=by
 unfold zgF ZS;rw [zyu hk];simp only [Qa]
 cases hf:Ki mt n with
 |none=>rfl
 |some x =>
  have hx:=WD hk hf;simp only [Option.isNone_some,RF]
  have key:∀v:Bool,BL (some x) v=some (x.Locals,x.Stack,v):=λv=>by
   unfold BL;show (Ks x.Locals).bind _=_;rw [zvF (hx.shl hk).len];simp only [Qa];rw [zvF (hx.shs hk).len];rfl
  rw [zGp h hm hk hl hs]
  cases g with
  |true=>simp only [RT,Qa];rw [key];rfl
  |false=>simp only [RF];rw [key];simp
theorem XP.to{b':Bool}(h:XP l L m mt loc stk b):XP l L m mt loc stk b':=⟨h.made,h.map,h.lens,h.shL,h.shS,h.on,h.room,h.onL⟩
theorem zyq(h:XP l L m mt loc stk b)(hk:XX mt){n:Int}{g b':Bool}:XP l L m mt (ZS L mt loc stk n g).1 (ZS L mt loc stk n g).2.1 b':=by
 unfold ZS
 cases hf:Ki mt n with
 |none=>exact h.to
 |some x =>
  have hx:=WD hk hf;exact ⟨h.made,h.map,h.lens,hx.shl hk,hx.shs hk,λt ht=>((zFO (hx.stkT t ht).1).2).resolve_left (hx.stkT t ht).2,hx.stks,λt ht=>(zFO (hx.locT t ht)).2⟩
theorem zAx(hk:XX mt){t:zU}(ht:t∈mt.Traps):(G0 t).length≤25:=by
 unfold G0
 rcases hk.traps t ht with e |e
 .rw [e];decide
 .cases t.C == []
  .have:=zq1 e;show t.C.length≤25;omega
  .show IY.length≤25;decide
theorem zIb(h:Xe l L)(hm:Xu L m)(hk:XX mt)(hl:ShL loc){n:Int}:ze4 L m c mt loc stk b n=some (b||mt.Traps.any (Gr L mt loc n)):=by
 unfold ze4
 rw [On (body:=λz=>Is L m c mt loc stk n z.1 z.2) (l:=mt.Traps) (p:=Gr L mt loc n) (by have:=hk.ntraps;omega) (λi t b hi=>by
  have ht:=Qc hi;have hc:=zAx hk ht
  have key:∀v:Tx,v=G0 t->zdj L m c mt loc stk n b (i:Int) t v=some (.inl (b||Gr L mt loc n t,i64.wrap ((i:Int)+1))):=λv hv=>by
   unfold zdj ze9;rw [hv,Oe h hm hc (by show _≤_;decide)];simp only [Qa];rw [zHu h hm hk hl (sh1 hc)];unfold Gr IY;simp only [Qa];cases decide (t.From≤n)&&decide (n<t.To) <;> cases b <;> simp
  show Is L m c mt loc stk n b (i:Int)=_;unfold Is;rw [Xk hi,zo,hi];simp only [RT,Qa]
  cases he:t.C == [] with
  |true=>exact key _ (by unfold G0;rw [he];rfl)
  |false=>exact key _ (by unfold G0;rw [he];rfl)) (λb=>by
  show Is L m c mt loc stk n b (mt.Traps.length:Int)=_;unfold Is
  rw [Xm];rfl)]
 rfl
end
theorem zzE{α β:Type}(p:α->Bool)(g:α->β):∀l:List α,l.findSome? (λx=>cond (p x) (some (g x)) none)=(l.find? p).map g
 | []=>rfl
 |x ::l=>by
  rw [Q0,List.find?_cons]
  cases p x with
  |true=>rfl
  |false=>exact zzE p g l
section
variable {l L : List za} {m : List (Tx × Int)} {c : Tx} {mt : zb} {loc stk : List Tx} {b : Bool} {x : zs}
def zIJ(mt:zb)(n:Int):zV×Bool:=match Ki mt n with |some x=>(x,true) |none=>(zV.mk 0 [] [],false)
theorem zv7(hk:XX mt){n:Int}:Bl L c mt loc stk b n=some (zIJ mt n):=by
 have hl:=hk.nmaps;unfold Bl
 rw [show zk (λz=>Iu mt n z) 0=some (XE () (mt.Maps.findSome? (λx=>cond (x.At == n) (some (x,true)) none))) from Zk (λi x hx=>by
  have hi:=(Qb.1 hx).1;show Iu mt n (i:Int)=_;unfold Iu;rw [Xk hx,zo,hx,zz (by omega)];simp only [RT,Qa]
  cases x.At == n <;> rfl) (by
  show Iu mt n (mt.Maps.length:Int)=_;unfold Iu
  rw [Xm];rfl),zzE (λx:zV=>x.At == n)]
 unfold zIJ Ki;cases mt.Maps.find? (λx=>x.At == n) <;> rfl
theorem zEH(h:Xe l L){a b:List Tx}(ha:ShL a)(hb2:∀t∈b,t.length≤25):D4 L a b=some (KY L a b):=by
 unfold D4;by_cases hn:a.length=b.length
 .rw [show ((a.length:Int) == (b.length:Int))=true by rw [hn];exact beq_self_eq_true _]
  exact zzi (body:=λz=>Ie L a b z) ha.len hn (λi x y hx hy=>by
   show Ie L a b (i:Int)=_;have:=ha.2 x (Qc hx);have:=hb2 y (Qc hy);unfold Ie;rw [Xk hx,zo,zo,hx,hy];simp only [RT,Qa]
   rw [ON h (by omega) (by omega)];rfl) (by
   show Ie L a b (a.length:Int)=_;unfold Ie
   rw [Xm];rfl)
 .rw [RB.2 (show (a.length:Int)≠(b.length:Int) by omega),zB8 hn];rfl
theorem zCR(h:Xe l L)(hk:XX mt){p q:List Tx}(hp:ShL p)(hq:ShL q){n:Int}:Bs L c mt loc stk b n p q=some (b||!Kq L mt p q n):=by
 unfold Bs Kq;rw [zv7 hk];unfold zIJ
 cases hf:Ki mt n with
 |none=>rfl
 |some x =>
  have hx:=WD hk hf;simp only [Qa,RT];rw [zEH h hp hx.loc25,zEH h hq hx.stk25];cases KY L p x.Locals <;> rfl
theorem zHv(h:Xe l L)(hk:XX mt){p q:List Tx}(hp:ShL p)(hq:ShL q){n:Int}:zgE L c mt loc stk b n p q=some (b||!Kq L mt p q n):=by
 unfold zgE Kq;rw [zv7 hk];unfold zIJ
 cases hf:Ki mt n with
 |none=>rfl
 |some x =>
  have hx:=WD hk hf;simp only [Qa,RT];rw [zEH h hp hx.loc25,zEH h hq hx.stk25];cases KY L p x.Locals <;> rfl
theorem zIc(h:Xe l L)(hk:XX mt)(hl:ShL loc){n:Int}:D6 L c mt loc stk b n=some (b||mt.Traps.any (Gr L mt loc n)):=by
 unfold D6
 rw [On (body:=λz=>It L c mt loc stk n z.1 z.2) (l:=mt.Traps) (p:=Gr L mt loc n) (by have:=hk.ntraps;omega) (λi t b hi=>by
  have ht:=Qc hi;have hc:=zAx hk ht
  have key:∀v:Tx,v=G0 t->zeu L c mt loc stk n b (i:Int) t v=some (.inl (b||Gr L mt loc n t,i64.wrap ((i:Int)+1))):=λv hv=>by
   unfold zeu zgl;rw [hv,zvi h hc (by decide)];simp only [Qa];rw [zHv h hk hl (sh1 hc)];unfold Gr IY;simp only [Qa];cases decide (t.From≤n)&&decide (n<t.To) <;> cases b <;> simp
  show It L c mt loc stk n b (i:Int)=_;unfold It;rw [Xk hi,zo,hi];simp only [RT,Qa]
  cases he:t.C == [] with
  |true=>exact key _ (by unfold G0;rw [he];rfl)
  |false=>exact key _ (by unfold G0;rw [he];rfl)) (λb=>by
  show It L c mt loc stk n b (mt.Traps.length:Int)=_;unfold It
  rw [Xm];rfl)]
 rfl
theorem zq9{s:List Tx}{e:Bool}(h:XP l L m mt loc stk b)(hk:XX mt)(hp:zj L m c mt loc stk b x=some (loc,s,e))
  (hr:zn L c mt loc stk b x=(We L c mt loc x s e).bind λv=>some (loc,v.1,v.2)) (hs:s<+:stk) (he:b=true->e=true):
  ∃p r,zj L m c mt loc stk b x=some p/\zn L c mt loc stk b x=some r/\Zs mt.Stack (p.1,p.2.1,p.2.2||!Kq L mt p.1 p.2.1 x.A) r/\X5 loc stk b p:=by
 have hl:=hs.length_le;have hS:ShL s:=⟨by have:=h.shS.1;omega,λt ht=>h.shS.2 t (hs.subset ht)⟩;refine ⟨(loc,s,e),(loc,s,e||!Kq L mt loc s x.A),hp,?_,KP λ_=>by have:=h.room;show (s.length:Int)≤mt.Stack;omega,KQ he h.shL h.shS hs⟩;rw [hr];unfold We;rw [zCR h.made hk h.shL hS];rfl
theorem instr_test(ho:21≤x.Op/\x.Op≤36):zn L c mt loc stk b x=(Br L c mt loc stk b x).bind λv=>some (loc,v.1,v.2):=by
 unfold zn;rw [cf (by omega),ct ho];rfl
theorem zD1(h:XP l L m mt loc stk b)(hk:XX mt)(ho:20≤x.Op/\x.Op≤36):
  ∃p r,zj L m c mt loc stk b x=some p/\zn L c mt loc stk b x=some r/\Zs mt.Stack (p.1,p.2.1,p.2.2||!Kq L mt p.1 p.2.1 x.A) r/\X5 loc stk b p:=by
 by_cases h0:x.Op=20
 .refine zq9 (s:=stk) (e:=b) h hk (zDf h0) ?_ (QT _) id;unfold zn We;rw [cf (by omega),cf (by omega),qt h0];simp only [RF,RT];rw [zCR h.made hk h.shL h.shS];rfl
 by_cases h1:x.Op≤26
 .refine zq9 (s:=(Xp L [84] [[73]] stk b).1) (e:=(Xp L [84] [[73]] stk b).2) h hk (zDg h ⟨by omega,h1⟩) ?_ (UD _ _ _ _ _) (ZG _ _ _);rw [instr_test ⟨by omega,ho.2⟩];unfold Br;rw [RD h1];simp only [RT];rw [Ul h.made (sh1 Ux.1) h.shS,ZZ [78] [84]];rfl
 by_cases h2:x.Op≤32
 .refine zq9 (s:=(Xp L [84] [[73],[73]] stk b).1) (e:=(Xp L [84] [[73],[73]] stk b).2) h hk (zDh h ⟨by omega,h2⟩) ?_ (UD _ _ _ _ _) (ZG _ _ _);rw [instr_test ⟨by omega,ho.2⟩];unfold Br;rw [RE h1,RD h2];simp only [RT,RF];rw [Ul h.made (sh2 Ux.1 Ux.1) h.shS,ZZ [78] [84]];rfl
 have e2:=(zry (b:=b) h.on).1;by_cases h3:x.Op≤34
 .refine zq9 (s:=(XB [84] stk b).2.1) (e:=(XB [84] stk b).2.2) h hk (zDi h ⟨by omega,h3⟩) ?_ (WQ _ _ _) Oq;rw [instr_test ⟨by omega,ho.2⟩];unfold Br;rw [RE h1,RE h2,RD h3];simp only [RT,RF];rw [WN h.shS];simp only [Qa];rw [e2]
 .refine zq9 (s:=(XB [84] (XB [84] stk b).2.1 (XB [84] stk b).2.2).2.1) (e:=(XB [84] (XB [84] stk b).2.1 (XB [84] stk b).2.2).2.2) h hk (zDj h ⟨by omega,ho.2⟩) ?_ ((WQ _ _ _).trans (WQ _ _ _)) (λe=>Oq (Oq e));rw [instr_test ⟨by omega,ho.2⟩];unfold Br;rw [RE h1,RE h2,RE h3];simp only [RF];rw [WN h.shS];simp only [Qa];rw [e2,WN (zwy h.shS (by decide)).2];simp only [Qa];rw [(zry λt ht=>h.on t ((WQ _ _ _).subset ht)).1]
end
section
variable {l L : List za} {m : List (Tx × Int)} {c : Tx} {mt : zb} {loc stk : List Tx} {b : Bool} {x : zs}
theorem instr_field(ho:37≤x.Op/\x.Op≤41):zn L c mt loc stk b x=(Bm L c mt loc stk b x).bind λv=>some (loc,v.1,v.2):=by
 unfold zn;rw [cf (by omega),cf (by omega),qf (show x.Op≠20 by omega),ct ho];rfl
def Wi(L:List za)(C:Tx):Bool:=match cl L C with |some y=>!y.Interface |none=>false
theorem zFY(h:XP l L m mt loc stk b)(ho:x.Op=37)(hC:x.C.length≤25):
  ∃p r,zj L m c mt loc stk b x=some p/\zn L c mt loc stk b x=some r/\Zs mt.Stack p r/\X5 loc stk b p:=by
 have h26:=h.made.len
 have hP:zj L m c mt loc stk b x=some (loc,stk++[x.C],b||!Wi L x.C):=by
  rw [zxx (by omega)];unfold ze3 Wi;rw [qt ho];simp only [RT];rw [Ke h.map];simp only [Qa];rw [ZX h.shS.len];cases cl L x.C <;> rfl
 have hK:X5 loc stk b (loc,stk++[x.C],b||!Wi L x.C):=Um (λe=>by rw [e];rfl) h.shL h.shS (QT _) hC λhb=>.inr (by
  simp only [Qn,Q6] at hb;have hn:=hb.2;unfold Wi at hn
  cases hc:cl L x.C with
  |none=>rw [hc] at hn;cases hn
  |some y=>exact IO (WW (W2 h.made (ZB hc))) hC)
 cases hc:cl L x.C with
 |none =>
  have e:Wi L x.C=false:=by unfold Wi;rw [hc]
  refine ⟨_,(loc,stk,true),hP,?_,Kv (by rw [e];simp) rfl,hK⟩;rw [instr_field (by omega)];unfold Bm;rw [Zb (by omega)];simp only [Qa];rw [Gz,HH hc];rfl
 |some y =>
  have e:Wi L x.C=!y.Interface:=by unfold Wi;rw [hc]
  refine ⟨_,_,hP,?_,UB _,hK⟩
  .rw [instr_field (by omega)];unfold Bm;rw [Zb (by omega)];simp only [Qa];rw [Gz,ZB hc,qt ho];simp only [Qr,RF,RT];rw [U6,hc];simp only [Qa];rw [ZW h.shS.len,<-e];rfl
theorem ztx{b0:Bool}{ts:List Tx}(hb:b0=true->b=true)(hl:ShL loc)(hs:ShL stk):X5 loc stk b0 (loc,Xp L [84] ts stk b):=
 KQ (s:=(Xp L [84] ts stk b).1) (b:=(Xp L [84] ts stk b).2) (λe=>ZG _ _ _ (hb e)) hl hs (UD _ _ _ _ _)
def Z3(L:List za)(b:Bool)(x:zs):Bool:=b||!((X4 L x.C x.M).2.2&&((X4 L x.C x.M).2.1.Static == ((x.Op == (40:Int))||(x.Op == (41:Int)))))
def Kk(L:List za)(stk:List Tx)(b:Bool)(x:zs):List Tx×Bool:=
 cond (x.Op == 38) ((Xp L [84] [x.C] stk (Z3 L b x)).1++[(X4 L x.C x.M).2.1.Type_],(Xp L [84] [x.C] stk (Z3 L b x)).2)
  (cond (x.Op == 39) (Xp L [84] [(X4 L x.C x.M).2.1.Type_,x.C] stk (Z3 L b x))
   (cond (x.Op == 40) (stk++[(X4 L x.C x.M).2.1.Type_],Z3 L b x) (Xp L [84] [(X4 L x.C x.M).2.1.Type_] stk (Z3 L b x))))
theorem I6(h:XP l L m mt loc stk b)(ho:38≤x.Op/\x.Op≤41)(hC:x.C.length≤25):zj L m c mt loc stk b x=some (loc,Kk L stk b x):=by
 have hT:=(zCJ h.made x.C x.M).1;rw [zxx (by omega)];unfold ze3 Kk;rw [qf (show x.Op≠37 by omega),zvK h.made h.map h.lens];simp only [RF,Qa];rw [show (((Xn L x.C).findSome? (UI L x.M)).getD ([],zF,false))=X4 L x.C x.M from rfl];rw [show (b||!((X4 L x.C x.M).2.2&&((X4 L x.C x.M).2.1.Static == ((x.Op == (40:Int))||(x.Op == (41:Int))))))=Z3 L b x from rfl];rw [Ub h.made h.map (sh1 hC) h.shS,Ub h.made h.map (sh2 hC hT) h.shS,Ub h.made h.map (sh1 hT) h.shS,ZX h.shS.len];simp only [Qa,QA];rw [ZX (Uc (by decide) _ _ _ h.shS).len];cases x.Op == 38 <;> cases x.Op == 39 <;> cases x.Op == 40 <;> rfl
theorem zEY(hb:Z3 L b x=true):(Kk L stk b x).2=true:=by
 unfold Kk
 cases x.Op == 38 <;> cases x.Op == 39 <;> cases x.Op == 40 <;> first |exact ZG _ _ _ hb |exact hb
theorem zoE(h:XP l L m mt loc stk b)(hC:x.C.length≤25):X5 loc stk b (loc,Kk L stk b x):=by
 obtain ⟨hT,hM⟩:=zCJ h.made x.C x.M
 have hb0:b=true->Z3 L b x=true:=λe=>by unfold Z3;rw [e];rfl
 have hF:Z3 L b x=false->Dm (X4 L x.C x.M).2.1.Type_:=λe=>by
  unfold Z3 at e;simp only [Qn,Q6,Qd] at e;exact IO (hM e.2.1) hT
 have ht:∀{ts:List Tx},(Xp L [84] ts stk (Z3 L b x)).2=false->Z3 L b x=false:=λ{ts} e=>by
  cases hq:Z3 L b x with
  |false=>rfl
  |true=>rw [ZG _ _ _ hq] at e;cases e
 unfold Kk
 cases x.Op == 38 with
 |true=>exact Um (λe=>ZG _ _ _ (hb0 e)) h.shL h.shS (UD _ _ _ _ _) hT λe=>.inr (hF (ht e))
 |false =>
  cases x.Op == 39 with
  |true=>exact ztx hb0 h.shL h.shS
  |false =>
   cases x.Op == 40 with
   |true=>exact Um hb0 h.shL h.shS (QT _) hT λe=>.inr (hF e)
   |false=>exact ztx hb0 h.shL h.shS
theorem zBJ(h:XP l L m mt loc stk b)(ho:38≤x.Op/\x.Op≤41)(hC:x.C.length≤25):
  ∃p r,zj L m c mt loc stk b x=some p/\zn L c mt loc stk b x=some r/\Zs mt.Stack p r/\X5 loc stk b p:=by
 have h26:=h.made.len;have hT:=(zCJ h.made x.C x.M).1
 have hD:Bm L c mt loc stk b x=cond (!Xj L x.C) (some (stk,true)) (cond (Z3 L b x) (some (stk,Z3 L b x))
   (cond ((x.Op == (39:Int))||(x.Op == (41:Int))) ((z6 L c mt loc stk (Z3 L b x) [(X4 L x.C x.M).2.1.Type_]).bind λv12=>Da L c mt loc x (X4 L x.C x.M) v12.1 v12.2) (Da L c mt loc x (X4 L x.C x.M) stk (Z3 L b x)))):=by
  unfold Bm;rw [Zb (by omega)];simp only [Qa];rw [Gz,qf (show x.Op≠37 by omega),zsB h.made h.lens];rfl
 cases hb:Z3 L b x with
 |true =>
  refine ⟨_,(loc,stk,true),I6 (c:=c) h ho hC,?_,Kv (zEY hb) rfl,zoE h hC⟩;rw [instr_field (by omega),hD,hb];cases Xj L x.C <;> rfl
 |false =>
  have hn:Xj L x.C=true:=by
   cases hq:Xj L x.C with
   |true=>rfl
   |false =>
    have:X4 L x.C x.M=([],zF,false):=by unfold X4;rw [DH hq];rfl
    unfold Z3 at hb;rw [this] at hb;simp at hb
  rw [hn,hb] at hD;simp only [Qr,RF] at hD;have hr:=h.room;have hl1:=DE (L:=L) [84] [x.C] stk false;have hl2:=DE (L:=L) [84] [(X4 L x.C x.M).2.1.Type_,x.C] stk false;have hl3:=DE (L:=L) [84] [(X4 L x.C x.M).2.1.Type_] stk false;have hs3:=Uc (L:=L) (e:=[84]) (by decide) [(X4 L x.C x.M).2.1.Type_] stk false h.shS
  have ho4:x.Op=38∨x.Op=39∨x.Op=40∨x.Op=41:=by omega
  rcases ho4 with h4 |h4 |h4 |h4
  .have e:Kk L stk b x=((Xp L [84] [x.C] stk false).1++[(X4 L x.C x.M).2.1.Type_],(Xp L [84] [x.C] stk false).2):=by unfold Kk;rw [hb,qt h4];rfl
   have hO:=I6 (c:=c) h ho hC;have hK:=zoE (x:=x) h hC;rw [e] at hO hK;refine ⟨_,_,hO,?_,UB _,hK⟩
   .rw [instr_field (by omega),hD];unfold Da BO;rw [qf (show x.Op≠39 by omega),qf (show x.Op≠41 by omega),qt h4];simp only [Q2,Bool.true_or,RF,RT];rw [Ul h.made (sh1 hC) h.shS,ZZ [78] [84]];simp only [Qa,QA];rw [ZW (Uc (by decide) _ _ _ h.shS).len];rfl
  .have e:Kk L stk b x=Xp L [84] [(X4 L x.C x.M).2.1.Type_,x.C] stk false:=by unfold Kk;rw [hb,qf (show x.Op≠38 by omega),qt h4];rfl
   refine ⟨_,(loc,Xp L [84] [(X4 L x.C x.M).2.1.Type_,x.C] stk false),I6 (c:=c) h ho hC,?_,?_,zoE (x:=x) h hC⟩
   .rw [instr_field (by omega),hD];unfold Da BO;rw [qf (show x.Op≠38 by omega),qf (show x.Op≠40 by omega),qt h4];simp only [Q2,Bool.true_or,Jr,RF,RT];rw [Ul h.made (sh1 hT) h.shS,ZZ [78] [84]];simp only [Qa,QA];rw [Ul h.made (sh1 hC) hs3,ZZ [78] [84]];rfl
   .rw [e];exact KP λ_=>by show ((Xp L [84] [(X4 L x.C x.M).2.1.Type_,x.C] stk false).1.length:Int)≤mt.Stack;omega
  .have e:Kk L stk b x=(stk++[(X4 L x.C x.M).2.1.Type_],false):=by unfold Kk;rw [hb,qf (show x.Op≠38 by omega),qf (show x.Op≠39 by omega),qt h4];rfl
   have hO:=I6 (c:=c) h ho hC;have hK:=zoE (x:=x) h hC;rw [e] at hO hK;refine ⟨_,_,hO,?_,UB _,hK⟩
   .rw [instr_field (by omega),hD];unfold Da BO;rw [qf (show x.Op≠38 by omega),qf (show x.Op≠39 by omega),qf (show x.Op≠41 by omega),qt h4];simp only [Q2,Jr,RF,RT];rw [ZW h.shS.len];rfl
  .have e:Kk L stk b x=Xp L [84] [(X4 L x.C x.M).2.1.Type_] stk false:=by unfold Kk;rw [hb,qf (show x.Op≠38 by omega),qf (show x.Op≠39 by omega),qf (show x.Op≠40 by omega)];rfl
   refine ⟨_,(loc,Xp L [84] [(X4 L x.C x.M).2.1.Type_] stk false),I6 (c:=c) h ho hC,?_,?_,zoE (x:=x) h hC⟩
   .rw [instr_field (by omega),hD];unfold Da BO;rw [qf (show x.Op≠38 by omega),qf (show x.Op≠39 by omega),qf (show x.Op≠40 by omega),qt h4];simp only [Q2,Jr,RF,RT];rw [Ul h.made (sh1 hT) h.shS,ZZ [78] [84]];rfl
   .rw [e];exact KP λ_=>by show ((Xp L [84] [(X4 L x.C x.M).2.1.Type_] stk false).1.length:Int)≤mt.Stack;omega
end
section
variable {l L : List za} {m : List (Tx × Int)} {c : Tx} {mt : zb} {loc stk : List Tx} {b : Bool} {x : zs}
theorem instr_call(ho:42≤x.Op/\x.Op≤45):zn L c mt loc stk b x=(EB L c mt loc stk b x).bind λv=>some (loc,v.1,v.2):=by
 unfold zn;rw [cf (by omega),cf (by omega),qf (show x.Op≠20 by omega),cf (by omega),ct ho];rfl
def Df(t:Tx)(p:List Tx×Bool):List Tx×Bool:=cond (!(t == [86])) (p.1++[t],p.2) p
def KV(L:List za)(c:Tx)(x:zs)(s:Tx)(p:List Tx×Bool):List Tx×Bool:=
 cond ((x.Op == 43)||(x.Op == 45)) (Xp L [84] [x.C] p.1 p.2)
  (cond (x.Op == 44) ((Xg [84] p.1 p.2).2.1,(Xg [84] p.1 p.2).2.2||!(X9 L (Xg [84] p.1 p.2).1 x.C&&(X9 L (Xg [84] p.1 p.2).1 c&&(Xn L c).any (λy=>s == y)))) p)
def HA(L:List za)(c:Tx)(stk:List Tx)(b:Bool)(x:zs)(s:Tx)(f:zb)(ok:Bool):List Tx×Bool:=
 Df f.Ret (KV L c x s (Xp L [84] f.Params.reverse stk (b||!(ok&&(f.Static == (x.Op == (42:Int)))))))
theorem zz2(c:Tx)(x:zs)(s:Tx)(p:List Tx×Bool):(KV L c x s p).1<+:p.1:=by
 unfold KV
 cases (x.Op == 43)||(x.Op == 45) with
 |true=>exact UD _ _ _ _ _
 |false =>
  cases x.Op == 44 with
  |true=>exact Gb _ _ _
  |false=>exact QT _
theorem zwh{c:Tx}{x:zs}{s:Tx}{p:List Tx×Bool}(h:p.2=true):(KV L c x s p).2=true:=by
 unfold KV
 cases (x.Op == 43)||(x.Op == 45) with
 |true=>exact ZG _ _ _ h
 |false =>
  cases x.Op == 44 with
  |true=>show ((Xg [84] p.1 p.2).2.2||_)=true;rw [Gc h];rfl
  |false=>exact h
theorem zAM(h:XP l L m mt loc stk b){s:Tx}{f:zb}{ok:Bool}(hR:f.Ret.length≤25)(hM:ok=true->Z2 f.Ret=true):X5 loc stk b (loc,HA L c stk b x s f ok):=by
 have hp:=(zz2 (L:=L) c x s (Xp L [84] f.Params.reverse stk (b||!(ok&&(f.Static == (x.Op == (42:Int))))))).trans (UD _ _ _ _ _);have hb:b=true->(KV L c x s (Xp L [84] f.Params.reverse stk (b||!(ok&&(f.Static == (x.Op == (42:Int))))))).2=true:=λe=>zwh (ZG _ _ _ (by rw [e];rfl));unfold HA Df
 cases hv:f.Ret == [86] with
 |true=>exact KQ hb h.shL h.shS hp
 |false =>
  refine Um hb h.shL h.shS hp hR λe=>.inr ?_
  have:ok=true:=by
   cases ok with
   |true=>rfl
   |false =>
    rw [zwh (ZG _ _ _ (by simp))] at e;cases e
  have hr:=hM this;unfold Z2 at hr;rw [hv] at hr;exact IO (by simpa using hr) hR
theorem zDs{f:zb}(h1:∀s∈f.Params,Xq s=true)(h2:f.Params.length≤6):ShL f.Params:=⟨by omega,λs hs=>KJ (h1 s hs)⟩
theorem zFc{f:zb}{s:List Tx}{e:Bool}(hs:s.length≤1000):Wd L m c mt loc f s e=some (Df f.Ret (s,e)):=by
 unfold Wd Df;rw [ZX hs];cases f.Ret == [86] <;> rfl
theorem zG8(h:XP l L m mt loc stk b)(ho:42≤x.Op/\x.Op≤45)(hC:x.C.length≤25)(hc:c.length≤25){s:Tx}{f:zb}{ok:Bool}(h1:∀s∈f.Params,Xq s=true)(h2:f.Params.length≤6):
  Ir L m c mt loc stk b x s f ok=some (HA L c stk b x s f ok):=by
 have h26:=Z7 h.made c;unfold Ir HA;rw [Ub h.made h.map (zDs h1 h2) h.shS];simp only [Qa]
 generalize hq:Xp L [84] f.Params.reverse stk (b||!(ok&&(f.Static == (x.Op == (42:Int)))))=q
 have hs:ShL q.1:=by rw [<-hq];exact Uc (by decide) _ _ _ h.shS
 obtain ⟨g1,g2⟩:=ZK (b:=q.2) hs (e:=[84]) (by decide)
 have hT:∀v:Bool,v=true->BD L m c mt loc x s f q v=some (Df f.Ret (Xp L [84] [x.C] q.1 q.2)):=λv hv=>by
  unfold BD;rw [hv];simp only [RT];rw [Ub h.made h.map (sh1 hC) hs];simp only [Qa,QA];rw [zFc (Uc (by decide) _ _ _ hs).len]
 have ho4:x.Op=42∨x.Op=43∨x.Op=44∨x.Op=45:=by omega
 unfold KV
 rcases ho4 with h4 |h4 |h4 |h4
 .rw [qf (show x.Op≠43 by omega),qf (show x.Op≠45 by omega),qf (show x.Op≠44 by omega)];simp only [RF,Q2];unfold BD;rw [qf (show x.Op≠44 by omega)];simp only [RF];exact zFc hs.len
 .rw [qt h4];simp only [RT,Bool.true_or];exact hT _ rfl
 .rw [qf (show x.Op≠43 by omega),qf (show x.Op≠45 by omega),qt h4];simp only [RF,Q2,RT];unfold BD;rw [qt h4];simp only [RF,RT];rw [G7 hs.len];simp only [Qa];rw [zsU h.made h.map g1 hC,zsU h.made h.map g1 hc,DG h.made h.map];simp only [Qa];rw [zsV (by omega)];simp only [Qa];rw [zFc g2.len,zFc g2.len];cases X9 L (Xg [84] q.1 q.2).1 x.C <;> cases X9 L (Xg [84] q.1 q.2).1 c <;> rfl
 .rw [qf (show x.Op≠43 by omega),qt h4];simp only [RF,RT,Jr];exact hT _ rfl
theorem zEK(T:List Tx)(s:Tx):(T.any λy=>s == y)=T.any λy=>y == s:=by
 congr 1;funext y;rw [QK,beq_iff_eq,beq_iff_eq];exact eq_comm
theorem zIt(h:XP l L m mt loc stk false)(ho:42≤x.Op/\x.Op≤45)(hC:x.C.length≤25)(hc:c.length≤25){s:Tx}{f:zb}(h1:∀s∈f.Params,Xq s=true)(h2:f.Params.length≤6):
  H5 L c mt loc stk false x f s true=Wg L c mt loc f (KV L c x s (Xp L [84] f.Params.reverse stk false)).1 (KV L c x s (Xp L [84] f.Params.reverse stk false)).2:=by
 have h26:=Z7 h.made c;unfold H5;simp only [Qr,Q2,RF];rw [Ul h.made (zDs h1 h2) h.shS,ZZ [78] [84]];simp only [Qa];generalize hq:Xp L [84] f.Params.reverse stk false=q
 have hs:ShL q.1:=by rw [<-hq];exact Uc (by decide) _ _ _ h.shS
 obtain ⟨g1,g2⟩:=ZK (b:=q.2) hs (e:=[78]) (by decide)
 have ho4:x.Op=42∨x.Op=43∨x.Op=44∨x.Op=45:=by omega
 unfold KV;rw [GD hs.len];simp only [Qa];rw [ON h.made g1 hC,ON h.made g1 hc,HZ h.made];simp only [Qa];rw [zpD (by omega)];simp only [Qa]
 rcases ho4 with h4 |h4 |h4 |h4
 .rw [qt h4,qf (show x.Op≠43 by omega),qf (show x.Op≠45 by omega),qf (show x.Op≠44 by omega)];rfl
 .rw [qt h4,qf (show x.Op≠42 by omega),qf (show x.Op≠44 by omega),ZZ [84] [78]];rfl
 .rw [qt h4,qf (show x.Op≠42 by omega),qf (show x.Op≠43 by omega),qf (show x.Op≠45 by omega)];simp only [QH,RT,RF,Q2];have e2:=KI [84] [78] q.1 q.2;rw [zEK,e2]
  have e3:((Xg [78] q.1 q.2).2.2||!(X9 L (Xg [84] q.1 q.2).1 x.C&&(X9 L (Xg [84] q.1 q.2).1 c&&(Xn L c).any (λy=>y == s))))=((Xg [78] q.1 q.2).2.2||!(X9 L (Xg [78] q.1 q.2).1 x.C&&(X9 L (Xg [78] q.1 q.2).1 c&&(Xn L c).any (λy=>y == s)))):=
   I5 λe=>by rw [GJ [78] [84] q.1 q.2 e]
  rw [e3];cases X9 L (Xg [78] q.1 q.2).1 x.C <;> cases X9 L (Xg [78] q.1 q.2).1 c <;> cases (Xn L c).any (λy=>y == s) <;> simp
 .rw [qt h4,qf (show x.Op≠42 by omega),qf (show x.Op≠43 by omega),qf (show x.Op≠44 by omega),ZZ [84] [78]];rfl
theorem zzr(h:XP l L m mt loc stk b)(ho:42≤x.Op/\x.Op≤45)(hC:x.C.length≤25)(hc:c.length≤25){s:Tx}{f:zb}{ok:Bool}(h1:∀s∈f.Params,Xq s=true)(h2:f.Params.length≤6)(h3:f.Ret.length≤25)(h4:ok=true->Z2 f.Ret=true)
  (hP:Im L m c mt loc stk b x=Ir L m c mt loc stk b x s f ok) (hD:EB L c mt loc stk b x=H5 L c mt loc stk b x f s (ok&&(f.Static == (x.Op == (42:Int))))):
  ∃p r,zj L m c mt loc stk b x=some p/\zn L c mt loc stk b x=some r/\Zs mt.Stack p r/\X5 loc stk b p:=by
 have hO:zj L m c mt loc stk b x=some (loc,HA L c stk b x s f ok):=by
  rw [zFs ho,hP,zG8 h ho hC hc h1 h2];rfl
 have hK:=zAM (c:=c) (x:=x) (s:=s) h h3 h4
 cases hb:(b||!(ok&&(f.Static == (x.Op == (42:Int))))) with
 |true =>
  refine ⟨_,(loc,stk,true),hO,?_,Kv ?_ rfl,hK⟩
  .rw [instr_call ho,hD];unfold H5;rw [hb];rfl
  .show (HA L c stk b x s f ok).2=true;have:(KV L c x s (Xp L [84] f.Params.reverse stk (b||!(ok&&(f.Static == (x.Op == (42:Int))))))).2=true:=zwh (ZG _ _ _ hb);unfold HA Df;cases f.Ret == [86] <;> exact this
 |false =>
  have hb1:b=false:=by simp only [Qn] at hb;exact hb.1
  have hb2:(ok&&(f.Static == (x.Op == (42:Int))))=true:=by simp only [Qn,Q6] at hb;exact hb.2
  subst hb1;rw [hb2,zIt h ho hC hc h1 h2] at hD;have hl:=(zz2 (L:=L) c x s (Xp L [84] f.Params.reverse stk false)).length_le;have hl2:=DE (L:=L) [84] f.Params.reverse stk false;have hr:=h.room;have hsh:=h.shS.1
  have eK:HA L c stk false x s f ok=Df f.Ret (KV L c x s (Xp L [84] f.Params.reverse stk false)):=by unfold HA;rw [hb]
  generalize KV L c x s (Xp L [84] f.Params.reverse stk false)=q at hD hl eK
  cases hv:f.Ret == [86] with
  |true =>
   refine ⟨_,(loc,q.1,q.2),hO,?_,?_,hK⟩
   .rw [instr_call ho,hD];unfold Wg;rw [hv];rfl
   .rw [eK];unfold Df;rw [hv]
    exact KP λ_=>by omega
  |false =>
   rw [eK] at hO hK;unfold Df at hO hK;rw [hv] at hO hK;refine ⟨_,_,hO,?_,UB _,hK⟩;rw [instr_call ho,hD];unfold Wg;rw [hv];simp only [QH,RT];rw [ZW (by omega)];rfl
theorem zDZ(h:XP l L m mt loc stk b)(ho:42≤x.Op/\x.Op≤45)(hC:x.C.length≤25)(hc:c.length≤25):
  ∃p r,zj L m c mt loc stk b x=some p/\zn L c mt loc stk b x=some r/\Zs mt.Stack p r/\X5 loc stk b p:=by
 by_cases h5:x.Op=45
 .obtain ⟨⟨k1,k2,k3,k4⟩,k5⟩:=zHO h.made x.C x.M;refine zzr (s:=(KH L x.C x.M).1) (f:=(KH L x.C x.M).2.1) (ok:=(KH L x.C x.M).2.2) h ho hC hc k1 k2 k3 k4 ?_ ?_
  .unfold Im;rw [zrg h.made h.map h.lens,qt h5,zCC h.made h.map h.lens];rfl
  .unfold EB;rw [qt h5,zt6 h.made h.lens,qf (show x.Op≠42 by omega)];show H5 L c mt loc stk b x _ _ _=_;congr 1
   cases hq:(KH L x.C x.M).2.2 with
   |false=>rfl
   |true=>rw [k5 hq];rfl
 .obtain ⟨k1,k2,k3,k4⟩:=zC6 h.made UF x.M (Xn L x.C);generalize hR:((Xn L x.C).findSome? (Za L UF x.M)).getD ([],zM,false)=R at k1 k2 k3 k4;refine zzr (s:=R.1) (f:=R.2.1) (ok:=R.2.2&&!R.2.1.Abstract) h ho hC hc k1 k2 k3 (λe=>k4 (by rw [Qd] at e;exact e.1)) ?_ ?_
  .unfold Im;rw [zrg h.made h.map h.lens,qf h5,hR];rfl
  .unfold EB;rw [qf h5,znM h.made h.lens,hR];show H5 L c mt loc stk b x _ _ _=_;congr 1;cases R.2.2 <;> cases R.2.1.Abstract <;> cases R.2.1.Static == (x.Op == (42:Int)) <;> rfl
end
section
variable {l L : List za} {m : List (Tx × Int)} {c : Tx} {mt : zb} {loc stk : List Tx} {b : Bool} {x : zs}
theorem instr_arrays(ho:49≤x.Op/\x.Op≤55):zn L c mt loc stk b x=(Hr L c mt loc stk b x).bind λv=>some (loc,v.1,v.2):=by
 unfold zn;rw [cf (by omega),cf (by omega),qf (show x.Op≠20 by omega),cf (by omega),cf (by omega),ct ho];rfl
def Z5(C:Tx):Tx:=cond (Xq (91 ::C)) (91 ::C) []
theorem zHK{C:Tx}(h:Xq (91 ::C)=true):Xq C=true:=by
 have e:XT (91 ::C)=C:=by rw [HQ,if_pos rfl]
 unfold Xq at h ⊢;rw [e] at h
 have hb:brk (XT C)=false:=by
  rw [Qt] at h
  rcases h with h |h
  .have:XT C=[73]:=by simpa using h
   rw [this];rfl
  .exact WX h
 rw [Oo hb];exact h
theorem zra{C:Tx}(h:C.length≤1000):zmN C=some (Z5 C):=by
 unfold zmN Z5
 have hl:Len C:=by show C.length≤9223372036854775807;omega
 have hl2:Len (91 ::C):=by show (91 ::C).length≤9223372036854775807;simp;omega
 rw [W6 hl,ZC (by simp;omega)];simp only [Qa,JZ];rw [W6 hl2]
 cases h1:Xq (91 ::C) with
 |true=>rw [zHK h1];rfl
 |false=>cases Xq C <;> rfl
theorem zro{C:Tx}(h:C.length≤1000):zmW C=some (Z5 C):=by
 unfold zmW Z5
 have hl2:Len (91 ::C):=by show (91 ::C).length≤9223372036854775807;simp;omega
 rw [ZC (by simp;omega)];simp only [Qa,JZ];rw [HS hl2];cases Xq (91 ::C) <;> rfl
theorem zCh(x:UInt8):((x.toNat:Int) == (91:Int))=(x == 91):=by
 rw [QK,beq_iff_eq,beq_iff_eq];constructor
 .intro h;exact JO.1 (by simpa using (Yq.1 h))
 .intro h;rw [h];rfl
theorem zxD{s:Tx}(h:Len s):zrp s=some (XH s):=by
 unfold zrp XH;rw [HS h]
 cases hm:Xq s with
 |false=>rfl
 |true =>
  cases s with
  |nil =>
   exfalso;unfold Xq at hm;rw [show XT (XT [])=[] from rfl] at hm;simp at hm;exact OA hm rfl
  |cons x r =>
   simp only [Qa,Qr,RF,QC];rw [Hd];simp only [Q1,Qa,zCh];rw [show (1:Int)=((1:Nat):Int) from rfl,GI (by simp)];show cond (!(x == 91)) _ _=some (cond (x == 91) _ _);cases x == 91 <;> rfl
theorem zxC(hs:ShL stk):zgi L c mt loc stk b=some (XS [78] stk b):=by
 unfold zgi XS;obtain ⟨h1,h2⟩:=ZK (b:=b) hs (e:=[78]) (by decide);rw [GD hs.len];simp only [Qa];rw [zxD (Wx h1)]
 cases hq:(Xg [78] stk b).1 == [78] with
 |true =>
  have e:(Xg [78] stk b).1=[78]:=by simpa using hq
  rw [e];simp
 |false=>rfl
def Iz(t:Tx):Bool:=(t == [78])||(decide (1<(t.length:Int))&&brk t)
theorem zHE(t:Tx):((cond (t == [78]) (some true) ((cond (decide (1<(List.length t:Int))) ((idx t 0).bind λv16=>some ((v16.toNat:Int) == (91:Int))) (some false)).bind λv17=>some v17)):Option Bool)=some (Iz t):=by
 unfold Iz
 cases t == [78] with
 |true=>rfl
 |false =>
  cases t with
  |nil=>rfl
  |cons x r =>
   rw [Hd];simp only [Q1,Qa,zCh];show ((cond (decide (1<(List.length (x ::r):Int))) (some (x == 91)) (some false)).bind λv17=>some v17)=some (false||(decide (1<(List.length (x ::r):Int))&&(x == 91)));cases decide (1<(List.length (x ::r):Int)) <;> rfl
theorem zII{t:Tx}(h:onS t):Iz t=((XH t).2||(t == [78])):=by
 rcases h with rfl |h
 .unfold Iz;rw [beq_self_eq_true];simp
 .unfold Iz XH;rw [h]
  cases hb:brk t with
  |false=>simp
  |true =>
   have h1:=(zre h hb).1
   have h2:t.drop 1≠[]:=λe=>by
    rw [e] at h1;unfold Xq at h1;rw [show XT (XT [])=[] from rfl] at h1;simp at h1;exact OA h1 rfl
   have h3:1<t.length:=by
    have:0<(t.drop 1).length:=List.length_pos_iff.2 h2;simp at this;omega
   rw [RD (show 1<(t.length:Int) by omega)];simp
def thA(L:List za)(C:Tx):Bool:=Xq (91 ::C)&&thN L (91 ::C)
theorem zGK(C:Tx)(T:Tx->Bool)(h:Xq (91 ::C)=true->T (91 ::C)=thN L (91 ::C)):(cond (!(Z5 C == [])) (some (T (Z5 C))) (some false))=some (thA L C):=by
 unfold Z5 thA
 cases hm:Xq (91 ::C) with
 |true =>
  rw [<-h hm];rfl
 |false=>rfl
theorem zDX(h:XP l L m mt loc stk b)(ho:x.Op=49∨x.Op=50∨x.Op=52∨x.Op=53)(hC:x.C.length≤10):
  ∃p r,zj L m c mt loc stk b x=some p/\zn L c mt loc stk b x=some r/\Zs mt.Stack p r/\X5 loc stk b p:=by
 have hI:=Ux.1
 have hA:([91,73]:Tx).length≤25:=by decide
 have hr:=h.room
 rcases ho with h4 |h4 |h4 |h4
 .refine ⟨(loc,(Xp L [84] [[73]] stk b).1++[[91,73]],(Xp L [84] [[73]] stk b).2),_,?_,?_,UB _,Um (ZG _ _ _) h.shL h.shS (UD _ _ _ _ _) hA λ_=>.inr ⟨hA,.inr (by decide +kernel)⟩⟩
  .rw [W0 (by omega)];unfold Hp;rw [qt h4];simp only [RT];rw [Ub h.made h.map (sh1 hI) h.shS];simp only [Qa,QA];rw [ZX (Uc (by decide) _ _ _ h.shS).len];rfl
  .rw [instr_arrays (by omega)];unfold Hr;rw [qt h4];simp only [RT];rw [Ul h.made (sh1 hI) h.shS,ZZ [78] [84]];simp only [Qa,QA];rw [ZW (Uc (by decide) _ _ _ h.shS).len];rfl
 .have hT:(Z5 x.C).length≤25:=by
   unfold Z5;cases Xq (91 ::x.C)
   .exact Qo _
   .show (91 ::x.C).length≤25;simp;omega
  refine ⟨(loc,(Xp L [84] [[73]] stk (b||!thA L x.C)).1++[Z5 x.C],(Xp L [84] [[73]] stk (b||!thA L x.C)).2),_,?_,?_,UB _,Um (λe=>ZG _ _ _ (by rw [e];rfl)) h.shL h.shS (UD _ _ _ _ _) hT λe=>.inr ?_⟩
  .rw [W0 (by omega)];unfold Hp;rw [qf (show x.Op≠49 by omega),qt h4];simp only [RT,RF];rw [zra (by omega)];simp only [Qa];rw [WL h.made h.map hT];simp only [Qa];rw [zGK x.C (Z1 L) λhm=>zwE hm];simp only [Qa];rw [Ub h.made h.map (sh1 hI) h.shS];simp only [Qa,QA];rw [ZX (Uc (by decide) _ _ _ h.shS).len];rfl
  .rw [instr_arrays (by omega)];unfold Hr;rw [qf (show x.Op≠49 by omega),qt h4];simp only [RT,RF];rw [zro (by omega)];simp only [Qa];rw [Kz h.made (by omega)];simp only [Qa];rw [zGK x.C (thN L) λhm=>rfl];simp only [Qa];rw [Ul h.made (sh1 hI) h.shS,ZZ [78] [84]];simp only [Qa,QA];rw [ZW (Uc (by decide) _ _ _ h.shS).len];rfl
  .have hth:thA L x.C=true:=by
    cases hq:thA L x.C with
    |true=>rfl
    |false=>rw [hq,ZG _ _ _ (by simp)] at e;cases e
   unfold thA at hth;rw [Qd] at hth;unfold Z5 at hT ⊢;rw [hth.1] at hT ⊢;exact IO hth.1 hT
 .refine ⟨(loc,(Xp L [84] [[73],[91,73]] stk b).1++[[73]],(Xp L [84] [[73],[91,73]] stk b).2),_,?_,?_,UB _,Um (ZG _ _ _) h.shL h.shS (UD _ _ _ _ _) hI λ_=>.inr Ux⟩
  .rw [W0 (by omega)];unfold Hp;rw [qf (show x.Op≠49 by omega),qf (show x.Op≠50 by omega),qf (show x.Op≠51 by omega),qt h4];simp only [RT,RF];rw [Ub h.made h.map (sh2 hA hI) h.shS];simp only [Qa];rw [show ([[91,73],[73]]:List Tx).reverse=[[73],[91,73]] from rfl,ZX (Uc (by decide) _ _ _ h.shS).len];rfl
  .rw [instr_arrays (by omega)];unfold Hr;rw [qf (show x.Op≠49 by omega),qf (show x.Op≠50 by omega),qf (show x.Op≠51 by omega),qt h4];simp only [RT,RF];rw [Ul h.made (sh2 hA hI) h.shS,ZZ [78] [84]];simp only [Qa];rw [show ([[91,73],[73]]:List Tx).reverse=[[73],[91,73]] from rfl,ZW (Uc (by decide) _ _ _ h.shS).len];rfl
 .have hl:=DE (L:=L) [84] [[73],[73],[91,73]] stk b;refine ⟨(loc,Xp L [84] [[73],[73],[91,73]] stk b),(loc,Xp L [84] [[73],[73],[91,73]] stk b),?_,?_,KP λ_=>by show ((Xp L [84] [[73],[73],[91,73]] stk b).1.length:Int)≤mt.Stack;omega,ztx id h.shL h.shS⟩
  .rw [W0 (by omega)];unfold Hp;rw [qf (show x.Op≠49 by omega),qf (show x.Op≠50 by omega),qf (show x.Op≠51 by omega),qf (show x.Op≠52 by omega),qt h4];simp only [RT,RF];rw [Ub h.made h.map (sh3 hA hI hI) h.shS];rfl
  .rw [instr_arrays (by omega)];unfold Hr;rw [qf (show x.Op≠49 by omega),qf (show x.Op≠50 by omega),qf (show x.Op≠51 by omega),qf (show x.Op≠52 by omega),qt h4];simp only [RT,RF];rw [Ul h.made (sh3 hA hI hI) h.shS,ZZ [78] [84]];rfl
theorem zG2(e:Tx)(s:List Tx)(b:Bool):(XS e s b).2.1.length≤s.length:=I4 e s b
theorem zG3{s:List Tx}{b:Bool}(hs:∀t∈s,onS t)(hl:∀t∈s,t.length≤25)(h:(XS [84] s b).2.2=false):Dm (XS [84] s b).1:=by
 unfold XS at h ⊢;simp only [Qn,Q6] at h;have hin:=DB h.1;generalize (Xg [84] s b).1=t at h hin;have h1:=hl t hin;simp only
 cases hq:t == [78] with
 |true =>
  have e:t=[78]:=by simpa using hq
  rw [e];exact zEX
 |false =>
  rw [hq] at h;simp only [QU,Qd] at h;have h2:=h.2.1;unfold XH at h2 ⊢
  cases hb:Xq t&&brk t with
  |false=>rw [hb] at h2;cases h2
  |true =>
   rw [Qd] at hb;refine IO (zre hb.1 hb.2).1 ?_;show (t.drop 1).length≤25;simp;omega
theorem zDY(h:XP l L m mt loc stk b)(ho:x.Op=51∨x.Op=54∨x.Op=55):
  ∃p r,zj L m c mt loc stk b x=some p/\zn L c mt loc stk b x=some r/\Zs mt.Stack p r/\X5 loc stk b p:=by
 have hI:=Ux.1;have hr:=h.room
 rcases ho with h4 |h4 |h4
 .obtain ⟨g1,g2⟩:=ZK (b:=b) h.shS (e:=[84]) (by decide);obtain ⟨k1,k2⟩:=ZK (b:=b) h.shS (e:=[78]) (by decide)
  have hb:((Xg [78] stk b).2.2||!Iz (Xg [78] stk b).1)=((Xg [84] stk b).2.2||!((XH (Xg [84] stk b).1).2||((Xg [84] stk b).1 == [78]))):=by
   have e2:=KI [78] [84] stk b;rw [e2];refine I5 λe=>?_;rw [<-GJ [84] [78] stk b e,zII (h.on _ (DB e))]
  refine ⟨(loc,(Xg [84] stk b).2.1++[[73]],(Xg [84] stk b).2.2||!((XH (Xg [84] stk b).1).2||((Xg [84] stk b).1 == [78]))),_,?_,?_,UB _,Um (λe=>by rw [Gc e];rfl) h.shL h.shS (Gb _ _ _) hI λ_=>.inr Ux⟩
  .rw [W0 (by omega)];unfold Hp;rw [qf (show x.Op≠49 by omega),qf (show x.Op≠50 by omega),qt h4];simp only [RT,RF];rw [G7 h.shS.len];simp only [Qa];rw [DQ (Wx g1)];simp only [Qa];rw [ZX g2.len];rfl
  .rw [instr_arrays (by omega)];unfold Hr;rw [qf (show x.Op≠49 by omega),qf (show x.Op≠50 by omega),qt h4];simp only [RT,RF];rw [GD h.shS.len];simp only [Qa];rw [zHE];simp only [Qa];rw [ZW k2.len,hb,KI [78] [84]];rfl
 .have hT:=Uc (L:=L) (e:=[84]) (by decide) [[73]] stk b h.shS;have hP:=UD L [84] [[73]] stk b;have hB:b=true->(Xp L [84] [[73]] stk b).2=true:=ZG _ _ _;have hOn:∀t∈(Xp L [84] [[73]] stk b).1,onS t:=λt ht=>h.on t (hP.subset ht)
  have hO:zj L m c mt loc stk b x=some (loc,(XS [84] (Xp L [84] [[73]] stk b).1 (Xp L [84] [[73]] stk b).2).2.1++[(XS [84] (Xp L [84] [[73]] stk b).1 (Xp L [84] [[73]] stk b).2).1],(XS [84] (Xp L [84] [[73]] stk b).1 (Xp L [84] [[73]] stk b).2).2.2):=by
   rw [W0 (by omega)];unfold Hp;rw [qf (show x.Op≠49 by omega),qf (show x.Op≠50 by omega),qf (show x.Op≠51 by omega),qf (show x.Op≠52 by omega),qf (show x.Op≠53 by omega),qt h4];simp only [RT,RF];rw [Ub h.made h.map (sh1 hI) h.shS];simp only [Qa,QA];rw [zzo hT];simp only [Qa];rw [ZX (zyn hT (by decide)).2.len];rfl
  have hD:zn L c mt loc stk b x=some (loc,(Zy mt.Stack (XS [78] (Xp L [84] [[73]] stk b).1 (Xp L [84] [[73]] stk b).2).2.1 (XS [78] (Xp L [84] [[73]] stk b).1 (Xp L [84] [[73]] stk b).2).2.2 (XS [78] (Xp L [84] [[73]] stk b).1 (Xp L [84] [[73]] stk b).2).1).1,(Zy mt.Stack (XS [78] (Xp L [84] [[73]] stk b).1 (Xp L [84] [[73]] stk b).2).2.1 (XS [78] (Xp L [84] [[73]] stk b).1 (Xp L [84] [[73]] stk b).2).2.2 (XS [78] (Xp L [84] [[73]] stk b).1 (Xp L [84] [[73]] stk b).2).1).2):=by
   rw [instr_arrays (by omega)];unfold Hr;rw [qf (show x.Op≠49 by omega),qf (show x.Op≠50 by omega),qf (show x.Op≠51 by omega),qf (show x.Op≠52 by omega),qf (show x.Op≠53 by omega),qt h4];simp only [RT,RF];rw [Ul h.made (sh1 hI) h.shS,ZZ [78] [84]];simp only [Qa,QA];rw [zxC hT];simp only [Qa];rw [ZW (zyn hT (by decide)).2.len];rfl
  generalize Xp L [84] [[73]] stk b=q at hT hP hB hOn hO hD
  have hK:X5 loc stk b (loc,(XS [84] q.1 q.2).2.1++[(XS [84] q.1 q.2).1],(XS [84] q.1 q.2).2.2):=
   Um (λe=>zzl (hB e)) h.shL h.shS ((zzm _ _ _).trans hP) (zyn hT (by decide)).1 λe=>.inr (zG3 hOn hT.2 e)
  refine ⟨_,_,hO,hD,?_,hK⟩;have e2:=zGf [78] [84] q.1 q.2
  cases hb:(XS [84] q.1 q.2).2.2 with
  |true=>exact Kv rfl (I7 (by rw [e2];exact hb))
  |false =>
   rw [<-zAL [84] [78] q.1 q.2 hb,e2,hb];exact UB _
 .have e2:=(zry (b:=b) h.on).1;obtain ⟨g1,g2⟩:=zwy (b:=b) h.shS (e:=[84]) (by decide);have hP0:=WQ [84] stk b;have hB0:b=true->(XB [84] stk b).2.2=true:=Oq;have hT:=Uc (L:=L) (e:=[84]) (by decide) [[73]] (XB [84] stk b).2.1 (XB [84] stk b).2.2 g2;have hP:=(UD L [84] [[73]] (XB [84] stk b).2.1 (XB [84] stk b).2.2).trans hP0;have hB:b=true->(Xp L [84] [[73]] (XB [84] stk b).2.1 (XB [84] stk b).2.2).2=true:=λe=>ZG _ _ _ (hB0 e)
  have hO:zj L m c mt loc stk b x=some (loc,(XS [84] (Xp L [84] [[73]] (XB [84] stk b).2.1 (XB [84] stk b).2.2).1 (Xp L [84] [[73]] (XB [84] stk b).2.1 (XB [84] stk b).2.2).2).2.1,(XS [84] (Xp L [84] [[73]] (XB [84] stk b).2.1 (XB [84] stk b).2.2).1 (Xp L [84] [[73]] (XB [84] stk b).2.1 (XB [84] stk b).2.2).2).2.2):=by
   rw [W0 (by omega)];unfold Hp;rw [qf (show x.Op≠49 by omega),qf (show x.Op≠50 by omega),qf (show x.Op≠51 by omega),qf (show x.Op≠52 by omega),qf (show x.Op≠53 by omega),qf (show x.Op≠54 by omega)];simp only [RT,RF];rw [B5 h.shS];simp only [Qa];rw [Ub h.made h.map (sh1 hI) g2];simp only [Qa,QA];rw [zzo hT];rfl
  have hD:zn L c mt loc stk b x=some (loc,(XS [78] (Xp L [84] [[73]] (XB [84] stk b).2.1 (XB [84] stk b).2.2).1 (Xp L [84] [[73]] (XB [84] stk b).2.1 (XB [84] stk b).2.2).2).2.1,(XS [78] (Xp L [84] [[73]] (XB [84] stk b).2.1 (XB [84] stk b).2.2).1 (Xp L [84] [[73]] (XB [84] stk b).2.1 (XB [84] stk b).2.2).2).2.2):=by
   rw [instr_arrays (by omega)];unfold Hr;rw [qf (show x.Op≠49 by omega),qf (show x.Op≠50 by omega),qf (show x.Op≠51 by omega),qf (show x.Op≠52 by omega),qf (show x.Op≠53 by omega),qf (show x.Op≠54 by omega),qt h4];simp only [RT,RF];rw [WN h.shS];simp only [Qa];rw [e2,Ul h.made (sh1 hI) g2,ZZ [78] [84]];simp only [Qa,QA];rw [zxC hT];rfl
  rw [zGf [78] [84]] at hD;have hl:=zG2 [84] (Xp L [84] [[73]] (XB [84] stk b).2.1 (XB [84] stk b).2.2).1 (Xp L [84] [[73]] (XB [84] stk b).2.1 (XB [84] stk b).2.2).2;have hl2:=hP.length_le;exact ⟨_,_,hO,hD,KP λ_=>by omega,KQ (λe=>zzl (hB e)) h.shL h.shS ((zzm _ _ _).trans hP)⟩
end
section
variable {l L : List za} {m : List (Tx × Int)} {c : Tx} {mt : zb} {loc stk : List Tx} {b : Bool} {x : zs}
theorem zCX{x:zs}(h:UP x=true):(1≤x.Op/\x.Op≤61)/\HJ x.Op x.A=true/\HB x.Op x.C=true:=by
 unfold UP WS KR at h;simp only [Qd,decide_eq_true_eq] at h;exact ⟨h.1.1.1,h.1.1.2,h.1.2⟩
def zGe(L:List za)(m:List (Tx×Int))(c:Tx)(mt:zb)(loc stk:List Tx)(b:Bool)(x:zs):Prop:=
 ∃p r,zj L m c mt loc stk b x=some p/\zn L c mt loc stk b x=some r/\Zs mt.Stack (p.1,p.2.1,cond (UT x.Op) (p.2.2||!Kq L mt p.1 p.2.1 x.A) p.2.2) r/\X5 loc stk b p
theorem zH7(hj:UT x.Op=false)(h:∃p r,zj L m c mt loc stk b x=some p/\zn L c mt loc stk b x=some r/\Zs mt.Stack p r/\X5 loc stk b p):zGe L m c mt loc stk b x:=by
 obtain ⟨p,r,h1,h2,h3,h4⟩:=h;exact ⟨p,r,h1,h2,by rw [hj];exact h3,h4⟩
theorem zFW(h:XP l L m mt loc stk b)(hk:XX mt)(hm:UP x=true)(hc:c.length≤25):zGe L m c mt loc stk b x:=by
 obtain ⟨hO,hA,hC⟩:=zCX hm;have h10:=zFb hm;by_cases hj:20≤x.Op/\x.Op≤36
 .have e:UT x.Op=true:=bt hj;obtain ⟨p,r,h1,h2,h3,h4⟩:=zD1 (c:=c) h hk hj;exact ⟨p,r,h1,h2,by rw [e];exact h3,h4⟩
 have e:UT x.Op=false:=bf hj;refine zH7 e ?_;by_cases h1:x.Op=1∨x.Op=2
 .exact zBI h h1
 by_cases h3:x.Op=3
 .have:0≤x.A:=by
   unfold HJ KR at hA;rw [h3] at hA;simp at hA;omega
  exact zD2 h h3 this
 by_cases h4:x.Op=4
 .have:0≤x.A:=by
   unfold HJ KR at hA;rw [h4] at hA;simp at hA;omega
  exact zBK h h4 this
 by_cases h5:x.Op=5
 .exact zF0 h h5
 by_cases h6:x.Op=6
 .exact zFX h h6
 by_cases h7:x.Op=7
 .exact zD4 h h7
 by_cases h8:8≤x.Op/\x.Op≤19
 .exact zBH h h8
 by_cases h9:x.Op=37
 .exact zFY h h9 (by omega)
 by_cases h11:38≤x.Op/\x.Op≤41
 .exact zBJ h h11 (by omega)
 by_cases h12:42≤x.Op/\x.Op≤45
 .exact zDZ h h12 (by omega) hc
 by_cases h13:x.Op=46∨x.Op=47
 .exact zF1 h h13
 by_cases h14:x.Op=48
 .exact zDW h h14 hk.ret (WE hk.ret)
 by_cases h15:x.Op=49∨x.Op=50∨x.Op=52∨x.Op=53
 .exact zDX h h15 h10
 by_cases h16:x.Op=51∨x.Op=54∨x.Op=55
 .exact zDY h h16
 by_cases h17:x.Op=56∨x.Op=57
 .refine zD0 h h17 ?_ (by omega)
  have ht:Gd x.Op=true:=by
   unfold Gd
   rcases h17 with e |e <;> rw [e] <;> rfl
  unfold HB at hC;rw [ht] at hC;simp only [RT] at hC;unfold ZD at hC;rw [Qd] at hC;exact hC.2
 by_cases h18:x.Op=58
 .exact zBL h h18
 by_cases h19:x.Op=59
 .exact zH6 h h19
 exact zFZ h (by omega)
theorem zCy(n:Int):HN n=GE n:=rfl
theorem zAF(h:XP l L m mt loc stk false)(hk:XX mt){p:List Tx×List Tx×Bool}(hp:X5 loc stk false p)(hb:p.2.2=false)(hr:(p.2.1.length:Int)≤mt.Stack):XP l L m mt p.1 p.2.1 false:=by
 obtain ⟨_,⟨k1,k2,k3,k4⟩,k5⟩:=hp;obtain ⟨k6,k7⟩:=k5 hb;have hs:=hk.stack.2;refine ⟨h.made,h.map,h.lens,⟨by rw [k1];exact h.shL.1,k3⟩,⟨by omega,k4⟩,λt ht=>?_,hr,λt ht=>?_⟩
 .rcases k6 t ht with e |e
  .exact h.on t e
  .exact e.2
 .rcases k7 t ht with e |e
  .exact h.onL t e
  .exact .inr (h.on t e)
end
section
variable {l L : List za} {m : List (Tx × Int)} {c : Tx} {mt : zb} {loc stk : List Tx} {b : Bool}
def KW(L:List za)(m:List (Tx×Int))(c:Tx)(mt:zb)(z:List Tx×List Tx×Bool×Bool×Int):Option Bool:=
 (zk (λz=>KE c (zD.mk L m) mt z.1 z.2.1 z.2.2.1 z.2.2.2.1 z.2.2.2.2) z).bind λo=>zB o (λb=>zm6 b.1 b.2.1 b.2.2) some
def De(L:List za)(c:Tx)(mt:zb)(z:List Tx×List Tx×Bool×Bool×Int):Option Bool:=
 (zk (λz=>Hn c (zq.mk L) mt z.1 z.2.1 z.2.2.1 z.2.2.2.1 z.2.2.2.2) z).bind λo=>zB o (λb=>zk3 b.1 b.2.1 b.2.2.1 b.2.2.2) some
theorem zDQ{g g':Bool}{i i':Int}{loc' stk':List Tx}{b':Bool}(h:KE c (zD.mk L m) mt loc stk b g i=some (.inl (loc',stk',b',g',i'))):KW L m c mt (loc,stk,b,g,i)=KW L m c mt (loc',stk',b',g',i'):=by
 unfold KW;rw [zG];show ((KE c (zD.mk L m) mt loc stk b g i).bind _).bind _=_;rw [h];rfl
theorem zxU{g:Bool}{i:Int}{v:Bool}(h:KE c (zD.mk L m) mt loc stk b g i=some (.inr (.inr v))):KW L m c mt (loc,stk,b,g,i)=some v:=by
 unfold KW;rw [zG];show ((KE c (zD.mk L m) mt loc stk b g i).bind _).bind _=_;rw [h];rfl
theorem zxT{g:Bool}{i:Int}(h:KE c (zD.mk L m) mt loc stk b g i=some (.inr (.inl (loc,stk,b)))):KW L m c mt (loc,stk,b,g,i)=some (!b):=by
 unfold KW;rw [zG];show ((KE c (zD.mk L m) mt loc stk b g i).bind _).bind _=_;rw [h];rfl
theorem zDP{g g':Bool}{i i':Int}{loc' stk':List Tx}{b':Bool}(h:Hn c (zq.mk L) mt loc stk b g i=some (.inl (loc',stk',b',g',i'))):De L c mt (loc,stk,b,g,i)=De L c mt (loc',stk',b',g',i'):=by
 unfold De;rw [zG];show ((Hn c (zq.mk L) mt loc stk b g i).bind _).bind _=_;rw [h];rfl
theorem zxS{g:Bool}{i:Int}(h:Hn c (zq.mk L) mt loc stk b g i=some (.inr (.inl (loc,stk,b,g)))):De L c mt (loc,stk,b,g,i)=some (!b&&!g):=by
 unfold De;rw [zG];show ((Hn c (zq.mk L) mt loc stk b g i).bind _).bind _=_;rw [h];rfl
theorem zAj(h:Xe l L)(hm:Xu L m)(hk:XX mt)(hl:ShL loc)(hs:ShL stk){g:Bool}{i:Nat}(hi:i≤mt.Code.length):KW L m c mt (loc,stk,true,g,(i:Int))=some false:=by
 by_cases hlt:i<mt.Code.length
 .refine zxU ?_;unfold KE;have hx:mt.Code[i]?=some mt.Code[i]:=Qe hlt;rw [Xk hx,zo,hx];simp only [RT,Qa];rw [zCA h hm hk hl hs];rfl
 .refine zxT ?_;unfold KE;rw [RE (by omega)];rfl
theorem zwB{g:Bool}{i:Int}:De L c mt (loc,stk,true,g,i)=some false:=by
 refine zxS ?_;unfold Hn;rw [Qr,Q9];rfl
theorem zHi(h:Xe l L)(hk:XX mt)(hl:ShL loc)(hs:ShL stk){g:Bool}{i:Nat}{x:zs}(hx:mt.Code[i]?=some x):
  Hn c (zq.mk L) mt loc stk false g (i:Int) =
   (D6 L c mt (ZS L mt loc stk i g).1 (ZS L mt loc stk i g).2.1 (ZS L mt loc stk i g).2.2 (i:Int)).bind λv98 =>
    (zn L c mt (ZS L mt loc stk i g).1 (ZS L mt loc stk i g).2.1 v98 x).bind λv100=>some (.inl (v100.1,v100.2.1,v100.2.2,(!(HN x.Op)),(i64.wrap ((i:Int)+1)))):=by
 unfold Hn;rw [Xk hx];simp only [QH,Yn,RT];rw [zv7 hk];unfold zIJ ZS
 have key:∀(v:zV×Bool) (b:Bool) (p q:List Tx),ze0 c (zq.mk L) mt g (i:Int) v b p q =
   (D6 L c mt p q (b||!(v.2||g)) (i:Int)).bind λv98=>(zn L c mt p q v98 x).bind λv100=>some (.inl (v100.1,v100.2.1,v100.2.2,(!(HN x.Op)),(i64.wrap ((i:Int)+1)))):=λv b p q=>by
  unfold ze0;rw [zo,hx];rfl
 cases hf:Ki mt (i:Int) with
 |none =>
  simp only [Qa,Jj,RF];unfold EZ;simp only [RF];rw [key];simp
 |some y =>
  have hy:=WD hk hf;simp only [Qa,QC]
  have key2:∀b:Bool,EZ c (zq.mk L) mt loc stk g (i:Int) (y,true) b=(D6 L c mt y.Locals y.Stack b (i:Int)).bind λv98=>(zn L c mt y.Locals y.Stack v98 x).bind λv100=>some (.inl (v100.1,v100.2.1,v100.2.2,(!(HN x.Op)),(i64.wrap ((i:Int)+1)))):=λb=>by
   unfold EZ;simp only [RT];rw [zCs (hy.shl hk).len (hy.shs hk).len];simp only [Qa];rw [key];simp
  rw [zCR h hk hl hs]
  cases g with
  |true=>simp only [RT,Qa,QU,QC];exact key2 _
  |false=>simp only [RF,Jj];exact key2 _
theorem zFM(hk:XX mt)(hc:c.length≤25):∀(d i:Nat) (loc stk:List Tx) (g:Bool),d+i=mt.Code.length->XP l L m mt loc stk false->(d=0->g=false) ->
  ∃v,KW L m c mt (loc,stk,false,g,(i:Int))=some v/\De L c mt (loc,stk,false,g,(i:Int))=some v:=by
 intro d
 induction d with
 |zero =>
  intro i loc stk g hd h hg;have hg:=hg rfl;subst hg;refine ⟨true,?_,?_⟩
  .refine zxT ?_;unfold KE;rw [RE (by omega)];rfl
  .refine zxS ?_;unfold Hn;rw [RE (by omega)];rfl
 |succ d ih =>
  intro i loc stk g hd h hg
  have hlt:i<mt.Code.length:=by omega
  have hx:mt.Code[i]?=some mt.Code[i]:=Qe hlt;have hxm:=hk.ins _ (Qi hlt);have h100:=hk.code.2;generalize mt.Code[i]=x at hx hxm;have hw:i64.wrap ((i:Int)+1)=((i+1:Nat):Int):=zz (by omega);have hE:∀b,XP l L m mt (ZS L mt loc stk i g).1 (ZS L mt loc stk i g).2.1 b:=λb=>zyq h hk;have hD:=zHi (c:=c) h.made hk h.shL h.shS (g:=g) hx
  have hP:KE c (zD.mk L m) mt loc stk false g (i:Int)=cond (ZS L mt loc stk i g).2.2 (some (.inr (.inr false))) ((ze4 L m c mt (ZS L mt loc stk i g).1 (ZS L mt loc stk i g).2.1 (ZS L mt loc stk i g).2.2 (i:Int)).bind λv51=>(zj L m c mt (ZS L mt loc stk i g).1 (ZS L mt loc stk i g).2.1 v51 x).bind λv52=>cond (UT x.Op) ((Ik L m c mt v52.1 v52.2.1 v52.2.2 x.A).bind λv53=>EO mt (i:Int) x v52 v53) (EO mt (i:Int) x v52 v52.2.2)):=by
   unfold KE;rw [Xk hx,zo,hx];simp only [RT,Qa];rw [zCA h.made h.map hk h.shL h.shS];rfl
  generalize ZS L mt loc stk i g=E at hE hD hP;obtain ⟨p,r,s1,s2,s3,s4⟩:=zFW (c:=c) (hE (E.2.2||mt.Traps.any (Gr L mt E.1 i))) hk hxm hc;rw [zIc h.made hk (hE false).shL] at hD;simp only [Qa] at hD;rw [s2] at hD;simp only [Qa] at hD;rw [hw,zCy] at hD;have hDn:=zDP hD
  cases hb:E.2.2 with
  |true =>
   rw [hb] at hP s4;refine ⟨false,zxU hP,?_⟩;have hpb:p.2.2=true:=s4.1 rfl
   have hrb:r.2.2=true:=by
    rw [<-s3.1,hpb];cases UT x.Op <;> rfl
   rw [hDn,hrb];exact zwB
  |false =>
   rw [hb] at hP s1 s4;simp only [RF] at hP;rw [zIb h.made h.map hk (hE false).shL] at hP;simp only [Qa] at hP;rw [s1] at hP;simp only [Qa] at hP;obtain ⟨k0,⟨k1,k2,k3,k4⟩,k5⟩:=s4;have hroom:=(hE false).room;have hst:=hk.stack.2;have hl1:ShL p.1:=⟨by rw [k1];exact (hE false).shL.1,k3⟩;have hs1:ShL p.2.1:=⟨by omega,k4⟩;rw [zGp h.made h.map hk hl1 hs1] at hP
   have hP2:KE c (zD.mk L m) mt loc stk false g (i:Int)=some (.inl (p.1,p.2.1,r.2.2,!GE x.Op,((i+1:Nat):Int))):=by
    rw [hP,<-s3.1,<-hw];unfold EO;cases UT x.Op <;> rfl
   have hPn:=zDQ hP2;rw [hPn,hDn]
   cases hrb:r.2.2 with
   |true=>exact ⟨false,zAj h.made h.map hk hl1 hs1 (by omega),zwB⟩
   |false =>
    obtain ⟨e1,e2⟩:=s3.2 hrb;simp only at e1 e2;rw [<-e1,<-e2];have hsum:=s3.1;rw [hrb] at hsum;simp only [Qn,Q6,decide_eq_true_eq] at hsum
    have hpb:p.2.2=false:=by
     have:=hsum.1
     cases hq:UT x.Op with
     |true=>rw [hq] at this;simp only [RT,Qn] at this;exact this.1
     |false=>rw [hq] at this;exact this
    have hT:(false||mt.Traps.any (Gr L mt E.1 i))=false:=by
     cases hq:(false||mt.Traps.any (Gr L mt E.1 i)) with
     |false=>rfl
     |true=>rw [hq] at k0;rw [k0 rfl] at hpb;cases hpb
    rw [hT] at k0;refine ih (i+1) p.1 p.2.1 (!GE x.Op) (by omega) (zAF (hE false) hk ⟨k0,⟨k1,k2,k3,k4⟩,k5⟩ hpb hsum.2) λh0=>?_;obtain ⟨y,hy1,hy2⟩:=hk.last;rw [Jp] at hy1
    have:mt.Code.length-1=i:=by omega
    rw [this,hx] at hy1;cases hy1;rw [hy2];rfl
end
theorem zz8{R:Type}{n:Int}{body:List Tx->Option (Sum (List Tx) (Sum (List Tx) R))}
  (hb:∀z:List Tx,body z=cond (decide (((List.length z):Int)<n)) ((Xx 16 z ([[84]])).bind λv=>some (.inl v)) (some (.inr (.inl z)))):
  ∀(k:Nat) (z:List Tx),((z.length+k:Nat):Int)=n->z.length+k≤1000->zk body z=some (.inl (z++List.replicate k [84]))
 | 0,z,h,h2=>by
  rw [zG,hb,RE (by omega)];simp
 |k+1,z,h,h2=>by
  rw [zG,hb,RD (by omega),XJ (by simp;omega) (by simp;omega)];simp only [RT,Qa,JT];rw [zz8 hb k (z++[[84]]) (by simp;omega) (by simp;omega)];simp [List.replicate_succ]
section
variable {l L : List za} {m : List (Tx × Int)} {c : Tx} {f : zb} {b : Bool}
def KG(L:List za)(T:List Tx):Bool:=T.any λt=>!Z1 L t
theorem zEo(h:Xe l L)(hm:Xu L m){T:List Tx}(hT:ShL T):OF T L m=some (!KG L T):=by
 unfold OF zbn zdg
 rw [show ((zk (λz=>zbu T L m z) 0).bind λo=>zB o (λb=>zfk) some)=_ from Zo (l:=T) (p:=λt=>!Z1 L t) (by have:=hT.len;omega)
  (λi x hx=>by
   have hl:=hT.2 x (Qc hx);unfold zbu zpi zlX;rw [Xk hx,zo,hx];simp only [Qa,RT];rw [WL h hm hl]
   rfl) (by unfold zbu;rw [Xm];rfl)]
 rw [Qa,ZF];rfl
theorem zF7(h:Xe l L)(hm:Xu L m){T:List Tx}(hT:ShL T):zjJ T L m=some (!T.any λt=>!thN L t):=by
 unfold zjJ zbo zdh
 rw [show ((zk (λz=>zbv T L m z) 0).bind λo=>zB o (λb=>zfl) some)=_ from Zo (l:=T) (p:=λt=>!thN L t) (by have:=hT.len;omega)
  (λi x hx=>by
   have hl:=hT.2 x (Qc hx);unfold zbv zlZ zlY;rw [Xk hx,zo,hx];simp only [Qa,RT];rw [Oe h hm hl (Wx hl),sub_self]
   rfl) (by unfold zbv;rw [Xm];rfl)]
 rw [Qa,ZF];rfl
def IG(c:Tx)(f:zb):List Tx:=cond (!f.Static) [c] []++f.Params
def UY(c:Tx)(f:zb):List Tx:=IG c f++List.replicate (f.Locals.toNat-(IG c f).length) [84]
theorem zxm(hk:XX f):((IG c f).length:Int)=Zp f:=by
 have h6:=hk.npar;unfold IG Zp
 cases f.Static with
 |true=>simp
 |false =>
  rw [ZE (by omega) (by omega)];simp
theorem zGD{R:Type}(hk:XX f){body:List Tx->Option (Sum (List Tx) (Sum (List Tx) R))}
  (hb:∀z:List Tx,body z=cond (decide (((List.length z):Int)<f.Locals)) ((Xx 16 z ([[84]])).bind λv=>some (.inl v)) (some (.inr (.inl z)))):zk body (IG c f)=some (.inl (UY c f)):=by
 have h1:=zxm (c:=c) hk;have h2:=hk.locs;exact zz8 hb _ _ (by omega) (by omega)
theorem zC2(hk:XX f):((UY c f).length:Int)=f.Locals:=by
 have h1:=zxm (c:=c) hk;have h2:=hk.locs;unfold UY;simp;omega
theorem zxn(hk:XX f)(hc:Xq c=true):∀t∈UY c f,t.length≤25/\(t=[84]∨onS t):=by
 intro t ht;unfold UY IG at ht
 rcases Qm.1 ht with h |h
 .rcases Qm.1 h with h |h
  .have:t=c:=by
    cases hs:f.Static with
    |true=>rw [hs] at h;cases h
    |false=>rw [hs] at h;simpa using h
   rw [this];exact ⟨KJ hc,.inr (.inr hc)⟩
  .have:=hk.params t h;exact ⟨KJ this,.inr (.inr this)⟩
 .rw [(List.mem_replicate.1 h).2];exact ⟨by decide,.inl rfl⟩
theorem zyj(h:Xe l L)(hm:Xu L m)(hL:XL L)(hk:XX f)(hc:Xq c=true):XP l L m f (UY c f) [] false:=by
 have h1:=zC2 (c:=c) hk;have h2:=hk.locs;have h3:=hk.stack;exact ⟨h,hm,hL,⟨by omega,λt ht=>(zxn hk hc t ht).1⟩,⟨Qo _,λt ht=>(Yw ht).elim⟩,λt ht=>(Yw ht).elim,by simp;omega,λt ht=>(zxn hk hc t ht).2⟩
def Wn(L:List za)(f:zb):Bool:=((f.Maps.any λx=>KG L x.Locals||KG L x.Stack)||!((f.Ret == [86])||thN L f.Ret))||f.Params.any λt=>!thN L t
theorem zG7(hk:XX f)(b:Bool):zgj L c f [] [] b=some (UY c f):=by
 have h6:=hk.npar;unfold zgj
 have key:zer f (cond (!f.Static) [c] [])=some (UY c f):=by
  unfold zer;rw [XJ (by cases f.Static <;> simp <;> omega) (by cases f.Static <;> simp <;> omega)];simp only [Qa];rw [show zk (λz=>zih f z) (cond (!f.Static) [c] []++f.Params)=_ from zGD (c:=c) hk (body:=λz=>zih f z) λz=>rfl];rfl
 cases hs:f.Static with
 |true=>rw [hs] at key;exact key
 |false =>
  rw [hs] at key;simp only [QH,RT] at key ⊢;rw [XJ (by simp) (by simp)];exact key
theorem zDr(hk:XX f):ShL f.Params:=⟨by have:=hk.npar;omega,λs hs=>KJ (hk.params s hs)⟩
theorem zFm(h:Xe l L)(hm:Xu L m)(hk:XX f):((zk (λz=>Bh (zD.mk L m) f z.1 z.2) (false,0)).bind λo=>zB o (λb=>zkX c (zD.mk L m) f b) some)=KW L m c f (UY c f,[],Wn L f,true,0):=by
 have h6:=hk.npar
 rw [On (body:=λz=>Bh (zD.mk L m) f z.1 z.2) (l:=f.Maps) (p:=λx=>KG L x.Locals||KG L x.Stack) (by have:=hk.nmaps;omega) (λi x b hx=>by
  have hy:=hk.maps x (Qc hx);show Bh (zD.mk L m) f b (i:Int)=_;unfold Bh;rw [Xk hx,zo,hx];simp only [RT,Qa];rw [zEo h hm (hy.shl hk),zEo h hm (hy.shs hk)]
  cases KG L x.Locals <;> cases KG L x.Stack <;> rfl) (λb=>by
  show Bh (zD.mk L m) f b (f.Maps.length:Int)=_;unfold Bh
  rw [Xm];rfl)]
 simp only [Qa,zB]
 have j4:∀(b v:Bool),zhy c (zD.mk L m) f b v (cond (!f.Static) [c] [])=KW L m c f (UY c f,[],b||!v,true,0):=λb v=>by
  unfold zhy;rw [XJ (by cases f.Static <;> simp <;> omega) (by cases f.Static <;> simp <;> omega)];simp only [Qa];rw [show zk (λz=>zkY f z) (cond (!f.Static) [c] []++f.Params)=_ from zGD (c:=c) hk (body:=λz=>zkY f z) λz=>rfl];rfl
 have j3:∀b:Bool,zhx c (zD.mk L m) f b=KW L m c f (UY c f,[],b||(f.Params.any λt=>!thN L t),true,0):=λb=>by
  unfold zhx;rw [zF7 h hm (zDr hk)];simp only [Qa];have:=j4 b (!f.Params.any λt=>!thN L t);rw [Bool.not_not] at this;rw [<-this]
  cases hs:f.Static with
  |true=>rfl
  |false =>
   simp only [QH,RT];rw [XJ (by simp) (by simp)];rfl
 unfold zkX Wn;have hr:=WE hk.ret;rw [Oe h hm hr (Wx hr),sub_self];simp only [Qa];rw [j3,j3];cases f.Ret == [86] <;> simp
theorem zFl(h:Xe l L)(hk:XX f):((zk (λz=>Bx (zq.mk L) f z.1 z.2) (false,0)).bind λo=>zB o (λb=>zi4 c (zq.mk L) f b) some)=De L c f (UY c f,[],Wn L f,true,0):=by
 have h6:=hk.npar
 rw [On (body:=λz=>Bx (zq.mk L) f z.1 z.2) (l:=f.Maps) (p:=λx=>KG L x.Locals||KG L x.Stack) (by have:=hk.nmaps;omega) (λi x b hx=>by
  have hy:=hk.maps x (Qc hx);have hl:=(hy.shl hk).1;have hs:=(hy.shs hk).1;show Bx (zq.mk L) f b (i:Int)=_;unfold Bx;rw [Xk hx,zo,hx];simp only [RT,Qa];rw [XJ (by simp;omega) (by simp;omega)];simp only [Qa,Jl];rw [XJ (by omega) (by omega)];simp only [Qa]
  rw [On (body:=λz=>E7 (zq.mk L) (x.Locals++x.Stack) z.1 z.2) (l:=x.Locals++x.Stack) (p:=λt=>!Z1 L t) (by simp;omega) (λj t b ht=>by
   have hm:=Qc ht
   have h25:t.length≤25:=by
    rcases Qm.1 hm with e |e
    .exact hy.loc25 t e
    .exact hy.stk25 t e
   show E7 (zq.mk L) (x.Locals++x.Stack) b (j:Int)=_;unfold E7;rw [Xk ht,zo,ht];simp only [RT,Qa];rw [Kz h (by omega)];unfold Z1
   cases t == [84] <;> cases t == [78] <;> cases thN L t <;> rfl) (λb=>by
   show E7 (zq.mk L) (x.Locals++x.Stack) b ((x.Locals++x.Stack).length:Int)=_;unfold E7
   rw [Xm];rfl)]
  rw [List.any_append]
  rfl) (λb=>by
  show Bx (zq.mk L) f b (f.Maps.length:Int)=_;unfold Bx
  rw [Xm];rfl)]
 simp only [Qa,zB];unfold zi4
 rw [On (body:=λz=>E6 (zq.mk L) f z.1 z.2) (l:=f.Params) (p:=λt=>!thN L t) (by omega) (λi t b ht=>by
  have h25:=(zDr hk).2 t (Qc ht);show E6 (zq.mk L) f b (i:Int)=_;unfold E6;rw [Xk ht,zo,ht];simp only [RT,Qa];rw [Kz h (by omega)]
  rfl) (λb=>by
  show E6 (zq.mk L) f b (f.Params.length:Int)=_;unfold E6
  rw [Xm];rfl)]
 simp only [Qa,zB];unfold zlK;have hr:=WE hk.ret;rw [Kz h (by omega)]
 have e:((cond (f.Ret == [86]) (some true) ((some (thN L f.Ret)).bind λv69=>some v69)):Option Bool)=some ((f.Ret == [86])||thN L f.Ret):=by cases f.Ret == [86] <;> rfl
 rw [e];simp only [Qa];rw [zG7 hk];simp only [Qa]
 have e2:(((false||f.Maps.any λx=>KG L x.Locals||KG L x.Stack)||f.Params.any λt=>!thN L t)||!((f.Ret == [86])||thN L f.Ret))=Wn L f:=by
  unfold Wn
  cases (f.Maps.any λx=>KG L x.Locals||KG L x.Stack) <;> cases (f.Params.any λt=>!thN L t) <;> cases ((f.Ret == [86])||thN L f.Ret) <;> rfl
 rw [e2];rfl
theorem zEN(h:Xe l L)(hm:Xu L m)(hL:XL L)(hk:XX f)(hc:Xq c=true):∃v,KW L m c f (UY c f,[],Wn L f,true,0)=some v/\De L c f (UY c f,[],Wn L f,true,0)=some v:=by
 have hA:=zyj h hm hL hk hc
 cases Wn L f with
 |true=>exact ⟨false,zAj (i:=0) h hm hk hA.shL hA.shS (Qo _),zwB⟩
 |false=>exact zFM hk (KJ hc) f.Code.length 0 (UY c f) [] true (by omega) hA λe=>by have:=hk.code.1;omega
theorem zEp(h:Xe l L)(hm:Xu L m)(hL:XL L)(c:Tx)(k:Int):∃v,KS (some (zD.mk L m)) c k=some v/\zhu (some (zq.mk L)) c k=some v:=by
 have h26:=h.len;unfold KS zhu;simp only [Zq];rw [Ke hm,Zb (by omega)];simp only [Qa];rw [Gz]
 cases hc:cl L c with
 |none =>
  rw [HH hc];exact ⟨false,rfl,rfl⟩
 |some x =>
  rw [ZB hc,U6,hc];simp only [Qa,Qr,QU];by_cases h0:k<0
  .rw [RD h0];exact ⟨false,rfl,rfl⟩
  rw [RE h0];simp only [QU,RF];by_cases h1:(x.Methods.length:Int)≤k
  .rw [RD h1];exact ⟨false,rfl,rfl⟩
  rw [RE h1];obtain ⟨n,rfl⟩:∃n:Nat,k=(n:Int):=⟨k.toNat,by omega⟩
  have hn:n<x.Methods.length:=by omega
  have hf:x.Methods[n]?=some x.Methods[n]:=Qe hn;have hfm:=Qi hn;generalize x.Methods[n]=f at hf hfm;rw [zo,hf];simp only [Qa,RF]
  cases ha:f.Abstract with
  |true=>exact ⟨false,rfl,rfl⟩
  |false =>
   have hk:=zIN (zzX h (XO hc).1 hfm) ha;have hcm:=WW (W2 h (ZB hc));simp only [RF];rw [zFm h hm hk,zFl h hk];exact zEN h hm hL hk hcm
end
theorem zKc{α:Type}{w:Nat}{a b:List α}(h:a.length+b.length≤1000)(hw:w≤1000):Xx w a b=some (a++b):=XJ (QL (Nat.mul_le_mul h hw) (by decide)) (by omega)
section
variable {l L : List za} {m : List (Tx × Int)}
def Zf(L:List za)(t:Tx):Bool:=(!(t == [86])&&!(t == []))&&!Z1 L t
theorem I0(h:Xe l L)(hm:Xu L m){t:Tx}(ht:t.length≤25):DW t L m=some (Zf L t):=by
 unfold DW Zf;rw [WL h hm ht];cases (!(t == [86])&&!(t == [])) <;> rfl
def zz0(L:List za)(x:zs):Bool:=
 cond ((((x.Op == 38)||(x.Op == 39))||(x.Op == 40))||(x.Op == 41)) (X4 L x.C x.M).2.2
  (cond (((x.Op == 42)||(x.Op == 43))||(x.Op == 44)) ((((Xn L x.C).findSome? (Za L UF x.M)).getD ([],zM,false)).2.2&&!isF L x.C) (cond (x.Op == 45) (KH L x.C x.M).2.2 true))
theorem zFn(h:Xe l L)(hm:Xu L m)(hL:XL L)(x:zs):zmb L m x=some (zz0 L x):=by
 unfold zmb Es zhZ Er zz0 X4;rw [Ke hm,zvK h hm hL,zrg h hm hL,zCC h hm hL,zxf];simp only [Qa];cases x.Op == 38 <;> cases x.Op == 39 <;> cases x.Op == 40 <;> cases x.Op == 41 <;> cases x.Op == 42 <;> cases x.Op == 43 <;> cases x.Op == 44 <;> cases x.Op == 45 <;> rfl
def G8(L:List za)(x:zs):Bool:=Zf L x.C||!zz0 L x
theorem zA9(h:Xe l L)(hm:Xu L m)(hL:XL L){x:zs}(hx:x.C.length≤25):ziR x L m L m=some (G8 L x):=by
 unfold ziR G8;rw [I0 h hm hx,zFn h hm hL];cases Zf L x.C <;> rfl
theorem zCk(h:Xe l L)(hm:Xu L m)(hL:XL L){T:List zg}(hl:T.length≤10000)(hT:∀x∈T,x.Type_.length≤25):zan T L m=some (T.any λx=>Zf L x.Type_):=by
 unfold zan zca
 rw [show ((zk (λz=>zaM T L m z) 0).bind λo=>zB o (λb=>zdu) some)=_ from Zo (l:=T) (p:=λx:zg=>Zf L x.Type_) (by omega) (λi x hx=>by
   unfold zaM zmv;rw [Xk hx,zo,hx];simp only [Qa,RT];rw [I0 h hm (hT x (Qc hx))]
   rfl) (by unfold zaM;rw [Xm];rfl)]
 rw [Qa,ZF]
theorem zEO(h:Xe l L)(hm:Xu L m)(hL:XL L){T:List zU}(hl:T.length≤10000)(hT:∀x∈T,x.C.length≤25):zaY T L m=some (T.any λx=>Zf L x.C):=by
 unfold zaY zcn
 rw [show ((zk (λz=>zaZ T L m z) 0).bind λo=>zB o (λb=>zea) some)=_ from Zo (l:=T) (p:=λx:zU=>Zf L x.C) (by omega) (λi x hx=>by
   unfold zaZ zkQ;rw [Xk hx,zo,hx];simp only [Qa,RT];rw [I0 h hm (hT x (Qc hx))]
   rfl) (by unfold zaZ;rw [Xm];rfl)]
 rw [Qa,ZF]
theorem zG9(h:Xe l L)(hm:Xu L m)(hL:XL L){T:List zs}(hl:T.length≤10000)(hT:∀x∈T,x.C.length≤25):zba T L m L m=some (T.any λx=>G8 L x):=by
 unfold zba zcO
 rw [show ((zk (λz=>zbb T L m L m z) 0).bind λo=>zB o (λb=>zeP) some)=_ from Zo (l:=T) (p:=λx:zs=>G8 L x) (by omega) (λi x hx=>by
   unfold zbb ;rw [Xk hx,zo,hx];simp only [Qa,RT];rw [zA9 h hm hL (hT x (Qc hx))]
   rfl) (by unfold zbb;rw [Xm];rfl)]
 rw [Qa,ZF]
theorem zHb(h:Xe l L)(hm:Xu L m)(hL:XL L){T:List Tx}(hl:T.length≤10000)(hT:∀x∈T,x.length≤25):zbp T L m=some (T.any λx=>Zf L x):=by
 unfold zbp zdi
 rw [show ((zk (λz=>zbw T L m z) 0).bind λo=>zB o (λb=>zfm) some)=_ from Zo (l:=T) (p:=λx:Tx=>Zf L x) (by omega) (λi x hx=>by
   unfold zbw ;rw [Xk hx,zo,hx];simp only [Qa,RT];rw [I0 h hm (hT x (Qc hx))]
   rfl) (by unfold zbw;rw [Xm];rfl)]
 rw [Qa,ZF]
def DC(L:List za)(f:zb):Bool:=((Zf L f.Ret||f.Params.any λx=>Zf L x)||f.Traps.any λx=>Zf L x.C)||f.Code.any λx=>G8 L x
structure Dj(f:zb):Prop where
 pars:f.Params.length≤10000/\∀x∈f.Params,x.length≤25
 ret:f.Ret.length≤25
 traps:f.Traps.length≤10000/\∀x∈f.Traps,x.C.length≤25
 code:f.Code.length≤10000/\∀x∈f.Code,x.C.length≤25
theorem XX.small{f:zb}(hk:XX f):Dj f where
 pars:=⟨by have:=hk.npar;omega,(zDr hk).2⟩
 ret:=WE hk.ret
 traps:=⟨by have:=hk.ntraps;omega,λy hy=>by
  rcases hk.traps y hy with e |e
  .rw [e];exact Qo _
  .have:=zq1 e;omega⟩
 code:=⟨by have:=hk.code.2;omega,λx hx=>by have:=zFb (hk.ins x hx);omega⟩
theorem zBi(h:Xe l L)(hm:Xu L m)(hL:XL L){f:zb}(hf:Dj f):zkk f L m L m=some (DC L f):=by
 unfold zkk DC;rw [zEO h hm hL hf.traps.1 hf.traps.2,zG9 h hm hL hf.code.1 hf.code.2,I0 h hm hf.ret,zHb h hm hL hf.pars.1 hf.pars.2];simp only [Qa];cases Zf L f.Ret <;> rfl
theorem zHa(h:Xe l L)(hm:Xu L m)(hL:XL L){T:List zb}(hl:T.length≤10000)(hT:∀x∈T,Dj x):zah T L m L m=some (T.any λx=>DC L x):=by
 unfold zah zbO
 rw [show ((zk (λz=>zaA T L m L m z) 0).bind λo=>zB o (λb=>zcZ) some)=_ from Zo (l:=T) (p:=λx:zb=>DC L x) (by omega) (λi x hx=>by
   unfold zaA ;rw [Xk hx,zo,hx];simp only [Qa,RT];rw [zBi h hm hL (hT x (Qc hx))]
   rfl) (by unfold zaA;rw [Xm];rfl)]
 rw [Qa,ZF]
def K7(L:List za)(c:za):Bool:=!(c.Fields.any λx=>Zf L x.Type_)&&!(c.Methods.any λx=>DC L x)
theorem zF8(h:Xe l L)(hm:Xu L m)(hL:XL L){c:za}(h1:c.Fields.length≤10000/\∀f∈c.Fields,f.Type_.length≤25)(h2:c.Methods.length≤10000/\∀f∈c.Methods,Dj f):zkw L m c=some (K7 L c):=by
 unfold zkw K7;rw [zCk h hm hL h1.1 h1.2,zHa h hm hL h2.1 h2.2];rfl
def Ui(a b:zb):Bool:=(a.Params == b.Params)&&(a.Ret == b.Ret)
theorem zvt{a b:zb}(h:a.Params.length≤10000):W3 a b=some (Ui a b):=by
 unfold W3 Ui;rw [zud (by omega)];rfl
def Uv(f y:zb):Bool:=((y.Name == f.Name)&&!(f.Name == [36,105,110,105,116]))&&((!Ui f y||f.Static)||y.Static)
theorem zFz{f y:zb}(h:f.Params.length≤10000):zhQ y f.Name f.Params f.Ret f.Static f.Abstract f.Locals f.Stack f.Code f.Maps f.Traps=some (Uv f y):=by
 unfold zhQ Uv;rw [zvt (a:=zb.mk f.Name f.Params f.Ret f.Static f.Abstract f.Locals f.Stack f.Code f.Maps f.Traps) h];cases ((y.Name == f.Name)&&!(f.Name == [36,105,110,105,116])) <;> rfl
theorem zFA{f:zb}(h:f.Params.length≤10000){T:List zb}(hl:T.length≤10000):zai T f.Name f.Params f.Ret f.Static f.Abstract f.Locals f.Stack f.Code f.Maps f.Traps=some (T.any λy=>Uv f y):=by
 unfold zai zbP
 rw [show ((zk (λz=>zaB T f.Name f.Params f.Ret f.Static f.Abstract f.Locals f.Stack f.Code f.Maps f.Traps z) 0).bind λo=>zB o (λb=>zc0) some)=_ from Zo (l:=T) (p:=λy:zb=>Uv f y) (by omega) (λi x hx=>by
   unfold zaB;rw [Xk hx,zo,hx];simp only [Qa,RT];rw [zFz h]
   rfl) (by unfold zaB;rw [Xm];rfl)]
 rw [Qa,ZF]
def XQ(L:List za)(s:Tx):List zb:=match cl L s with |some x=>x.Methods |none=>[]
def K4(L:List za)(c:za):Bool:=!(c.Methods.any λf=>((Xn L c.Name).drop 1).any λs=>(XQ L s).any λy=>Uv f y)
theorem zEa(h:Xe l L){n:Tx}(hn:Xj L n=true):1≤(Xn L n).length:=by
 obtain ⟨x,hx⟩:=X0 hn;unfold Xn
 cases hd:L.length with
 |zero =>
  have:L=[]:=Qf hd;rw [this] at hn;cases hn
 |succ d =>
  unfold sup;rw [hx];simp
theorem zxz(h:Xe l L)(hm:Xu L m)(hs:∀s,(XQ L s).length≤10000){c:za}(hc:Xj L c.Name=true)(h2:c.Methods.length≤10000/\∀f∈c.Methods,Dj f):zhq L m c=some (K4 L c):=by
 have h26:=Z7 h c.Name;have h1:=zEa h hc;unfold zhq
 rw [show zk (λz=>Ii L m c z) 0=some (XE () (c.Methods.findSome? (λf=>cond (((Xn L c.Name).drop 1).any λs=>(XQ L s).any λy=>Uv f y) (some false) none))) from Zk (λi f hf=>by
  have hi:=(Qb.1 hf).1;have hF:=h2.2 f (Qc hf);show Ii L m c (i:Int)=_;unfold Ii;rw [Xk hf,zo,hf];simp only [RT,Qa];rw [DG h hm];simp only [Qa];rw [show (1:Int)=((1:Nat):Int) from rfl,GI h1];simp only [Qa]
  have hin:zk (λz=>Ij L m f ((Xn L c.Name).drop 1) z) 0=some (XE () (((Xn L c.Name).drop 1).findSome? (λs=>cond ((XQ L s).any λy=>Uv f y) (some false) none))):=Zk (λj s hj=>by
   have hjl:=(Qb.1 hj).1;simp only [List.length_drop] at hjl;show Ij L m f ((Xn L c.Name).drop 1) (j:Int)=_;unfold Ij;rw [Xk hj,zo,hj];simp only [RT,Qa];obtain ⟨v,e1,e2⟩:∃v,zK L m s=some v/\v.1.Methods=XQ L s:=⟨_,Ke hm s,by unfold XQ;cases cl L s <;> rfl⟩;rw [e1];simp only [Qa];rw [e2,zFA hF.pars.1 (hs s),zz (by omega)];simp only [Qa]
   cases (XQ L s).any λy=>Uv f y <;> rfl) (by
   show Ij L m f ((Xn L c.Name).drop 1) (((Xn L c.Name).drop 1).length:Int)=_;unfold Ij
   rw [Xm];rfl)
  rw [hin,z7];unfold zlr;rw [zz (by omega)]
  cases ((Xn L c.Name).drop 1).any λs=>(XQ L s).any λy=>Uv f y <;> rfl) (by
  show Ii L m c (c.Methods.length:Int)=_;unfold Ii
  rw [Xm];rfl),z7]
 unfold K4;cases c.Methods.any λf=>((Xn L c.Name).drop 1).any λs=>(XQ L s).any λy=>Uv f y <;> rfl
end
def zJw(i:Bool):List zs:=cond i [(zs.mk 1 0 [] []),(zs.mk 47 0 [] [])] [(zs.mk 46 0 [] [])]
def zKm(i:Bool):Tx:=cond i [73] [86]
def zJE(ps:List Tx)(i st:Bool):zb:=zb.mk [102] ps (zKm i) st false ((ps.length:Int)+1) 1 (zJw i) [] []
def m0:zb:=zJE [] false false
section
variable {l L : List za} {m : List (Tx × Int)}
theorem ztK(hL:L.length≤30):BB L m=some (L.map (·.Name)):=by
 unfold BB
 have key:∀(r pre:List za),L=pre++r->zk (λz=>BQ L z.1 z.2) (pre.map (·.Name),(pre.length:Int))=some (.inl (L.map (·.Name))):=by
  intro r
  induction r with
  |nil =>
   intro pre e;rw [Qx] at e;rw [zG];show (BQ L (pre.map (·.Name)) (pre.length:Int)).bind _=_;unfold BQ;rw [<-e,Xm];rfl
  |cons c r ih =>
   intro pre e
   have hlen:L.length=pre.length+(r.length+1):=by rw [e];simp
   have hx:L[pre.length]?=some c:=by rw [e];simp
   have ih:=ih (pre++[c]) (by rw [e];simp);rw [show (pre++[c]).length=pre.length+1 by simp] at ih;rw [zG];show (BQ L (pre.map (·.Name)) (pre.length:Int)).bind _=_;unfold BQ;rw [Xk hx,zo,hx];simp only [RT,Qa];rw [zKc (by simp;omega) (by omega),zz (by omega)];rw [JN] at ih;exact ih
 rw [show zk (λz=>BQ L z.1 z.2) ([],0)=_ from key L [] rfl];rfl
def X7(L:List za)(n:Tx):za:=(cl L n).getD zC
structure zJ8(L:List za)(c:za):Prop where
 fields:c.Fields.length≤10000/\∀f∈c.Fields,f.Type_.length≤25
 methods:c.Methods.length≤10000/\∀f∈c.Methods,Dj f
end
section
variable {l : List za} {m : List (Tx × Int)} {ps qs : List Tx} {i j s t : Bool}
end
section
variable {l L : List za} {m : List (Tx × Int)}
theorem zAS{f:zb}(h:ZY f=true)(ha:f.Abstract=true)(h1:f.Code.length≤10000)(h2:f.Maps.length≤10000)(h3:f.Traps.length≤10000):f.Code=[]/\f.Traps=[]:=by
 unfold ZY at h;rw [ha] at h;simp only [Qd,RT] at h;obtain ⟨_,h5⟩:=h;unfold HV at h5;simp only [Qd] at h5;have h6:=h5.2;rw [ZE (n:=(f.Code.length:Int)+(f.Maps.length:Int)) (by omega) (by omega),ZE (by omega) (by omega)] at h6
 have h7:(f.Code.length:Int)+(f.Maps.length:Int)+(f.Traps.length:Int)=0:=by simpa using h6
 exact ⟨Qf (by omega),Qf (by omega)⟩
structure Hw(f:zb):Prop where
 pars:f.Params.length≤6/\∀s∈f.Params,Xq s=true
 ret:Z2 f.Ret=true
 traps:f.Traps.length≤6/\∀y∈f.Traps,y.C=[]∨XF y.C=true
 code:f.Code.length≤100/\∀x∈f.Code,UP x=true
theorem zJF{f:zb}(h:ZY f=true)(hF:zGP f):Hw f:=by
 obtain ⟨p1,p2,p3⟩:=zwb h
 cases ha:f.Abstract with
 |true =>
  obtain ⟨e1,e2⟩:=zAS h ha hF.code.len hF.maps.len hF.traps.len;exact ⟨⟨p2,p1⟩,p3,by rw [e2];exact ⟨Qo _,λy hy=>by cases hy⟩,by rw [e1];exact ⟨Qo _,λy hy=>by cases hy⟩⟩
 |false =>
  have hk:=zIN h ha;exact ⟨⟨p2,p1⟩,p3,⟨hk.ntraps,hk.traps⟩,hk.code.2,hk.ins⟩
theorem Hw.small{f:zb}(h:Hw f):Dj f where
 pars:=⟨by have:=h.pars.1;omega,λs hs=>KJ (h.pars.2 s hs)⟩
 ret:=WE h.ret
 traps:=⟨by have:=h.traps.1;omega,λy hy=>by
  rcases h.traps.2 y hy with e |e
  .rw [e];exact Qo _
  .have:=zq1 e;omega⟩
 code:=⟨by have:=h.code.1;omega,λx hx=>by have:=zFb (h.code.2 x hx);omega⟩
structure Zl(L:List za)(c:za):Prop where
 fields:c.Fields.length≤10000/\∀f∈c.Fields,Xq f.Type_=true
 methods:c.Methods.length≤10000/\∀f∈c.Methods,Hw f
 names:∀(i j:Nat) (f g:zb),c.Methods[i]?=some f->c.Methods[j]?=some g->f.Name=g.Name->i=j
theorem zwH{α:Type}{ok:α->Bool}{nm:α->List UInt8}:∀{r pre:List α},uB ok nm pre r=false->∀(i j:Nat) (x y:α),i<j->(pre++r)[i]?=some x->(pre++r)[j]?=some y->pre.length≤j->nm x≠nm y
 | [],pre,h,i,j,x,y,hij,hx,hy,hj=>by
  rw [Qx] at hy;have:=(Qb.1 hy).1;omega
 |z ::r,pre,h,i,j,x,y,hij,hx,hy,hj=>by
  unfold uB at h;simp only [Qn] at h;obtain ⟨⟨_,h2⟩,h3⟩:=h;by_cases e:j=pre.length
  .subst e
   have hz:y=z:=by simpa using hy.symm
   subst hz;rw [Qq hij] at hx;rw [Qw] at h2;intro e;exact h2 x (Qc hx) (by rw [e];simp)
  .refine zwH (r:=r) (pre:=pre++[z]) h3 i j x y hij (by simpa using hx) (by simpa using hy) (by simp;omega)
theorem zAA{α:Type}{ok:α->Bool}{nm:α->List UInt8}{r:List α}(h:uB ok nm [] r=false)(i j:Nat)(x y:α)(hx:r[i]?=some x)(hy:r[j]?=some y)(e:nm x=nm y):i=j:=by
 rcases Nat.lt_trichotomy i j with k |k |k
 .exact absurd e (zwH h i j x y k (by simpa using hx) (by simpa using hy) (Qo _))
 .exact k
 .exact absurd e.symm (zwH h j i y x k (by simpa using hy) (by simpa using hx) (Qo _))
theorem zCE{f:zg}(h:K5 f=true):Xq f.Type_=true:=by
 unfold K5 at h;simp only [Qd] at h;exact h.2
theorem zIw(h:Xe l L)(hF:∀c∈L,X8 c){c:za}(hc:c∈L):Zl L c:=by
 have hf:=hF c hc;have hfl:=hf.fields.len;have hml:=hf.methods.len;have hmd:∀f∈c.Methods,Hw f:=λf hm=>zJF (zzX h hc hm) (hf.methods.all f hm);rw [h.app] at hc
 rcases Qm.1 hc with e |e
 .have hg:giv.all (λc=>decide (c.Methods.length=0)&&decide (c.Fields.length=0))=true:=by decide +kernel
  have:=Qp.1 hg c e;simp only [Qd,decide_eq_true_eq] at this;have e1:=Qf this.1;have e2:=Qf this.2;exact ⟨⟨hfl,λf hx=>by rw [e2] at hx;cases hx⟩,⟨hml,hmd⟩,λi j f g hx=>by rw [e1] at hx;simp at hx⟩
 .have hm:=h.may c e;unfold ZN at hm;simp only [Qd,Qk,decide_eq_true_eq] at hm;obtain ⟨_,⟨⟨⟨_,_⟩,h5,_⟩,h6,_⟩⟩:=hm;exact ⟨⟨hfl,λf hx=>zCE (B2 h5 f hx)⟩,⟨hml,hmd⟩,λi j f g hx hy=>zAA h6 i j f g hx hy⟩
theorem Zl.small{c:za}(h:Zl L c):zJ8 L c:=⟨⟨h.fields.1,λf hf=>KJ (h.fields.2 f hf)⟩,⟨h.methods.1,λf hf=>(h.methods.2 f hf).small⟩⟩
theorem zyK:Xq []=false:=by decide +kernel
theorem zIL:Xq [84]=false:=by decide +kernel
theorem zIK:Xq [78]=false:=by decide +kernel
theorem WC{t s:Tx}(h:Xq t=true)(hs:Xq s=false):(t == s)=false:=by
 refine RB.2 λe=>?_;rw [e,hs] at h;cases h
theorem zq7{t:Tx}(h:Xq t=true):Zf L t=!thN L t:=by
 unfold Zf Z1;rw [WC h zHI,WC h zyK,WC h zIK,WC h zIL];simp
theorem zzK:Zf L []=false:=by unfold Zf;simp
theorem zE6{t:Tx}(h:Z2 t=true):Zf L t=(!(t == [86])&&!thN L t):=by
 unfold Z2 at h;rw [Qt] at h
 rcases h with h |h
 .unfold Zf;rw [h];rfl
 .rw [zq7 h,WC h zHI];simp
theorem zI9{t:Tx}(h:XF t=true):thN L t=Xj L t:=by
 unfold thN zAr;have e:ess t=t:=Og (WX h);rw [WW h,e,QC]
 have:(t == [73])=false:=RB.2 λe=>by rw [e,zqf] at h;cases h
 rw [this,QU]
theorem zCS{t:Tx}(h:t=[]∨XF t=true):Zf L t=(!(t == [])&&!Xj L t):=by
 rcases h with h |h
 .rw [h,zzK];rfl
 .rw [zq7 (WW h),zI9 h,WC (WW h) zyK];simp
theorem zzP{x:zs}(h:UP x=true):x.C=[]∨Xq x.C=true:=by
 unfold UP at h;simp only [Qd] at h;have:=h.1.2;unfold HB at this;cases h1:Gd x.Op <;> rw [h1] at this
 .cases h2:Db x.Op <;> rw [h2] at this
  .exact .inl (by simpa using this)
  .exact .inr (WW this)
 .simp only [RT] at this;unfold ZD at this;simp only [Qd] at this;exact .inr this.2
theorem zE5{x:zs}(h:UP x=true):Zf L x.C=(!(x.C == [])&&!thN L x.C):=by
 rcases zzP h with e |e
 .rw [e,zzK];rfl
 .rw [zq7 e,WC e zyK];simp
theorem op4(o a b c d:Int)(h1:b=a+1)(h2:c=a+2)(h3:d=a+3):(decide (a≤o)&&decide (o≤d))=((((o == a)||(o == b))||(o == c))||(o == d)):=by
 rw [QK];simp only [Qd,Qt,decide_eq_true_eq,beq_iff_eq];omega
theorem op3(o a b c:Int)(h1:b=a+1)(h2:c=a+2):(decide (a≤o)&&decide (o≤c))=(((o == a)||(o == b))||(o == c)):=by
 rw [QK];simp only [Qd,Qt,decide_eq_true_eq,beq_iff_eq];omega
theorem zxM(h:Xe l L)(hL:XL L){x:zs}(hx:UP x=true):zjG L x=some (!G8 L x):=by
 have h26:=h.len;have h10:=zFb hx;unfold zjG G8 Bz;rw [zE5 hx,Kz h (by omega),op4 x.Op 38 39 40 41 rfl rfl rfl,op3 x.Op 42 43 44 rfl rfl,zsB h hL,zt6 h hL,znM h hL,Zb (by omega)]
 have e:(cond (!(x.C == [])) ((some (thN L x.C)).bind λv3=>some (!v3)) (some false):Option Bool)=some (!(x.C == [])&&!thN L x.C):=by cases x.C == [] <;> rfl
 rw [e];simp only [Qa]
 cases !(x.C == [])&&!thN L x.C with
 |true=>rfl
 |false =>
  unfold zz0 X4;simp only [RF,QU,Bool.not_not]
  cases (((x.Op == 38)||(x.Op == 39))||(x.Op == 40))||(x.Op == 41) with
  |true=>rfl
  |false =>
   simp only [RF]
   cases ((x.Op == 42)||(x.Op == 43))||(x.Op == 44) with
   |false =>
    simp only [RF];cases x.Op == 45 <;> rfl
   |true =>
    simp only [RT]
    cases hq:(((Xn L x.C).findSome? (Za L UF x.M)).getD ([],zM,false)).2.2 with
    |false=>rfl
    |true =>
     simp only [RT,QC];rw [U6]
     cases hc:cl L x.C with
     |none =>
      exfalso;rw [DH (HH hc)] at hq;cases hq
     |some c =>
      have:isF L x.C=c.Interface:=by unfold isF;rw [hc]
      rw [this];rfl
end
section
variable {l L : List za} {m : List (Tx × Int)}
theorem zH2(h:Xe l L){f:zb}(hf:Hw f):zk (λz=>ES L f z) 0=some (XE () (cond (f.Params.any λx=>Zf L x) (some false) none)):=by
 have h6:=hf.pars.1;rw [<-z7]
 exact Zk (λi s hs=>by
  have hi:=(Qb.1 hs).1;have hm:=hf.pars.2 s (Qc hs);show ES L f (i:Int)=_;unfold ES;rw [Xk hs,zo,hs];simp only [RT,Qa];rw [Kz h (by have:=KJ hm;omega),zq7 hm,zz (by omega)];simp only [Qa]
  cases thN L s <;> rfl) (by
  show ES L f (f.Params.length:Int)=_;unfold ES
  rw [Xm];rfl)
theorem zFJ(h:Xe l L){f:zb}(hf:Hw f):zk (λz=>Iq L f z) 0=some (XE () (cond (f.Traps.any λx=>Zf L x.C) (some false) none)):=by
 have h6:=hf.traps.1;have h26:=h.len;rw [<-z7]
 exact Zk (λi s hs=>by
  have hi:=(Qb.1 hs).1;have hm:=hf.traps.2 s (Qc hs);show Iq L f (i:Int)=_;unfold Iq;rw [Xk hs,zo,hs];simp only [RT,Qa];rw [Zb (by omega),zCS hm,zz (by omega)];simp only [Qa];rw [Gz]
  cases s.C == [] <;> cases Xj L s.C <;> rfl) (by
  show Iq L f (f.Traps.length:Int)=_;unfold Iq
  rw [Xm];rfl)
theorem zH0(h:Xe l L)(hL:XL L){f:zb}(hf:Hw f):zk (λz=>Ip L f z) 0=some (XE () (cond (f.Code.any λx=>G8 L x) (some false) none)):=by
 have h6:=hf.code.1;rw [<-z7]
 exact Zk (λi s hs=>by
  have hi:=(Qb.1 hs).1;have hm:=hf.code.2 s (Qc hs);show Ip L f (i:Int)=_;unfold Ip;rw [Xk hs,zo,hs];simp only [RT,Qa];rw [zxM h hL hm,zz (by omega)];simp only [Qa]
  cases G8 L s <;> rfl) (by
  show Ip L f (f.Code.length:Int)=_;unfold Ip
  rw [Xm];rfl)
theorem zH1(h:Xe l L)(hL:XL L){c:za}(hc:Zl L c):zk (λz=>Io L c z) 0=some (XE () (cond (c.Methods.any λx=>DC L x) (some false) none)):=by
 have h6:=hc.methods.1;rw [<-z7]
 exact Zk (λi f hs=>by
  have hi:=(Qb.1 hs).1;have hf:=hc.methods.2 f (Qc hs);show Io L c (i:Int)=_;unfold Io;rw [Xk hs,zo,hs];simp only [RT,Qa];rw [Kz h (by have:=WE hf.ret;omega)]
  have e1:(cond (!(f.Ret == [86])) ((some (thN L f.Ret)).bind λv37=>some (!v37)) (some false):Option Bool)=some (Zf L f.Ret):=by rw [zE6 hf.ret];cases f.Ret == [86] <;> rfl
  rw [e1,zH2 h hf];unfold zlP;rw [zFJ h hf];unfold zlQ;rw [zH0 h hL hf];unfold zlR;rw [zz (by omega)];unfold DC
  cases Zf L f.Ret <;> cases (f.Params.any λx=>Zf L x) <;> cases (f.Traps.any λx=>Zf L x.C) <;> cases (f.Code.any λx=>G8 L x) <;> rfl) (by
  show Io L c (c.Methods.length:Int)=_;unfold Io
  rw [Xm];rfl)
theorem zy1(h:Xe l L)(hL:XL L){c:za}(hc:Zl L c):zjH L c=some (K7 L c):=by
 have h6:=hc.fields.1;unfold zjH
 rw [show zk (λz=>ET L c z) 0=some (XE () (c.Fields.findSome? λx=>cond (Zf L x.Type_) (some false) none)) from Zk (λi f hs=>by
  have hi:=(Qb.1 hs).1;have hm:=hc.fields.2 f (Qc hs);show ET L c (i:Int)=_;unfold ET;rw [Xk hs,zo,hs];simp only [RT,Qa];rw [Kz h (by have:=KJ hm;omega),zq7 hm,zz (by omega)];simp only [Qa]
  cases thN L f.Type_ <;> rfl) (by
  show ET L c (c.Fields.length:Int)=_;unfold ET
  rw [Xm];rfl),z7]
 unfold zmn;rw [zH1 h hL hc];unfold K7;cases (c.Fields.any λx=>Zf L x.Type_) <;> cases (c.Methods.any λx=>DC L x) <;> rfl
def zJo(T:List zb):Prop:=∀(i j:Nat) (f g:zb),T[i]?=some f->T[j]?=some g->f.Name=g.Name->i=j
theorem zvx{T:List zb}{n:Tx}{q:zb->Bool}(hu:zJo T):(T.any λy=>(y.Name == n)&&q y)=(match T.find? (λy=>y.Name == n) with |some y=>q y |none=>false):=by
 cases hf:T.find? (λy=>y.Name == n) with
 |none =>
  rw [JP] at hf;rw [Qw];intro y hy;have:=hf y hy;simp only [Yv] at this;simp [this]
 |some y =>
  have h1:=QG hf
  have h2:y.Name=n:=by simpa using List.find?_some hf
  rw [QK,QB];constructor
  .rintro ⟨z,hz,k⟩;simp only [Qd,beq_iff_eq] at k;obtain ⟨i,hi⟩:=JC.1 hz;obtain ⟨j,hj⟩:=JC.1 h1;have:=hu i j z y hi hj (by rw [k.1,h2]);subst this;rw [hi] at hj;cases hj;exact k.2
  .intro k;exact ⟨y,h1,by simp [h2];exact k⟩
theorem zGq{α:Type}(p:α->Bool)(l:List α):decide (ixF p 0 l<0)=!(l.find? p).isSome:=by
 rw [<-Hc];by_cases h:0≤ixF p 0 l
 .rw [RD h,RE (by omega)];rfl
 .rw [RE h,RD (by omega)];rfl
theorem zna(a b:zb):Ui a b=Ui b a:=by
 unfold Ui;rw [QK];simp only [Qd,beq_iff_eq];exact ⟨λh=>⟨h.1.symm,h.2.symm⟩,λh=>⟨h.1.symm,h.2.symm⟩⟩
theorem zo9{a b:zb}(h:a.Params.length≤10000):WY a b=some (Ui a b):=by
 unfold WY Ui;rw [zsM (by omega)];rfl
theorem zwd{s:Tx}{x:za}(h:cl L s=some x):XQ L s=x.Methods:=by unfold XQ;rw [h]
theorem zI2(h:Xe l L)(hD:∀c∈L,Zl L c){c:za}{T:List Tx}{i j:Nat}{f:zb}{s:Tx}(hf:c.Methods[i]?=some f)(hp:f.Params.length≤10000)(hj:T[j]?=some s)(hjl:j<1000)(hs:Xj L s=true):
  E4 L c T (i:Int) (j:Int)=some (UJ j (cond ((XQ L s).any λy=>Uv f y) (some false) none)):=by
 have h26:=h.len;obtain ⟨x,hx⟩:=X0 hs;have hxd:=hD x (XO hx).1;have hm0:=hxd.methods.1;unfold E4;rw [Xk hj,zo T,hj];simp only [RT,Qa];rw [Zb (by omega)];simp only [Qa];rw [U6,hx];simp only [Qa];rw [zo c.Methods,hf];simp only [Qa];rw [Ba (by unfold XG;omega)];simp only [Qa];rw [zGq,G9,zwd hx]
 have e:(x.Methods.any λy=>Uv f y)=x.Methods.any λy=>(y.Name == f.Name)&&(!(f.Name == [36,105,110,105,116])&&((!Ui f y||f.Static)||y.Static)):=by
  congr 1;funext y;unfold Uv;rw [Bool.and_assoc]
 rw [e,zvx hxd.names];unfold zgg zhl;rw [zz (by omega)]
 cases hq:x.Methods.find? (λy=>y.Name == f.Name) with
 |none=>rfl
 |some y =>
  have hy:=QG hq;have hyd:=(hxd.methods.2 y hy).pars.1;simp only [JA,Qr,RF,Qa];rw [zo9 (by omega),zna y f];simp only [Qa];cases f.Name == [36,105,110,105,116] <;> cases Ui f y <;> cases f.Static <;> cases y.Static <;> rfl
end
section
variable {l L : List za} {m : List (Tx × Int)}
theorem zFC(h:Xe l L)(hD:∀c∈L,Zl L c){c:za}{T:List Tx}{i:Nat}{f:zb}(hf:c.Methods[i]?=some f)(hp:f.Params.length≤10000)(hT:T.length≤1000)(hT2:∀s∈T,Xj L s=true):
  zk (λz=>E4 L c T (i:Int) z) 0=some (XE () (cond (T.any λs=>(XQ L s).any λy=>Uv f y) (some false) none)):=by
 rw [<-z7]
 exact Zk (λj s hj=>by
  have hjl:=(Qb.1 hj).1
  exact zI2 h hD hf hp hj (by omega) (hT2 s (Qc hj))) (by
  show E4 L c T (i:Int) (T.length:Int)=_;unfold E4
  rw [Xm];rfl)
theorem zHU(h:Xe l L)(hD:∀c∈L,Zl L c){c:za}(hc:Zl L c){T:List Tx}(hT:T.length≤1000)(hT2:∀s∈T,Xj L s=true):
  zk (λz=>E3 L c T z) 0=some (XE () (cond (c.Methods.any λf=>T.any λs=>(XQ L s).any λy=>Uv f y) (some false) none)):=by
 have h6:=hc.methods.1;rw [<-z7]
 exact Zk (λi f hf=>by
  have hi:=(Qb.1 hf).1;have hm:=hc.methods.2 f (Qc hf);show E3 L c T (i:Int)=_;unfold E3;rw [Xk hf,zFC h hD hf (by have:=hm.pars.1;omega) hT hT2];unfold zlM;rw [zz (by omega)]
  cases (T.any λs=>(XQ L s).any λy=>Uv f y) <;> rfl) (by
  show E3 L c T (c.Methods.length:Int)=_;unfold E3
  rw [Xm];rfl)
def XU(f y:zb):Bool:=(y.Name == f.Name)&&!Ui f y
def Gm(L:List za)(c:Tx)(f:zb):Bool:=(chN L c f.Name).2&&(XQ L (chN L c f.Name).1).any λy=>(y.Name == f.Name)&&Ui f y
theorem IQ(hD:∀c∈L,Zl L c)(s:Tx):(XQ L s).length≤10000/\∀f∈XQ L s,Hw f:=by
 unfold XQ
 cases hc:cl L s with
 |none=>exact ⟨Qo _,λf hf=>by cases hf⟩
 |some x=>exact (hD x (XO hc).1).methods
theorem zHY(h:Xe l L)(hD:∀c∈L,Zl L c){T:List Tx}{f:zb}(hp:f.Params.length≤10000)(hT:T.length≤1000)(hT2:∀s∈T,Xj L s=true):
  zk (λz=>EU L T f z) 0=some (XE () (cond (T.any λs=>(XQ L s).any λy=>XU f y) (some false) none)):=by
 have h26:=h.len;rw [<-z7]
 exact Zk (λj s hj=>by
  have hjl:=(Qb.1 hj).1;obtain ⟨x,hx⟩:=X0 (hT2 s (Qc hj));have hxd:=hD x (XO hx).1;have hm0:=hxd.methods.1;show EU L T f (j:Int)=_;unfold EU;rw [Xk hj,zo T,hj];simp only [RT,Qa];rw [Zb (by omega)];simp only [Qa];rw [U6,hx];simp only [Qa];rw [Ba (by unfold XG;omega)];simp only [Qa];rw [Hc,G9,zwd hx];have e:(x.Methods.any λy=>XU f y)=x.Methods.any λy=>(y.Name == f.Name)&&!Ui f y:=rfl;rw [e,zvx hxd.names];unfold zhR;rw [zz (by omega)]
  cases hq:x.Methods.find? (λy=>y.Name == f.Name) with
  |none=>rfl
  |some y =>
   have hy:=QG hq;have hyd:=(hxd.methods.2 y hy).pars.1;simp only [JA,RT,Qa];rw [zo9 (by omega),zna y f];simp only [Qa]
   cases Ui f y <;> rfl) (by
  show EU L T f (T.length:Int)=_;unfold EU
  rw [Xm];rfl)
theorem zEP{c n:Tx}(h:(chN L c n).2=true):∃x f,cl L (chN L c n).1=some x/\x.Methods.find? (λy=>y.Name == n)=some f:=by
 unfold chN at h ⊢
 cases hb:(Xj L c&&!isF L c) with
 |false=>rw [hb] at h;cases h
 |true =>
  rw [hb] at h;simp only [RT] at h ⊢
  cases hq:(Xn L c).findSome? (chG L n) with
  |none=>rw [hq] at h;cases h
  |some r =>
   rw [hq] at h;simp only [Ju] at h ⊢;obtain ⟨s,hs,hr⟩:=Q5 hq;unfold chG at hr
   cases hc:cl L s with
   |none=>rw [hc] at hr;cases hr
   |some x =>
    rw [hc] at hr;simp only at hr
    cases hf:x.Methods.find? (λy=>y.Name == n) with
    |none=>rw [hf] at hr;cases hr
    |some f =>
     rw [hf] at hr;simp only at hr
     cases hst:f.Static with
     |true=>rw [hst] at hr;cases hr
     |false =>
      rw [hst] at hr
      have e:r=(s,true):=by simpa using hr.symm
      rw [e];exact ⟨x,f,hc,hf⟩
theorem zFe(h:Xe l L)(hL:XL L)(hD:∀c∈L,Zl L c){c:za}{T:List Tx}{f:zb}(hp:f.Params.length≤10000)(hT:T.length≤1000)(hT2:∀s∈T,Xj L s=true):
  zif L c T f=some (!(T.any λs=>(XQ L s).any λy=>XU f y)&&(c.Interface||Gm L c.Name f)):=by
 have h26:=h.len;unfold zif;rw [zHY h hD hp hT hT2]
 cases (T.any λs=>(XQ L s).any λy=>XU f y) with
 |true=>rfl
 |false =>
  simp only [RF,XE,Qa,zB,QH,QC];unfold zml
  cases c.Interface with
  |true=>rfl
  |false =>
   simp only [RF,QU];rw [zxK h hL];simp only [Qa];unfold Gm
   cases hq:(chN L c.Name f.Name).2 with
   |false=>rfl
   |true =>
    obtain ⟨x,y,hx,hy⟩:=zEP hq;have hxd:=hD x (XO hx).1;have hm0:=hxd.methods.1;have hyd:=(hxd.methods.2 y (QG hy)).pars.1;simp only [Qr,RF,QC];rw [Zb (by omega)];simp only [Qa];rw [U6,hx];simp only [Qa];rw [Ba (by unfold XG;omega)];simp only [Qa];rw [G9,hy];simp only [Qa];rw [zo9 (by omega),zwd hx,zvx hxd.names,hy,zna y f];rfl
def UX(L:List za)(n:Tx):List zb:=(XN L n).flatMap (XQ L)
def U7(L:List za)(c:za):Bool:=!((UX L c.Name).any λf=>(UX L c.Name).any λy=>XU f y)&&(c.Interface||!((UX L c.Name).any λf=>!Gm L c.Name f))
theorem zFd(c:za):((XN L c.Name).any λs=>(XQ L s).any λf=>!(!((XN L c.Name).any λs=>(XQ L s).any λy=>XU f y)&&(c.Interface||Gm L c.Name f)))=!U7 L c:=by
 have e1:∀f,((XN L c.Name).any λs=>(XQ L s).any λy=>XU f y)=(UX L c.Name).any λy=>XU f y:=λf=>by unfold UX;rw [List.any_flatMap]
 have e2:∀p:zb->Bool,((XN L c.Name).any λs=>(XQ L s).any p)=(UX L c.Name).any p:=λp=>by unfold UX;rw [List.any_flatMap]
 rw [e2];simp only [e1];unfold U7;generalize UX L c.Name=A;rw [QK];simp only [Qk,JB,QB,Qn,Q6,QB];constructor
 .rintro ⟨f,hf,h |⟨h1,h2⟩⟩
  .exact .inl ⟨f,hf,by simpa using h⟩
  .exact .inr ⟨h1,f,hf,by simpa using h2⟩
 .rintro (⟨f,hf,h⟩ |⟨h1,f,hf,h2⟩)
  .exact ⟨f,hf,.inl (by simpa using h)⟩
  .exact ⟨f,hf,.inr ⟨h1,by simpa using h2⟩⟩
theorem zFD(h:Xe l L)(hL:XL L)(hD:∀c∈L,Zl L c){c:za}:zi6 L c=some (U7 L c):=by
 have h26:=h.len;have h52:=Ox h c.Name;unfold zi6;rw [zpb h];simp only [Qa]
 rw [show zk (λz=>E1 L c (XN L c.Name) z) 0=some (XE () ((XN L c.Name).findSome? λs=>cond ((XQ L s).any λf=>!(!((XN L c.Name).any λs=>(XQ L s).any λy=>XU f y)&&(c.Interface||Gm L c.Name f))) (some false) none)) from Zk (λi s hs=>by
  have hi:=(Qb.1 hs).1;obtain ⟨x,hx⟩:=X0 (Oy h (Qc hs));have hxd:=hD x (XO hx).1;have hm0:=hxd.methods.1;show E1 L c (XN L c.Name) (i:Int)=_;unfold E1;rw [Xk hs,zo,hs];simp only [RT,Qa];rw [Zb (by omega)];simp only [Qa];rw [U6,hx];simp only [Qa]
  rw [show zk (λz=>E2 L c (XN L c.Name) x z) 0=some (XE () (x.Methods.findSome? λf=>cond (!(!((XN L c.Name).any λs=>(XQ L s).any λy=>XU f y)&&(c.Interface||Gm L c.Name f))) (some false) none)) from Zk (λk f hf=>by
   have hk:=(Qb.1 hf).1;have hfd:=(hxd.methods.2 f (Qc hf)).pars.1;show E2 L c (XN L c.Name) x (k:Int)=_;unfold E2;rw [Xk hf,zo,hf];simp only [RT,Qa];rw [zFe h hL hD (by omega) (by omega) (λs hs=>Oy h hs),zz (by omega)];simp only [Qa]
   cases (!((XN L c.Name).any λs=>(XQ L s).any λy=>XU f y)&&(c.Interface||Gm L c.Name f)) <;> rfl) (by
   show E2 L c (XN L c.Name) x (x.Methods.length:Int)=_;unfold E2
   rw [Xm];rfl),z7,zwd hx]
  unfold zlN;rw [zz (by omega)]
  cases (x.Methods.any λf=>!(!((XN L c.Name).any λs=>(XQ L s).any λy=>XU f y)&&(c.Interface||Gm L c.Name f))) <;> rfl) (by
  show E1 L c (XN L c.Name) ((XN L c.Name).length:Int)=_;unfold E1
  rw [Xm];rfl),z7,zFd]
 unfold zlO;cases U7 L c <;> rfl
theorem zy0(h:Xe l L)(hL:XL L)(hD:∀c∈L,Zl L c){c:za}(hc:c∈L):zjF L c=some (K4 L c&&U7 L c):=by
 have hn:Xj L c.Name=true:=ZB (h.nd.cl hc);have h1:=zEa h hn;have h26:=Z7 h c.Name;unfold zjF;rw [HZ h];simp only [Qa];rw [show (1:Int)=((1:Nat):Int) from rfl,GI h1];simp only [Qa];rw [zHU h hD (hD c hc) (by simp;omega) (λs hs=>OD h c.Name s (J9 hs)),zFD h hL hD];unfold K4;cases (c.Methods.any λf=>((Xn L c.Name).drop 1).any λs=>(XQ L s).any λy=>Uv f y) <;> rfl
end
section
variable {l L : List za} {m : List (Tx × Int)}
theorem zCD{f y:zb}(h:f.Params.length≤10000):zkj y f.Name f.Params f.Ret f.Static f.Abstract f.Locals f.Stack f.Code f.Maps f.Traps=some (XU f y):=by
 unfold zkj XU;rw [zvt (a:=zb.mk f.Name f.Params f.Ret f.Static f.Abstract f.Locals f.Stack f.Code f.Maps f.Traps) h];cases y.Name == f.Name <;> rfl
theorem zG4{f:zb}(h:f.Params.length≤10000){T:List zb}(hl:T.length≤10000000):zaj T f.Name f.Params f.Ret f.Static f.Abstract f.Locals f.Stack f.Code f.Maps f.Traps=some (T.any λy=>XU f y):=by
 unfold zaj zbQ
 rw [show ((zk (λz=>zaC T f.Name f.Params f.Ret f.Static f.Abstract f.Locals f.Stack f.Code f.Maps f.Traps z) 0).bind λo=>zB o (λb=>zc1) some)=_ from Zo (l:=T) (p:=λy:zb=>XU f y) (by omega) (λi x hx=>by
   unfold zaC;rw [Xk hx,zo,hx];simp only [Qa,RT];rw [zCD h]
   rfl) (by unfold zaC;rw [Xm];rfl)]
 rw [Qa,ZF]
theorem zHw{f y:zb}(h:f.Params.length≤10000):zma y f.Name f.Params f.Ret f.Static f.Abstract f.Locals f.Stack f.Code f.Maps f.Traps=some ((y.Name == f.Name)&&Ui f y):=by
 unfold zma;rw [zvt (a:=zb.mk f.Name f.Params f.Ret f.Static f.Abstract f.Locals f.Stack f.Code f.Maps f.Traps) h];cases y.Name == f.Name <;> rfl
theorem zHy{f:zb}(h:f.Params.length≤10000){T:List zb}(hl:T.length≤10000):zal T f.Name f.Params f.Ret f.Static f.Abstract f.Locals f.Stack f.Code f.Maps f.Traps=some (T.any λy=>(y.Name == f.Name)&&Ui f y):=by
 unfold zal zbS
 rw [show ((zk (λz=>zaE T f.Name f.Params f.Ret f.Static f.Abstract f.Locals f.Stack f.Code f.Maps f.Traps z) 0).bind λo=>zB o (λb=>zc3) some)=_ from Zo (l:=T) (p:=λy:zb=>(y.Name == f.Name)&&Ui f y) (by omega) (λi x hx=>by
   unfold zaE;rw [Xk hx,zo,hx];simp only [Qa,RT];rw [zHw h]
   rfl) (by unfold zaE;rw [Xm];rfl)]
 rw [Qa,ZF]
theorem zJC(h:Xe l L)(hm:Xu L m)(hL:XL L)(hD:∀c∈L,Zl L c){c:Tx}{f:zb}(hp:f.Params.length≤10000):zps L m c f=some (Gm L c f):=by
 unfold zps Gm;rw [zEQ h hm hL];simp only [Qa]
 cases (chN L c f.Name).2 with
 |false=>rfl
 |true =>
  simp only [Qr,RF,QC];obtain ⟨v,e1,e2⟩:∃v,zK L m (chN L c f.Name).1=some v/\v.1.Methods=XQ L (chN L c f.Name).1:=⟨_,Ke hm _,by unfold XQ;cases cl L (chN L c f.Name).1 <;> rfl⟩;rw [e1];simp only [Qa];rw [e2,zHy hp (IQ hD _).1];rfl
theorem zHR(h:Xe l L)(hm:Xu L m)(hL:XL L)(hD:∀c∈L,Zl L c){c:za}{T:List zb}(hl:T.length≤10000000)(hT:∀f∈T,f.Params.length≤10000):
  zak T L m c.Name c.Super c.Interface c.Impl c.Fields c.Methods=some (T.any λf=>!Gm L c.Name f):=by
 unfold zak zbR
 rw [show ((zk (λz=>zaD T L m c.Name c.Super c.Interface c.Impl c.Fields c.Methods z) 0).bind λo=>zB o (λb=>zc2) some)=_ from Zo (l:=T) (p:=λf:zb=>!Gm L c.Name f) (by omega) (λi x hx=>by
   unfold zaD zmu;rw [Xk hx,zo,hx];simp only [Qa,RT];rw [zJC h hm hL hD (hT x (Qc hx))]
   rfl) (by unfold zaD;rw [Xm];rfl)]
 rw [Qa,ZF]
def ZL:List zb->List zb->Option (List zb)
 |acc,[]=>some acc
 |acc,f ::r=>cond (acc.any λy=>XU f y) none (ZL (acc++[f]) r)
theorem zzg:∀(A acc B:List zb),ZL acc (A++B)=(ZL acc A).bind λa=>ZL a B
 | [],acc,B=>rfl
 |f ::r,acc,B=>by
  show cond (acc.any λy=>XU f y) none (ZL (acc++[f]) (r++B))=(cond (acc.any λy=>XU f y) none (ZL (acc++[f]) r)).bind λa=>ZL a B;rw [zzg r (acc++[f]) B];cases (acc.any λy=>XU f y) <;> rfl
theorem zB0:∀(A acc a:List zb),ZL acc A=some a->a=acc++A
 | [],acc,a,h=>by
  have:a=acc:=by simpa [ZL] using h.symm
  rw [this];simp
 |f ::r,acc,a,h=>by
  have h:cond (acc.any λy=>XU f y) none (ZL (acc++[f]) r)=some a:=h
  cases hb:(acc.any λy=>XU f y) with
  |true=>rw [hb] at h;cases h
  |false =>
   rw [hb] at h;rw [zB0 r (acc++[f]) a h];simp
theorem zEL{f y:zb}(h:XU f y=true):XU y f=true:=by
 unfold XU at h ⊢;simp only [Qd,beq_iff_eq] at h ⊢;exact ⟨h.1.symm,by rw [zna];exact h.2⟩
theorem zEM(f:zb):XU f f=false:=by
 unfold XU Ui;simp
theorem zwQ:∀(A acc:List zb),(∃f∈A,∃y∈acc++A,XU f y=true)->ZL acc A=none
 | [],acc,⟨f,hf,_⟩=>by cases hf
 |f ::r,acc,⟨g,hg,y,hy,hb⟩=>by
  show cond (acc.any λy=>XU f y) none (ZL (acc++[f]) r)=none
  cases ha:(acc.any λy=>XU f y) with
  |true=>rfl
  |false =>
   rw [Qw] at ha;show ZL (acc++[f]) r=none;refine zwQ r (acc++[f]) ?_
   have hy2:y∈(acc++[f])++r:=by simpa using hy
   rcases Qu.1 hg with e |e
   .subst e
    rcases Qm.1 hy with k |k
    .exact absurd hb (ha y k)
    .rcases Qu.1 k with e |e
     .subst e;rw [zEM] at hb;cases hb
     .exact ⟨y,e,g,by simp,zEL hb⟩
   .exact ⟨g,e,y,hy2,hb⟩
theorem zwR:∀(A acc:List zb),(∀f∈A,∀y∈acc++A,XU f y=false)->ZL acc A=some (acc++A)
 | [],acc,_=>by simp [ZL]
 |f ::r,acc,h=>by
  show cond (acc.any λy=>XU f y) none (ZL (acc++[f]) r)=_
  have ha:(acc.any λy=>XU f y)=false:=by
   rw [Qw];intro y hy;rw [h f (by simp) y (by simp [hy])];simp
  rw [ha];show ZL (acc++[f]) r=_;rw [zwR r (acc++[f]) λg hg y hy=>h g (by simp [hg]) y (by simpa using hy)];simp
theorem zEF(A:List zb):ZL [] A=cond (A.any λf=>A.any λy=>XU f y) none (some A):=by
 cases h:(A.any λf=>A.any λy=>XU f y) with
 |true =>
  rw [QB] at h;obtain ⟨f,hf,h⟩:=h;rw [QB] at h;obtain ⟨y,hy,h⟩:=h;exact zwQ A [] ⟨f,hf,y,by simpa using hy,h⟩
 |false =>
  rw [Qw] at h
  have:=zwR A [] λf hf y hy=>by
   have h1:=h f hf;simp only [Yv,Qw] at h1;simpa using h1 y (by simpa using hy)
  simpa using this
theorem zzG(x:za)(b:Bool)(hp:∀f∈x.Methods,f.Params.length≤10000)(hn:x.Methods.length≤10000):∀(r pre acc:List zb),x.Methods=pre++r->acc.length+r.length≤1000000 ->
  zk (λz=>Eu (x,b) z.1 z.2) (acc,(pre.length:Int))=some (match ZL acc r with |some a=>.inl a |none=>.inr false)
 | [],pre,acc,e,hl=>by
  rw [Qx] at e;rw [zG];show (Eu (x,b) acc (pre.length:Int)).bind _=_;unfold Eu;simp only;rw [<-e,Xm];rfl
 |f ::r,pre,acc,e,hl=>by
  have hx:x.Methods[pre.length]?=some f:=by rw [e];simp
  have hlen:x.Methods.length=pre.length+(r.length+1):=by rw [e];simp
  simp only [Qv] at hl;rw [zG];show (Eu (x,b) acc (pre.length:Int)).bind _=_;unfold Eu;simp only;rw [Xk hx,zo,hx];simp only [RT,Qa];rw [zG4 (hp f (Qc hx)) (by omega)];simp only [Qa]
  show _=some (match cond (acc.any λy=>XU f y) none (ZL (acc++[f]) r) with |some a=>Sum.inl a |none=>Sum.inr false)
  cases (acc.any λy=>XU f y) with
  |true=>rfl
  |false =>
   simp only [RF];rw [XJ (by simp;omega) (by simp;omega)];simp only [Qa];rw [zz (by omega)];have ih:=zzG x b hp hn r (pre++[f]) (acc++[f]) (by rw [e];simp) (by simp;omega);rw [show (pre++[f]).length=pre.length+1 by simp] at ih;exact ih
theorem zzH(h:Xe l L)(hm:Xu L m)(hD:∀c∈L,Zl L c){T:List Tx}(hT:T.length≤52):∀(r pre:List Tx) (acc:List zb),T=pre++r->acc.length≤10000*pre.length ->
  zk (λz=>Et L m T z.1 z.2) (acc,(pre.length:Int))=some (match ZL acc (r.flatMap (XQ L)) with |some a=>.inl a |none=>.inr false)
 | [],pre,acc,e,hl=>by
  rw [Qx] at e;rw [zG];show (Et L m T acc (pre.length:Int)).bind _=_;unfold Et;rw [<-e,Xm];rfl
 |s ::r,pre,acc,e,hl=>by
  have hx:T[pre.length]?=some s:=by rw [e];simp
  have hlen:T.length=pre.length+(r.length+1):=by rw [e];simp
  have hd:=IQ hD s
  obtain ⟨x,b,e1,e2⟩:∃x b,zK L m s=some (x,b)/\x.Methods=XQ L s:=by
   rw [Ke hm];unfold XQ
   cases cl L s with
   |none=>exact ⟨_,_,rfl,rfl⟩
   |some x=>exact ⟨_,_,rfl,rfl⟩
  rw [zG];show (Et L m T acc (pre.length:Int)).bind _=_;unfold Et;rw [Xk hx,zo,hx];simp only [RT,Qa];rw [e1];simp only [Qa];have hin:=zzG x b (λf hf=>by rw [e2] at hf;have:=(hd.2 f hf).pars.1;omega) (by rw [e2];exact hd.1) x.Methods [] acc rfl (by rw [e2];have:=hd.1;omega);rw [show (([]:List zb).length:Int)=0 from rfl] at hin;rw [hin,e2];rw [List.flatMap_cons,zzg]
  cases ha:ZL acc (XQ L s) with
  |none=>rfl
  |some a =>
   simp only [Qa,zB,Sum.elim];unfold zoy;rw [zz (by omega)]
   have hal:a.length≤10000*(pre++[s]).length:=by
    rw [zB0 _ _ _ ha];simp only [Qy,Qv,Q3];have:=hd.1;omega
   have ih:=zzH h hm hD hT r (pre++[s]) a (by rw [e];simp) hal;rw [show (pre++[s]).length=pre.length+1 by simp] at ih;exact ih
theorem zHk(h:Xe l L)(hm:Xu L m)(hL:XL L)(hD:∀c∈L,Zl L c){c:za}:zkv L m c=some (U7 L c):=by
 have h52:=Ox h c.Name;unfold zkv;rw [ztm h hm];simp only [Qa];have ho:=zzH h hm hD h52 (XN L c.Name) [] [] rfl (by simp);rw [show (([]:List Tx).length:Int)=0 from rfl] at ho;rw [ho]
 show (some (match ZL [] (UX L c.Name) with |some a=>Sum.inl a |none=>Sum.inr false):Option (Sum (List zb) Bool)).bind _=_
 rw [zEF];unfold U7
 cases hb:((UX L c.Name).any λf=>(UX L c.Name).any λy=>XU f y) with
 |true=>rfl
 |false =>
  simp only [RF,Qa,zB,QH,QC];unfold zoz
  have hlen:(UX L c.Name).length≤10000*52:=by
   unfold UX
   have:∀T:List Tx,(T.flatMap (XQ L)).length≤10000*T.length:=λT=>by
    induction T with
    |nil=>simp
    |cons s T ih =>
     rw [List.flatMap_cons,Qy,Qv];have:=(IQ hD s).1;omega
   have:=this (XN L c.Name);omega
  rw [zHR h hm hL hD (c:=c) (T:=UX L c.Name) (by omega) (λf hf=>by
   unfold UX at hf;obtain ⟨s,hs,hf⟩:=Yr.1 hf;have:=((IQ hD s).2 f hf).pars.1
   omega)]
  cases c.Interface <;> rfl
end
section
variable {l L : List za} {m : List (Tx × Int)}
def IH(L:List za):Int:=cond (L.any λc=>!K7 L c) 4 (cond (L.any λc=>!(K4 L c&&U7 L c)) 1 0)
theorem zuZ(h:Xe l L)(p:za->Bool):((L.map (·.Name)).any λn=>p (X7 L n))=L.any p:=by
 have hnd:Nd L:=h.nd;rw [List.any_map,QK,QB,QB];constructor
 .rintro ⟨c,hc,k⟩;refine ⟨c,hc,?_⟩
  have:X7 L c.Name=c:=by unfold X7;rw [hnd.cl hc];rfl
  simpa [Function.comp,this] using k
 .rintro ⟨c,hc,k⟩;refine ⟨c,hc,?_⟩
  have:X7 L c.Name=c:=by unfold X7;rw [hnd.cl hc];rfl
  simpa [Function.comp,this] using k
theorem zwf(h:Xe l L){i:Nat}{n:Tx}(hn:(L.map (·.Name))[i]?=some n):∃c,c∈L/\cl L n=some c/\c.Name=n/\X7 L n=c:=by
 have hnd:Nd L:=h.nd;rw [JS] at hn
 cases hc:L[i]? with
 |none=>rw [hc] at hn;cases hn
 |some c =>
  rw [hc] at hn
  have e:c.Name=n:=by simpa using hn
  have hcm:=Qc hc
  have h2:cl L n=some c:=by rw [<-e];exact hnd.cl hcm
  exact ⟨c,hcm,h2,e,by unfold X7;rw [h2];rfl⟩
theorem zFg(h:Xe l L)(hm:Xu L m)(hL:XL L)(hD:∀c∈L,Zl L c):Bd (some (zD.mk L m))=some (IH L):=by
 have h26:=h.len;unfold Bd;simp only [Zq];rw [ztK (by omega)];simp only [Qa]
 rw [show zk (λz=>EM (zD.mk L m) (L.map (·.Name)) z) 0=some (XE () ((L.map (·.Name)).findSome? (λn=>cond (!K7 L (X7 L n)) (some 4) none))) from Zk (λi n hn=>by
  have hi:=(Qb.1 hn).1;rw [Q4] at hi;obtain ⟨c,c1,c2,c3,c4⟩:=zwf h hn;have hs:=(hD c c1).small;show EM (zD.mk L m) (L.map (·.Name)) (i:Int)=_;unfold EM;rw [Xk hn,zo,hn];simp only [RT,Qa];rw [Ke hm,c2];simp only [Qa];rw [zF8 h hm hL hs.fields hs.methods,zz (by omega),c4]
  cases K7 L c <;> rfl) (by
  show EM (zD.mk L m) (L.map (·.Name)) ((L.map (·.Name)).length:Int)=_;unfold EM
  rw [Xm];rfl),z7,zuZ h (λc=>!K7 L c)]
 unfold IH
 cases (L.any λc=>!K7 L c) with
 |true=>rfl
 |false =>
  simp only [RF,XE,Qa,zB];unfold znW;simp only;rw [ztK (by omega)];simp only [Qa]
  rw [show zk (λz=>EL (zD.mk L m) (L.map (·.Name)) z) 0=some (XE () ((L.map (·.Name)).findSome? (λn=>cond (!(K4 L (X7 L n)&&U7 L (X7 L n))) (some 1) none))) from Zk (λi n hn=>by
   have hi:=(Qb.1 hn).1;rw [Q4] at hi;obtain ⟨c,c1,c2,c3,c4⟩:=zwf h hn;have hs:=(hD c c1).small;show EL (zD.mk L m) (L.map (·.Name)) (i:Int)=_;unfold EL;rw [Xk hn,zo,hn];simp only [RT,Qa];rw [Ke hm,c2];simp only [Qa];rw [zxz h hm (λs=>(IQ hD s).1) (by rw [c3];exact ZB c2) hs.methods,zHk h hm hL hD,zz (by omega),c4]
   cases K4 L c <;> cases U7 L c <;> rfl) (by
   show EL (zD.mk L m) (L.map (·.Name)) ((L.map (·.Name)).length:Int)=_;unfold EL
   rw [Xm];rfl),z7,zuZ h (λc=>!(K4 L c&&U7 L c))]
  cases (L.any λc=>!(K4 L c&&U7 L c)) <;> rfl
theorem zFf(h:Xe l L)(hL:XL L)(hD:∀c∈L,Zl L c):EQ (some (zq.mk L))=some (IH L):=by
 have h26:=h.len;unfold EQ;simp only [Zq]
 rw [show zk (λz=>Ia (zq.mk L) z) 0=some (XE () (L.findSome? (λc=>cond (!K7 L c) (some 4) none))) from Zk (λi c hn=>by
  have hi:=(Qb.1 hn).1;have hc:=Qc hn;show Ia (zq.mk L) (i:Int)=_;unfold Ia;simp only;rw [Xk hn,zo,hn];simp only [RT,Qa];rw [zy1 h hL (hD c hc),zz (by omega)]
  cases K7 L c <;> rfl) (by
  show Ia (zq.mk L) (L.length:Int)=_;unfold Ia;simp only
  rw [Xm];rfl),z7]
 unfold IH
 cases (L.any λc=>!K7 L c) with
 |true=>rfl
 |false =>
  simp only [RF,XE,Qa,zB];unfold zlH
  rw [show zk (λz=>E9 (zq.mk L) z) 0=some (XE () (L.findSome? (λc=>cond (!(K4 L c&&U7 L c)) (some 1) none))) from Zk (λi c hn=>by
   have hi:=(Qb.1 hn).1;have hc:=Qc hn;show E9 (zq.mk L) (i:Int)=_;unfold E9;simp only;rw [Xk hn,zo,hn];simp only [RT,Qa];rw [zy0 h hL hD hc,zz (by omega)]
   cases K4 L c <;> cases U7 L c <;> rfl) (by
   show E9 (zq.mk L) (L.length:Int)=_;unfold E9;simp only
   rw [Xm];rfl),z7]
  cases (L.any λc=>!(K4 L c&&U7 L c)) <;> rfl
def vN(L:List za)(n:Tx)(k:Int):Bool:=(zhu (some (zq.mk L)) n k).getD false
theorem zGN(h:Xe l L)(hm:Xu L m)(hL:XL L)(n:Tx)(k:Int):KS (some (zD.mk L m)) n k=some (vN L n k)/\zi5 L n k=some (vN L n k):=by
 obtain ⟨v,v1,v2⟩:=zEp h hm hL n k
 have e:vN L n k=v:=by unfold vN;rw [v2];rfl
 rw [e];exact ⟨v1,v2⟩
def zJv(L:List za)(c:za)(k:Nat):Bool:=match c.Methods[k]? with |some f=>!f.Abstract&&!vN L c.Name (k:Int) |none=>false
def UW(L:List za)(c:za):Bool:=(List.range c.Methods.length).any (zJv L c)
theorem zIu(h:Xe l L)(hm:Xu L m)(hL:XL L){e:Int}{c:za}(hc:c.Methods.length≤10000):zk (λz=>Ey (some (zD.mk L m),e) c z) 0=some (XE () (cond (UW L c) (some (none,5)) none)):=by
 unfold UW;rw [<-z7]
 exact zrY (λk hk=>by
  have hf:c.Methods[k]?=some c.Methods[k]:=Qe hk;show Ey (some (zD.mk L m),e) c (k:Int)=_;unfold Ey zJv;rw [Xk hf,zo,hf];simp only [RT,Qa];rw [(zGN h hm hL c.Name (k:Int)).1,zz (by omega)]
  cases (c.Methods[k]).Abstract <;> cases vN L c.Name (k:Int) <;> rfl) (by
  show Ey (some (zD.mk L m),e) c (c.Methods.length:Int)=_;unfold Ey
  rw [Xm];rfl)
theorem zHc(h:Xe l L)(hm:Xu L m)(hL:XL L)(hn:∀c∈l,c.Methods.length≤10000){e:Int}:zk (λz=>Ex l (some (zD.mk L m),e) z) 0=some (XE () (cond (l.any (UW L)) (some (none,5)) none)):=by
 have h16:=h.few;rw [<-z7]
 exact Zk (λi c hc=>by
  have hi:=(Qb.1 hc).1;show Ex l (some (zD.mk L m),e) (i:Int)=_;unfold Ex;rw [Xk hc,zo,hc];simp only [RT,Qa];rw [zIu h hm hL (hn c (Qc hc))];unfold zox;rw [zz (by omega)]
  cases UW L c <;> rfl) (by
  show Ex l (some (zD.mk L m),e) (l.length:Int)=_;unfold Ex
  rw [Xm];rfl)
theorem zBy(h:Xe l L)(hm:Xu L m)(hL:XL L){i:Nat}{c:za}(hi:L[i]?=some c)(hc:c.Methods.length≤10000):zk (λz=>O5 (i:Int) (zq.mk L) z) 0=some (XE () (cond (UW L c) (some (none,5)) none)):=by
 unfold UW;rw [<-z7]
 exact zrY (λk hk=>by
  have hf:c.Methods[k]?=some c.Methods[k]:=Qe hk;show O5 (i:Int) (zq.mk L) (k:Int)=_;unfold O5 zJv;simp only;rw [zo L,hi];simp only [Qa];rw [Xk hf,zo,hf];simp only [RT,Qa];rw [(zGN h hm hL c.Name (k:Int)).2,zz (by omega)]
  cases (c.Methods[k]).Abstract <;> cases vN L c.Name (k:Int) <;> rfl) (by
  show O5 (i:Int) (zq.mk L) (c.Methods.length:Int)=_;unfold O5;simp only;rw [zo L,hi];simp only [Qa]
  rw [Xm];rfl)
theorem zt5(h:Xe l L)(hm:Xu L m)(hL:XL L)(hn:∀c∈L,c.Methods.length≤10000):∀(r pre:List za),L=pre++r->zk (λz=>DP z.1 z.2) (some (zq.mk L),(pre.length:Int))=some (cond (r.any (UW L)) (.inr (none,5)) (.inl L))
 | [],pre,e=>by
  rw [Qx] at e;rw [zG];show (DP (some (zq.mk L)) (pre.length:Int)).bind _=_;unfold DP;simp only [Zq];rw [<-e,Xm];rfl
 |c ::r,pre,e=>by
  have h26:=h.len
  have hx:L[pre.length]?=some c:=by rw [e];simp
  have hlen:L.length=pre.length+(r.length+1):=by rw [e];simp
  rw [zG];show (DP (some (zq.mk L)) (pre.length:Int)).bind _=_;unfold DP;simp only [Zq];rw [Xk hx,zBy h hm hL hx (hn c (Qc hx))];rw [QZ]
  cases UW L c with
  |true=>rfl
  |false =>
   simp only [RT,RF,XE,Qa,zB,QU];unfold zrv;rw [zz (by omega)];have ih:=zt5 h hm hL hn r (pre++[c]) (by rw [e];simp);rw [show (pre++[c]).length=pre.length+1 by simp] at ih;exact ih
theorem zG5(h:Xe l L):L.any (UW L)=l.any (UW L):=by
 have hg:giv.all (λc=>decide (c.Methods.length=0))=true:=by decide +kernel
 have e:giv.any (UW L)=false:=by
  rw [Qw];intro c hc;have:=of_decide_eq_true (Qp.1 hg c hc);unfold UW;rw [this];simp
 have e2:(giv++l).any (UW L)=l.any (UW L):=by rw [List.any_append,e,QU]
 rw [<-h.app] at e2;exact e2
theorem zAN(hf:∀c∈l,X8 c)(e:X1):∃(r:Int) (m:List (Tx×Int)) (o:Option (List za)),HW l e=some (o.map (λL=>zD.mk L m),r)/\zm2 l e=some (o.map zq.mk,r)/\(∀L,o=some L->Xe l L/\Xu L m/\r=0):=by
 have hc:∀c∈l,Wq c:=λc hc=>(hf c hc).cg;obtain ⟨m,hm,he⟩:=zyx hc;unfold HW zm2;rw [he,zyY hc];simp only [Qa]
 cases hE:(Up l).1 with
 |none =>
  have h0:=zDb hE;refine ⟨(Up l).2,m,none,?_,?_,λL h=>by cases h⟩
  .have:((Up l).2 == (0:Int))=false:=RB.2 h0;rw [this];rfl
  .have:((Up l).2 == (0:Int))=false:=RB.2 h0;rw [this];rfl
 |some L =>
  obtain ⟨hM,hz⟩:=zDa hE;have hmp:=hm L hE;have hF:=zC4 hM hf;have hL:XL L:=zC1 hF;have hD:∀c∈L,Zl L c:=λc hc=>zIw hM hF hc;rw [hz];simp only [QM,beq_self_eq_true,Qr,RF];rw [zFg hM hmp hL hD,zFf hM hL hD];simp only [Qa]
  cases h0:(IH L == (0:Int)) with
  |false=>exact ⟨IH L,m,none,rfl,rfl,λL h=>by cases h⟩
  |true =>
   simp only [Qr,RF];rw [show zly (some (zD.mk L m)) e.C e.M=Eh L m e.C e.M from rfl,zrg hM hmp hL];rw [show zfC (some (zq.mk L)) e.C e.M=EP L e.C e.M from rfl,znM hM hL];simp only [Qa];generalize ((Xn L e.C).findSome? (Za L UF e.M)).getD ([],zM,false)=V
   cases ((((!V.2.2)||(!V.2.1.Static))||(decide (0<(List.length V.2.1.Params:Int))))||(!(V.2.1.Ret == [86]))) with
   |true=>exact ⟨4,m,none,rfl,rfl,λL h=>by cases h⟩
   |false =>
    simp only [RF];rw [zHc hM hmp hL (λc hc=>(hf c hc).methods.len)];have hr:=zt5 hM hmp hL (λc hc=>(hF c hc).methods.len) L [] rfl;rw [show (([]:List za).length:Int)=0 from rfl] at hr;rw [hr,zG5 hM]
    cases l.any (UW L) with
    |true=>exact ⟨5,m,none,rfl,rfl,λL h=>by cases h⟩
    |false=>exact ⟨0,m,some L,rfl,rfl,λL' h=>by cases h;exact ⟨hM,hmp,rfl⟩⟩
theorem zxj(e:X1):Ov e=some (X1.mk (e.C.take 12) (e.M.take 12)):=by
 unfold Ov;rw [show (12:Int)=((12:Nat):Int) from rfl,KB,KB];rfl
end
theorem ZP{α β S U R:Type}{body:S->Option (Sum S (Sum U R))}(mk:β->Int->S)(fi:β->U){l:List α}{f:β->α->β}{I:β->Nat->Prop}
  (hb:∀(i:Nat) x b,I b i->l[i]?=some x->body (mk b (i:Int))=some (.inl (mk (f b x) ((i+1:Nat):Int)))/\I (f b x) (i+1))
  (he:∀b,I b l.length->body (mk b (l.length:Int))=some (.inr (.inl (fi b)))) {b0:β} (h0:I b0 0):
  zk body (mk b0 0)=some (.inl (fi (l.foldl f b0)))/\I (l.foldl f b0) l.length:=by
 have key:∀(r pre:List α) (b:β),l=pre++r->I b pre.length->zk body (mk b (pre.length:Int))=some (.inl (fi (r.foldl f b)))/\I (r.foldl f b) l.length:=by
  intro r
  induction r with
  |nil =>
   intro pre b e hI;rw [Qx] at e;subst e;rw [zG,he b hI];exact ⟨rfl,hI⟩
  |cons x r ih =>
   intro pre b e hI
   have hx:l[pre.length]?=some x:=by rw [e];simp
   obtain ⟨h1,h2⟩:=hb pre.length x b hI hx;rw [zG,h1];have:=ih (pre++[x]) (f b x) (by rw [e];simp) (by rw [Qy];exact h2);rw [show (pre++[x]).length=pre.length+1 by simp] at this;exact this
 exact key l [] b0 rfl h0
theorem zAg:∀(d:Nat) (a x b:List Tx),x.length≤d->(a++x++b).length≤1000000 ->
  zk (λz=>BR z.1 z.2.1 z.2.2) (a++x++b,((a.length:Nat):Int),(a.length:Int)+(x.length:Int)-1)=some (.inl (a++x.reverse++b))
 |d,a,x,b,hd,hl=>by
  rw [zG];show (BR (a++x++b) (a.length:Int) ((a.length:Int)+(x.length:Int)-1)).bind _=_;unfold BR;by_cases h2:x.length<2
  .rw [RE (by omega)]
   have e:x.reverse=x:=by
    match x,h2 with
    | [],_=>rfl
    | [y],_=>rfl
   rw [e];rfl
  .rw [RD (by omega)]
   obtain ⟨p,q,y,e⟩:∃p q y,x=p ::(y++[q]):=by
    match x,h2 with
    |p ::r,h2 =>
     have hr:r≠[]:=λe=>by subst e;simp at h2
     exact ⟨p,r.getLast hr,r.dropLast,by rw [List.dropLast_concat_getLast hr]⟩
   subst e
   have hx:(p ::(y++[q])).length=y.length+2:=by simp
   have hJ:(a.length:Int)+((p ::(y++[q])).length:Int)-1=((a.length+y.length+1:Nat):Int):=by rw [hx];omega
   rw [hJ,zo,zo]
   have g1:(a++p ::(y++[q])++b)[a.length+y.length+1]?=some q:=by
    rw [show a++p ::(y++[q])++b=(a++p ::y)++(q ::b) by simp,Qs (by simp;omega)];rw [show a.length+y.length+1-(a++p ::y).length=0 by simp;omega];rfl
   have g2:(a++p ::(y++[q])++b)[a.length]?=some p:=by
    rw [Jc,Qs (Qg _),Nat.sub_self];rfl
   have s1:(a++p ::(y++[q])++b).set a.length q=(a++q ::y)++(q ::b):=by
    rw [Jc,List.set_append_right _ _ (Qg _),Nat.sub_self];simp
   have s2:((a++q ::y)++(q ::b)).set (a.length+y.length+1) p=(a++[q])++y++(p ::b):=by
    rw [List.set_append_right _ _ (by simp;omega),show a.length+y.length+1-(a++q ::y).length=0 by simp;omega];simp
   have g3:((a++q ::y)++(q ::b))[a.length+y.length+1]?=some q:=by
    rw [Qs (by simp;omega),show a.length+y.length+1-(a++q ::y).length=0 by simp;omega];rfl
   rw [g1,g2];simp only [RT,Qa,Jq];rw [s1,zo,g3];simp only [Qa];rw [s2];rw [Qy,Qy,hx] at hl
   cases d with
   |zero=>rw [hx] at hd;omega
   |succ d =>
    have ih:=zAg d (a++[q]) y (p ::b) (by rw [hx] at hd;omega) (by simp only [Qy,Qv,Q3];omega);rw [zz (by omega),ZE (by omega) (by omega)]
    have e1:((a++[q]).length:Int)=((a.length+1:Nat):Int):=by simp
    have e2:((a++[q]).length:Int)+(y.length:Int)-1=((a.length+y.length+1:Nat):Int)-1:=by rw [e1];omega
    rw [e2,e1] at ih;show zk (λz=>BR z.1 z.2.1 z.2.2) ((a++[q])++y++(p ::b),((a.length+1:Nat):Int),((a.length+y.length+1:Nat):Int)-1)=_;rw [ih];simp
theorem zBB{l:List Tx}(h:l.length≤1000000):zb0 l=some l.reverse:=by
 unfold zb0;rw [ZE (by omega) (by omega)];have:=zAg l.length [] l [] (Qg _) (by simpa using h);simp only [Jl,Qx,Q3] at this;rw [show ((0:Nat):Int)+(l.length:Int)-1=(l.length:Int)-1 by omega] at this;rw [show (0:Int)=((0:Nat):Int) from rfl,this];rfl
def nmF(n x:Tx):Tx:=n++[46]++x
def wF(n:Tx)(a:List Tx)(f:zg):List Tx:=cond (!f.Static) (a++[nmF n f.Name]) a
def wC(a:List Tx)(c:za):List Tx:=c.Fields.foldl (wF c.Name) a
def Gx(cs:List za):List Tx:=cs.foldl wC []
def sF(a:List Tx)(f:zb):List Tx:=cond (((!f.Static)&&(!f.Abstract))&&!(a.any λy=>f.Name == y)) (a++[f.Name]) a
def sC(a:List Tx)(c:za):List Tx:=c.Methods.foldl sF a
def Kc(cs:List za):List Tx:=cs.foldl sC []
section
variable {l L : List za} {m : List (Tx × Int)} {t me st : List Tx}
def XI(L:List za)(n:Tx):List za:=(Xn L n).reverse.map (X7 L)
theorem zAp{d:Nat}:∀{d:Nat} {n:Tx},UG L d n=true->sup L (d+1) n=sup L d n
 | 0,n,h=>by
  have:Xj L n=false:=by simpa [UG] using h
  show (match cl L n with |none=>[] |some c=>n ::sup L 0 c.Super)=[]
  cases hc:cl L n with
  |none=>rfl
  |some c=>rw [ZB hc] at this;cases this
 |d+1,n,h=>by
  show (match cl L n with |none=>[] |some c=>n ::sup L (d+1) c.Super)=(match cl L n with |none=>[] |some c=>n ::sup L d c.Super)
  unfold UG at h
  cases hc:cl L n with
  |none=>rfl
  |some c =>
   rw [hc] at h;show n ::sup L (d+1) c.Super=n ::sup L d c.Super;rw [zAp (d:=d) h]
theorem zD5(h:Xe l L){n:Tx}{c:za}(hc:cl L n=some c):Xn L n=n ::Xn L c.Super:=by
 have hf:=zwD h.toWf n;unfold Xn
 cases hL:L.length with
 |zero=>have:=Qf hL;subst this;cases hc
 |succ d =>
  rw [hL] at hf;unfold UG at hf;rw [hc] at hf;rw [zAp (d:=d) hf]
  show (match cl L n with |none=>[] |some c=>n ::sup L d c.Super)=_
  rw [hc]
theorem zq2(h:Xe l L){n:Tx}{c:za}(hc:c∈XI L n):c∈L/\c.Name∈Xn L n:=by
 unfold XI at hc;obtain ⟨x,hx,e⟩:=QW.1 hc;rw [J5] at hx;obtain ⟨d,hd⟩:=X0 (Kb h _ n x hx).1
 have:X7 L x=d:=by unfold X7;rw [hd];rfl
 rw [this] at e;subst e;exact ⟨(XO hd).1,by rw [(XO hd).2];exact hx⟩
theorem zw7(h:Xe l L)(n:Tx):(XI L n).length≤26:=by
 unfold XI;rw [Q4,List.length_reverse];exact Z7 h n
theorem zCv(h:Xe l L)(hm:Xu L m)(n:Tx):zga L m t me st n=some (XI L n):=by
 have h26:=Z7 h n;unfold zga;rw [DG h hm];simp only [Qa];rw [zBB (by omega)];simp only [Qa]
 have hl:=(ZP (β:=List za) (S:=List za×Int) (U:=List za) (R:=List za) (body:=λz=>BP L m (Xn L n).reverse z.1 z.2) (λb i=>(b,i)) (λb=>b)
  (l:=(Xn L n).reverse) (f:=λa x=>a++[X7 L x]) (I:=λb i=>b.length=i/\i≤(Xn L n).length) (λi x b hI hx=>by
   have hi:=(Qb.1 hx).1;rw [List.length_reverse] at hi;obtain ⟨c,hc⟩:=X0 (Kb h _ n x (J5.1 (Qc hx))).1
   have e:X7 L x=c:=by unfold X7;rw [hc];rfl
   refine ⟨?_,by simp [hI.1],by omega⟩;show BP L m (Xn L n).reverse b (i:Int)=_;unfold BP;rw [Xk hx,zo,hx];simp only [RT,Qa];rw [Ke hm,hc];simp only [Qa];rw [XJ (by simp;omega) (by simp;omega),zz (by omega),e]
   rfl) (λb hI=>by
   show BP L m (Xn L n).reverse b ((Xn L n).reverse.length:Int)=_;unfold BP
   rw [Xm];rfl) (b0:=[]) ⟨rfl,Qo _⟩).1
 rw [show zk (λz=>BP L m (Xn L n).reverse z.1 z.2) ([],0)=_ from hl]
 have e:∀(r:List Tx) (a:List za),r.foldl (λa x=>a++[X7 L x]) a=a++r.map (X7 L):=by
  intro r
  induction r with
  |nil=>intro a;simp
  |cons x r ih=>intro a;rw [QE,ih];simp
 rw [e];rfl
theorem zF9{c:za}(hc:X8 c){k:Nat}{a:List Tx}(ha:a.length≤10000*k)(hk:k≤1000):
  zk (λz=>BG c z.1 z.2) (a,0)=some (.inl (wC a c))/\(wC a c).length≤10000*(k+1):=by
 have hF:=hc.fields.len
 have:=ZP (β:=List Tx) (S:=List Tx×Int) (U:=List Tx) (R:=List Tx) (body:=λz=>BG c z.1 z.2) (λb i=>(b,i)) (λb=>b)
  (l:=c.Fields) (f:=wF c.Name) (I:=λb i=>b.length≤10000*k+i/\i≤c.Fields.length) (λi x b hI hx=>by
   have hi:=(Qb.1 hx).1;have hn:=hc.name;have hxn:=(hc.fields.all x (Qc hx)).name;unfold FS at hn hxn;have hI1:=hI.1;constructor
   .show BG c b (i:Int)=_;unfold BG zfJ wF;rw [Xk hx,zo,hx,ZC (by simp;omega)];simp only [RT,Qa];rw [ZC (by simp;omega)];simp only [Qa];rw [XJ (by simp;omega) (by simp;omega),zz (by omega)];cases x.Static <;> rfl
   .refine ⟨?_,by omega⟩;unfold wF
    cases x.Static <;> simp <;> omega) (λb hI=>by
   show BG c b (c.Fields.length:Int)=_;unfold BG
   rw [Xm];rfl) (b0:=a) ⟨ha,Qo _⟩
 refine ⟨this.1,?_⟩;have h2:=this.2.1;show (c.Fields.foldl (wF c.Name) a).length≤_;omega
theorem zwI(h:Xe l L)(hm:Xu L m)(hF:∀c∈L,X8 c)(n:Tx):By L m t me st n=some (Gx (XI L n))/\(Gx (XI L n)).length≤260000:=by
 have h26:=zw7 h n;unfold By;rw [zCv h hm];simp only [Qa]
 have:=ZP (β:=List Tx) (S:=List Tx×Int) (U:=List Tx) (R:=List Tx) (body:=λz=>BF (XI L n) z.1 z.2) (λb i=>(b,i)) (λb=>b)
  (l:=XI L n) (f:=wC) (I:=λb i=>b.length≤10000*i/\i≤(XI L n).length) (λi x b hI hx=>by
   have hi:=(Qb.1 hx).1;obtain ⟨w1,w2⟩:=zF9 (hF x (zq2 h (Qc hx)).1) hI.1 (by omega);refine ⟨?_,w2,by omega⟩;show BF (XI L n) b (i:Int)=_;unfold BF;rw [Xk hx,zo,hx];simp only [RT,Qa];rw [w1];show some (Sum.inl (wC b x,i64.wrap ((i:Int)+1)))=_
   rw [zz (by omega)]) (λb hI=>by
   show BF (XI L n) b ((XI L n).length:Int)=_;unfold BF
   rw [Xm];rfl) (b0:=[]) ⟨Qo _,Qo _⟩
 rw [show zk (λz=>BF (XI L n) z.1 z.2) ([],0)=_ from this.1];refine ⟨rfl,?_⟩;have h2:=this.2.1;show ((XI L n).foldl wC []).length≤_;omega
theorem zFR{c:za}(hc:X8 c){k:Nat}{a:List Tx}(ha:a.length≤10000*k)(hk:k≤1000):
  zk (λz=>BI c z.1 z.2) (a,0)=some (.inl (sC a c))/\(sC a c).length≤10000*(k+1):=by
 have hF:=hc.methods.len
 have:=ZP (β:=List Tx) (S:=List Tx×Int) (U:=List Tx) (R:=List Tx) (body:=λz=>BI c z.1 z.2) (λb i=>(b,i)) (λb=>b)
  (l:=c.Methods) (f:=sF) (I:=λb i=>b.length≤10000*k+i/\i≤c.Methods.length) (λi x b hI hx=>by
   have hi:=(Qb.1 hx).1;have hI1:=hI.1;constructor
   .show BI c b (i:Int)=_;unfold BI zfI sF;rw [Xk hx,zo,hx];simp only [RT,Qa];rw [zvP (by unfold XG;omega),XJ (by simp;omega) (by simp;omega),zz (by omega)];cases x.Static <;> cases x.Abstract <;> cases (b.any λy=>x.Name == y) <;> rfl
   .refine ⟨?_,by omega⟩;unfold sF
    cases (((!x.Static)&&(!x.Abstract))&&!(b.any λy=>x.Name == y)) <;> simp <;> omega) (λb hI=>by
   show BI c b (c.Methods.length:Int)=_;unfold BI
   rw [Xm];rfl) (b0:=a) ⟨ha,Qo _⟩
 refine ⟨this.1,?_⟩;have h2:=this.2.1;show (c.Methods.foldl sF a).length≤_;omega
theorem zAl(h:Xe l L)(hm:Xu L m)(hF:∀c∈L,X8 c)(n:Tx):zfw L m t me st n=some (Kc (XI L n))/\(Kc (XI L n)).length≤260000:=by
 have h26:=zw7 h n;unfold zfw;rw [zCv h hm];simp only [Qa]
 have:=ZP (β:=List Tx) (S:=List Tx×Int) (U:=List Tx) (R:=List Tx) (body:=λz=>BH (XI L n) z.1 z.2) (λb i=>(b,i)) (λb=>b)
  (l:=XI L n) (f:=sC) (I:=λb i=>b.length≤10000*i/\i≤(XI L n).length) (λi x b hI hx=>by
   have hi:=(Qb.1 hx).1;obtain ⟨w1,w2⟩:=zFR (hF x (zq2 h (Qc hx)).1) hI.1 (by omega);refine ⟨?_,w2,by omega⟩;show BH (XI L n) b (i:Int)=_;unfold BH;rw [Xk hx,zo,hx];simp only [RT,Qa];rw [w1];show some (Sum.inl (sC b x,i64.wrap ((i:Int)+1)))=_
   rw [zz (by omega)]) (λb hI=>by
   show BH (XI L n) b ((XI L n).length:Int)=_;unfold BH
   rw [Xm];rfl) (b0:=[]) ⟨Qo _,Qo _⟩
 rw [show zk (λz=>BH (XI L n) z.1 z.2) ([],0)=_ from this.1];refine ⟨rfl,?_⟩;have h2:=this.2.1;show ((XI L n).foldl sC []).length≤_;omega
def Uu:Nat->List Tx->Tx->List Tx
 | 0,a,t=>a
 |d+1,a,t=>cond ((XH t).2&&!(a.any λy=>t == y)) (Uu d (a++[t]) (XH t).1) a
def UK(a:List Tx)(t:Tx):List Tx:=Uu t.length a t
theorem zu4{t:Tx}(h:(XH t).2=true):(XH t).1.length+1=t.length/\Xq t=true:=by
 unfold XH at h ⊢
 cases hc:(Xq t&&brk t) with
 |false=>rw [hc] at h;cases h
 |true =>
  rw [Qd] at hc;have:=(Ha hc.2).2
  have h2:0<t.length:=by rw [this];simp
  exact ⟨by simp;omega,hc.1⟩
theorem zu1:∀(d:Nat) (a:List Tx) (t:Tx),t.length=d->a.length+d≤1000000000000->Len t ->
  zk (λz=>zfL z.1 z.2.1 z.2.2.1 z.2.2.2) (a,t,(XH t).1,(XH t).2)=some (.inl (Uu d a t))
 |d,a,t,hd,ha,hl=>by
  rw [zG];show (zfL a t (XH t).1 (XH t).2).bind _=_;unfold zfL
  cases h2:(XH t).2 with
  |false =>
   have e:Uu d a t=a:=by
    cases d with
    |zero=>rfl
    |succ d=>unfold Uu;rw [h2];rfl
   rw [e];rfl
  |true =>
   obtain ⟨k1,k2⟩:=zu4 h2
   cases d with
   |zero=>omega
   |succ d =>
    unfold Uu;rw [zvP (by unfold XG;omega),h2]
    cases hh:(a.any λy=>t == y) with
    |true=>rfl
    |false =>
     have hl2:Len (XH t).1:=by unfold Len at *;omega
     simp only [RT,Qa,QH,QC];rw [XJ (by simp;omega) (by simp;omega),DQ hl2];exact zu1 d (a++[t]) (XH t).1 (by omega) (by simp;omega) hl2
theorem zzn:∀(d:Nat) (a:List Tx) (t:Tx),a.length≤(Uu d a t).length/\(Uu d a t).length≤a.length+d
 | 0,a,t=>⟨Qg _,Qg _⟩
 |d+1,a,t=>by
  unfold Uu
  cases ((XH t).2&&!(a.any λy=>t == y)) with
  |false=>simp
  |true =>
   have:=zzn d (a++[t]) (XH t).1;simp only [Qy,Qv,Q3] at this;simp only [RT];omega
theorem zsT(a:List Tx)(t:Tx):(UK a t).length≤a.length+25:=by
 unfold UK
 cases h:(XH t).2 with
 |false =>
  have e:Uu t.length a t=a:=by
   cases t.length with
   |zero=>rfl
   |succ d=>unfold Uu;rw [h];rfl
  rw [e];omega
 |true =>
  have h1:=KJ (zu4 h).2;have h2:=zzn t.length a t;omega
theorem zty{a:List Tx}{x:Tx}(ha:a.length≤900000000000)(hx:FS x):If L m a me st x=some (UK a x):=by
 unfold FS at hx;unfold If
 have hl:Len x:=by unfold Len;omega
 rw [DQ hl];simp only [Qa];rw [zu1 x.length a x rfl (by omega) hl];rfl
def ZT(a:List Tx)(x:zs):List Tx:=cond (x.Op == (50:Int)) (UK a (Z5 x.C)) (cond ((x.Op == (56:Int))||(x.Op == (57:Int))) (UK a x.C) a)
theorem zzN(a:List Tx)(x:zs):(ZT a x).length≤a.length+25:=by
 unfold ZT;have h1:=zsT a (Z5 x.C);have h2:=zsT a x.C
 cases (x.Op == (50:Int)) <;> cases ((x.Op == (56:Int))||(x.Op == (57:Int))) <;> simp only [RT,RF] <;> omega
theorem zvy{C:Tx}(h:C.length≤1000):(Z5 C).length≤1001:=by
 unfold Z5;cases Xq (91 ::C) <;> simp <;> omega
theorem zv0{a:List Tx}{x:zs}(ha:a.length≤900000000000)(hx:x.C.length≤25):zir L m a me st x=some (ZT a x):=by
 have h1:=zvy (C:=x.C) (by omega);unfold zir zgB ZT;rw [zra (by omega),zty ha (by unfold FS;omega)];simp only [Qa];rw [zty ha (by unfold FS;omega)];cases (x.Op == (50:Int)) <;> cases (x.Op == (56:Int)) <;> cases (x.Op == (57:Int)) <;> rfl
def nF(n:Tx)(p:List Tx×List Tx)(f:zg):List Tx×List Tx:=(UK p.1 f.Type_,cond f.Static (p.2++[nmF n f.Name]) p.2)
def nM(n:Tx)(p:List Tx×List Tx)(f:zb):List Tx×List Tx:=(f.Code.foldl ZT p.1,p.2++[nmF n f.Name])
def nC(p:List Tx×List Tx×List Tx)(c:za):List Tx×List Tx×List Tx:=
 let q:=c.Fields.foldl (nF c.Name) (p.1,p.2.2)
 let r:=c.Methods.foldl (nM c.Name) (q.1,p.2.1)
 (r.1,r.2,q.2)
def Xs(L:List za):List Tx×List Tx×List Tx:=L.foldl nC (L.map (·.Name)++[[91,73]],[],[])
theorem ar1{A B D i K1 K2 K:Nat}(hK:K1+K2≤K)(h1:A≤B+K1+K2)(h2:B≤D+K*i):A≤D+K*(i+1):=
 QL h1 (by rw [Nat.mul_succ,<-QR,QR B];exact Nat.add_le_add h2 hK)
theorem ar2{A B i:Nat}(h1:A≤B+10000)(h2:B≤10000*i):A≤10000*(i+1):=by omega
theorem ar3{A B C i K:Nat}(h1:A≤B+K)(h2:B≤C+K*i):A≤C+K*(i+1):=
 QL h1 (by rw [Nat.mul_succ,<-QR];exact Ya h2 K)
theorem zFp{x:zD}{f:zb}(hf:Dj f){a:List Tx}(ha:a.length≤800000000000):
  zk (λz=>DU x st f me z.1 z.2) (a,0)=some (.inl (f.Code.foldl ZT a))/\(f.Code.foldl ZT a).length≤a.length+250000:=by
 have hF:=hf.code.1
 have:=ZP (β:=List Tx) (S:=List Tx×Int) (U:=List Tx) (R:=List za×List (Tx×Int)×List Tx×List Tx×List Tx) (body:=λz=>DU x st f me z.1 z.2) (λb i=>(b,i)) (λb=>b)
  (l:=f.Code) (f:=ZT) (I:=λb i=>b.length≤a.length+25*i/\i≤f.Code.length) (λi y b hI hx=>by
   have hi:=(Qb.1 hx).1;have hI1:=hI.1;have hl:=zzN b y;refine ⟨?_,by omega,by omega⟩;show DU x st f me b (i:Int)=_;unfold DU;rw [Xk hx,zo,hx];simp only [RT,Qa];rw [zv0 (by omega) (hf.code.2 y (Qc hx)),zz (by omega)]
   rfl) (λb hI=>by
   show DU x st f me b (f.Code.length:Int)=_;unfold DU
   rw [Xm];rfl) (b0:=a) ⟨Qg _,Qo _⟩
 refine ⟨this.1,?_⟩;have h2:=this.2.1;omega
theorem zBl{x:zD}{n:Tx}{c:za}{b:Bool}(hn:FS n)(hc:X8 c){a:List Tx×List Tx}(ha:a.1.length≤700000000000)(ha2:a.2.length≤1000000):
  zk (λz=>DV x me n (c,b) z.1 z.2.1 z.2.2) (a.1,a.2,0)=some (.inl (c.Fields.foldl (nF n) a))/\(c.Fields.foldl (nF n) a).1.length≤a.1.length+250000/\(c.Fields.foldl (nF n) a).2.length≤a.2.length+10000:=by
 have hF:=hc.fields.len
 have:=ZP (β:=List Tx×List Tx) (S:=List Tx×List Tx×Int) (U:=List Tx×List Tx) (R:=List za×List (Tx×Int)×List Tx×List Tx×List Tx) (body:=λz=>DV x me n (c,b) z.1 z.2.1 z.2.2) (λb i=>(b.1,b.2,i)) (λb=>b)
  (l:=c.Fields) (f:=nF n) (I:=λb i=>b.1.length≤a.1.length+25*i/\b.2.length≤a.2.length+i/\i≤c.Fields.length) (λi y b hI hx=>by
   have hi:=(Qb.1 hx).1;have hI1:=hI.1;have hI2:=hI.2.1;have hy:=hc.fields.all y (Qc hx);have hyn:=hy.name;unfold FS at hn hyn;have hl:=zsT b.1 y.Type_;refine ⟨?_,?_,?_,by omega⟩
   .show DV x me n (c,_) b.1 b.2 (i:Int)=_;unfold DV zkp;simp only;rw [Xk hx,zo,hx];simp only [RT,Qa];rw [zty (by omega) hy.type,ZC (by simp;omega)];simp only [Qa];rw [ZC (by simp;omega)];simp only [Qa];rw [XJ (by simp;omega) (by simp;omega),zz (by omega)];unfold nF;cases y.Static <;> rfl
   .show (UK b.1 y.Type_).length≤_;omega
   .show (cond y.Static (b.2++[nmF n y.Name]) b.2).length≤_
    cases y.Static <;> simp <;> omega) (λb hI=>by
   show DV x me n (c,_) b.1 b.2 (c.Fields.length:Int)=_;unfold DV;simp only
   rw [Xm];rfl) (b0:=a) ⟨Qg _,Qg _,Qo _⟩
 refine ⟨this.1,?_,?_⟩
 .have h2:=this.2.1;omega
 .have h2:=this.2.2.1;omega
theorem zyP{x:zD}{n:Tx}{c:za}{b:Bool}(hn:FS n)(hc:X8 c)(hs:∀f∈c.Methods,Dj f){a:List Tx×List Tx}(ha:a.1.length≤700000000000)(ha2:a.2.length≤1000000):
  zk (λz=>DS x n (c,b) st z.1 z.2.1 z.2.2) (a.1,a.2,0)=some (.inl (c.Methods.foldl (nM n) a))/\(c.Methods.foldl (nM n) a).1.length≤a.1.length+2500000000/\(c.Methods.foldl (nM n) a).2.length≤a.2.length+10000:=by
 have hF:=hc.methods.len
 have:=ZP (β:=List Tx×List Tx) (S:=List Tx×List Tx×Int) (U:=List Tx×List Tx) (R:=List za×List (Tx×Int)×List Tx×List Tx×List Tx) (body:=λz=>DS x n (c,b) st z.1 z.2.1 z.2.2) (λb i=>(b.1,b.2,i)) (λb=>b)
  (l:=c.Methods) (f:=nM n) (I:=λb i=>b.1.length≤a.1.length+250000*i/\b.2.length≤a.2.length+i/\i≤c.Methods.length) (λi y b hI hx=>by
   have hi:=(Qb.1 hx).1;have hI1:=hI.1;have hI2:=hI.2.1;have hy:=hc.methods.all y (Qc hx);have hyn:=hy.name;unfold FS at hn hyn;obtain ⟨l1,l2⟩:=zFp (x:=x) (st:=st) (me:=b.2++[nmF n y.Name]) (hs y (Qc hx)) (a:=b.1) (by omega);refine ⟨?_,ar3 l2 hI1,?_,JV hi⟩
   .clear l2;show DS x n (c,_) st b.1 b.2 (i:Int)=_;unfold DS;simp only;rw [Xk hx,zo,hx,ZC (by simp;omega)];simp only [RT,Qa];rw [ZC (by simp;omega)];simp only [Qa];rw [XJ (by simp;omega) (by simp;omega)];simp only [Qa];rw [show zk (λz=>DU x st y (b.2++[n++[46]++y.Name]) z.1 z.2) (b.1,0)=_ from l1];show some (Sum.inl (_,_,i64.wrap ((i:Int)+1)))=_;rw [zz (by omega)];rfl
   .show (b.2++[nmF n y.Name]).length≤_;clear l1 l2
    simp;omega) (λb hI=>by
   show DS x n (c,_) st b.1 b.2 (c.Methods.length:Int)=_;unfold DS;simp only
   rw [Xm];rfl) (b0:=a) ⟨Qg _,Qg _,Qo _⟩
 refine ⟨this.1,?_,?_⟩
 .have h2:=this.2.1;omega
 .have h2:=this.2.2.1;omega
theorem zrc(h:Xe l L)(hm:Xu L m)(hF:∀c∈L,X8 c)(hD:∀c∈L,Zl L c):
  OG (some (zD.mk L m))=some (L,m,Xs L)/\(Xs L).1.length≤70000000000/\(Xs L).2.1.length≤260000/\(Xs L).2.2.length≤260000:=by
 have h26:=h.len;unfold OG;simp only [Zq];rw [ztK (by omega)];simp only [Qa];rw [XJ (by simp;omega) (by simp;omega)];simp only [Qa];have hlen:(L.map (·.Name)).length=L.length:=Q4 ..
 have:=ZP (β:=List Tx×List Tx×List Tx) (S:=List Tx×List Tx×List Tx×Int) (U:=List Tx×List Tx×List Tx) (R:=List za×List (Tx×Int)×List Tx×List Tx×List Tx) (body:=λz=>Bc (zD.mk L m) (L.map (·.Name)) z.1 z.2.1 z.2.2.1 z.2.2.2) (λb i=>(b.1,b.2.1,b.2.2,i)) (λb=>b)
  (l:=L.map (·.Name)) (f:=λp n=>nC p (X7 L n)) (I:=λb i=>b.1.length≤27+2600000000*i/\b.2.1.length≤10000*i/\b.2.2.length≤10000*i/\i≤L.length) (λi n b hI hx=>by
   have hi:=(Qb.1 hx).1;rw [hlen] at hi;obtain ⟨c,c1,c2,c3,c4⟩:=zwf h hx;subst c3;obtain ⟨i1,i2,i3,i4⟩:=hI;have hc:=hF c c1;have hs:=(hD c c1).small;obtain ⟨f1,f2,f3⟩:=zBl (x:=zD.mk L m) (me:=b.2.1) (b:=true) hc.name hc (a:=(b.1,b.2.2)) (by show b.1.length≤_;omega) (by show b.2.2.length≤_;omega);have g2:(c.Fields.foldl (nF c.Name) (b.1,b.2.2)).1.length≤b.1.length+250000:=f2;have g3:(c.Fields.foldl (nF c.Name) (b.1,b.2.2)).2.length≤b.2.2.length+10000:=f3;obtain ⟨m1,m2,m3⟩:=zyP (x:=zD.mk L m) (st:=(c.Fields.foldl (nF c.Name) (b.1,b.2.2)).2) (b:=true) hc.name hc hs.methods.2 (a:=((c.Fields.foldl (nF c.Name) (b.1,b.2.2)).1,b.2.1)) (by show (c.Fields.foldl (nF c.Name) (b.1,b.2.2)).1.length≤_;omega) (by show b.2.1.length≤_;omega);rw [c4];refine ⟨?_,ar1 (by decide) (QL m2 (Ya g2 _)) i1,ar2 m3 i2,ar2 f3 i3,JV hi⟩;clear m2 m3 f2 f3 g2 g3;show Bc (zD.mk L m) (L.map (·.Name)) b.1 b.2.1 b.2.2 (i:Int)=_;unfold Bc;rw [Xk hx,zo,hx];simp only [RT,Qa];rw [Ke hm,c2];simp only [Qa];rw [show zk (λz=>DV (zD.mk L m) b.2.1 c.Name (c,true) z.1 z.2.1 z.2.2) (b.1,b.2.2,0)=_ from f1];simp only [Qa,zB];unfold zpY;rw [show zk (λz=>DS (zD.mk L m) c.Name (c,true) (c.Fields.foldl (nF c.Name) (b.1,b.2.2)).2 z.1 z.2.1 z.2.2) ((c.Fields.foldl (nF c.Name) (b.1,b.2.2)).1,b.2.1,0)=_ from m1];show some (Sum.inl (_,_,_,i64.wrap ((i:Int)+1)))=_;rw [zz (by omega)]
   rfl) (λb hI=>by
   show Bc (zD.mk L m) (L.map (·.Name)) b.1 b.2.1 b.2.2 ((L.map (·.Name)).length:Int)=_;unfold Bc
   rw [Xm];rfl) (b0:=(L.map (·.Name)++[[91,73]],[],[])) ⟨by simp;omega,Qo _,Qo _,Qo _⟩
 have e:(L.map (·.Name)).foldl (λp n=>nC p (X7 L n)) (L.map (·.Name)++[[91,73]],[],[])=Xs L:=by
  unfold Xs;rw [List.foldl_map];have hnd:Nd L:=h.nd
  have:∀(r:List za) p,(∀c∈r,c∈L)->r.foldl (λp c=>nC p (X7 L c.Name)) p=r.foldl nC p:=by
   intro r
   induction r with
   |nil=>intro p _;rfl
   |cons c r ih =>
    intro p hr;rw [QE,QE]
    have:X7 L c.Name=c:=by unfold X7;rw [hnd.cl (hr c (by simp))];rfl
    rw [this];exact ih _ (λd hd=>hr d (by simp [hd]))
  exact this L _ (λc hc=>hc)
 rw [e] at this;rw [show zk (λz=>Bc (zD.mk L m) (L.map (·.Name)) z.1 z.2.1 z.2.2.1 z.2.2.2) (L.map (·.Name)++[[91,73]],[],[],0)=_ from this.1];obtain ⟨i1,i2,i3,i4⟩:=this.2;rw [hlen] at i1 i2 i3;exact ⟨rfl,by omega,by omega,by omega⟩
end
section
variable {l L : List za} {m : List (Tx × Int)}
end
theorem zJx(l:List za)(e:X1):Ou (GH.mk l e [] 0)=some (GH.mk (zIm l) (X1.mk (e.C.take 12) (e.M.take 12)) [] 0):=by
 unfold Ou;simp only;have h1:(XK ([]:List Int) 0 (if 30<((([]:List Int).length:Nat):Int) then 30 else ((([]:List Int).length:Nat):Int)))=some []:=rfl;have h2:Xx 4 ([]:List Int) []=some []:=XJ (by simp) (by simp);have h3:zI7 0 600=some 0:=rfl;have h4:zI7 (i64.wrap (0+600)) 600=some 0:=rfl;rw [h1];simp only [Qa];rw [h2,h3];simp only [Qa];rw [h4,zyD,zxj];rfl
theorem zuy:znv=some true:=by kernel_rfl
section
variable {l L L2 : List za} {m m2 d : List (Tx × Int)} {t me st s : List Tx}
theorem ziP{l:List (List UInt8)}(hl:XG l)(n:List UInt8):z8 l n=some (ixF (λy=>n == y) 0 l):=by
 unfold z8;exact Zo (p:=λy:List UInt8=>n == y) hl (λi x hx=>by unfold Ix;rw [Xk hx,zo,hx];rfl) (by unfold Ix;rw [Xm];rfl)
theorem Ot{x:List Tx}(h:x.length≤8000000000000):Ks x=some x:=by
 unfold Ks;rw [XJ (by simp;omega) (by simp;omega)];simp
theorem zEn(ht:t.length≤70000000000)(n:Tx):D8 L m t me st n=some (ixF (λy=>n == y) 0 t):=by
 unfold D8 Ig;rw [Ot (by omega)];simp only [Qa];rw [ziP (by omega)];rfl
theorem zvd(hm:me.length≤1000000){c n:Tx}(hc:c.length≤1000000)(hn:n.length≤1000000):Bt L m t me st c n=some (ixF (λy=>nmF c n == y) 0 me):=by
 unfold Bt Iv;rw [Ot (by omega)];simp only [Qa];rw [ZC (by simp;omega)];simp only [Qa];rw [ZC (by simp;omega)];simp only [Qa];rw [ziP (by omega)];rfl
theorem zBg(hm:st.length≤1000000){c n:Tx}(hc:c.length≤1000000)(hn:n.length≤1000000):E0 L m t me st c n=some (ixF (λy=>nmF c n == y) 0 st):=by
 unfold E0 zek;rw [Ot (by omega)];simp only [Qa];rw [ZC (by simp;omega)];simp only [Qa];rw [ZC (by simp;omega)];simp only [Qa];rw [ziP (by omega)];rfl
theorem zzT(h:Xe l L)(hm:Xu L m)(hF:∀c∈L,X8 c)(c n:Tx):D9 L m t me st c n=some (ixF (λy=>n == y) 0 (Kc (XI L c))):=by
 obtain ⟨s1,s2⟩:=zAl (t:=t) (me:=me) (st:=st) h hm hF c;unfold D9;rw [s1];simp only [Qa];rw [ziP (by omega)];rfl
def BS(L:List za)(c n:Tx):FR:=((Xn L c).findSome? (UI L n)).getD ([],zF,false)
theorem zIA(hF:∀c∈L,X8 c)(c n:Tx):FS (BS L c n).1/\FS (BS L c n).2.1.Type_:=by
 unfold BS
 cases hh:(Xn L c).findSome? (UI L n) with
 |none=>exact ⟨Qo _,Qo _⟩
 |some r =>
  obtain ⟨x,hx,e⟩:=Q5 hh;unfold UI at e
  cases hc:cl L x with
  |none=>rw [hc] at e;cases e
  |some k =>
   rw [hc] at e;simp only at e;obtain ⟨k1,k2⟩:=XO hc
   cases hf:k.Fields.find? (λy=>y.Name == n) with
   |none=>rw [hf] at e;cases e
   |some f =>
    rw [hf] at e;simp only [Option.some.injEq] at e;subst e;exact ⟨by show FS x;rw [<-k2];exact (hF k k1).name,((hF k k1).fields.all f (QG hf)).type⟩
theorem zzU(h:Xe l L)(hm:Xu L m)(hF:∀c∈L,X8 c){c n:Tx}(hn:n.length≤1000000):BA L m t me st c n=some (ixF (λy=>nmF (BS L c n).1 n == y) 0 (Gx (XI L c))):=by
 obtain ⟨s1,s2⟩:=zwI (t:=t) (me:=me) (st:=st) h hm hF c;have hf:=(zIA hF c n).1;unfold FS at hf;unfold BA;rw [zvK h hm (zC1 hF)];simp only [Qa];rw [s1];simp only [Qa];have e:(((Xn L c).findSome? (UI L n)).getD ([],zF,false)).1=(BS L c n).1:=rfl;rw [e,ZC (by simp;omega)];simp only [Qa];rw [ZC (by simp;omega)];simp only [Qa];rw [ziP (by omega)];rfl
structure zKb(t me st:List Tx):Prop where
 t:t.length≤70000000000
 me:me.length≤1000000
 st:st.length≤1000000
theorem zvM{α β:Type}(g:α->β):∀(r:List α) (a:List β),r.foldl (λa x=>a++[g x]) a=a++r.map g
 | [],a=>by simp
 |x ::r,a=>by rw [QE,zvM g r];simp
end
section
variable {l L L2 : List za} {m m2 d : List (Tx × Int)} {t me st s : List Tx}
theorem zHD(h:Xe l L)(hm:Xu L m)(hF:∀c∈L,X8 c)(hD:∀c∈L,Zl L c):zKb (Xs L).1 (Xs L).2.1 (Xs L).2.2:=by
 obtain ⟨_,h1,h2,h3⟩:=zrc h hm hF hD;exact ⟨h1,by omega,by omega⟩
end
section
variable {l L : List za} {m : List (Tx × Int)} {t me st : List Tx}
def Gl:Nat->List Tx->Tx->List Tx
 | 0,a,t=>a
 |d+1,a,t=>cond (brk t) (Gl d (cond (a.any λy=>y == t) a (a++[t])) (t.drop 1)) a
theorem zGY{a:List Tx}{t:Tx}:(a.any λy=>t == y)=decide (t∈a):=by
 rw [QK,QB,decide_eq_true_eq];exact ⟨λ⟨y,h1,h2⟩=>by rw [eq_of_beq h2];exact h1,λh=>⟨t,h,by simp⟩⟩
theorem zGZ{a:List Tx}{t:Tx}:(a.any λy=>y == t)=decide (t∈a):=by
 rw [QK,QB,decide_eq_true_eq];exact ⟨λ⟨y,h1,h2⟩=>by rw [<-eq_of_beq h2];exact h1,λh=>⟨t,h,by simp⟩⟩
theorem zE9(t:Tx):(cond (decide (0<(t.length:Int))) ((idx t 0).bind λv=>some ((v.toNat:Int) == (91:Int))) (some false))=some (brk t):=by
 cases t with
 |nil=>rfl
 |cons x r =>
  rw [RD (by simp),Hd]
  have e:((x.toNat:Int) == (91:Int))=(x == 91):=by
   rw [QK,beq_iff_eq,beq_iff_eq];constructor
   .intro h;exact JO.1 (by simpa using (Yq.1 h))
   .intro h;rw [h];rfl
  simp only [Q1,Qa,RT,e];rfl
theorem zA2{a:List Tx}{t:Tx}(ha:a.length≤1000000000000):zk (λz=>D0 a t z.1 z.2) (false,0)=some (.inl (a.any λy=>y == t)):=by
 have:=(ZP (β:=Bool) (S:=Bool×Int) (U:=Bool) (R:=List Tx) (body:=λz=>D0 a t z.1 z.2) (λb i=>(b,i)) (λb=>b)
  (l:=a) (f:=λb x=>b||(x == t)) (I:=λ_ i=>i≤a.length) (λi x b hI hx=>by
   have hi:=(Qb.1 hx).1;refine ⟨?_,by omega⟩;show D0 a t b (i:Int)=_;unfold D0;rw [Xk hx,zo,hx,zz (by omega)]
   cases b <;> rfl) (λb hI=>by
   show D0 a t b (a.length:Int)=_;unfold D0
   rw [Xm];rfl) (b0:=false) (Qo _)).1
 rw [show zk (λz=>D0 a t z.1 z.2) (false,0)=_ from this]
 have e:∀(r:List Tx) (b:Bool),r.foldl (λb x=>b||(x == t)) b=(b||r.any λy=>y == t):=by
  intro r
  induction r with
  |nil=>intro b;simp
  |cons x r ih=>intro b;rw [QE,ih,QZ,JL]
 rw [e,QU]
theorem zpa:∀(d:Nat) (a:List Tx) (t:Tx),t.length=d->a.length+d≤1000000000000->zk (λz=>zjA z.1 z.2) (a,t)=some (.inl (Gl d a t))
 |d,a,t,hd,ha=>by
  rw [zG];show (zjA a t).bind _=_;unfold zjA;rw [zE9];simp only [Qa]
  cases hb:brk t with
  |false =>
   have e:Gl d a t=a:=by
    cases d with
    |zero=>rfl
    |succ d=>unfold Gl;rw [hb];rfl
   rw [e];rfl
  |true =>
   have hpos:0<t.length:=by rw [(Ha hb).2];simp
   cases d with
   |zero=>omega
   |succ d =>
    unfold Gl;rw [hb,zA2 (by omega)];simp only [RT,Qa,zB];unfold zoZ zjz;rw [show (1:Int)=((1:Nat):Int) from rfl,GI (by omega)]
    have hl:(t.drop 1).length=d:=by simp;omega
    cases hh:(a.any λy=>y == t) with
    |true =>
     simp only [Qr,RF,RT,Qa];exact zpa d a (t.drop 1) hl (by omega)
    |false =>
     simp only [QH,RT,RF];rw [XJ (by simp;omega) (by simp;omega)];simp only [Qa];exact zpa d (a++[t]) (t.drop 1) hl (by simp;omega)
theorem zBx{a:List Tx}{t:Tx}(ha:a.length≤900000000000)(ht:FS t):W9 a t=some (Gl t.length a t):=by
 unfold FS at ht;unfold W9;rw [zpa t.length a t rfl (by omega)];rfl
def Cl(a:List Tx):Prop:=∀u∈a,brk u=true->brk (u.drop 1)=true->u.drop 1∈a
theorem zDE{a:List Tx}(hc:Cl a):∀(d:Nat) (t:Tx),(brk t=true->t∈a)->Gl d a t=a
 | 0,t,_=>rfl
 |d+1,t,h=>by
  unfold Gl
  cases hb:brk t with
  |false=>rfl
  |true =>
   rw [zGZ,RD (h hb)];simp only [RT];exact zDE hc d (t.drop 1) (λh2=>hc t (h hb) hb h2)
theorem zDD:∀(d:Nat) (a:List Tx) (t:Tx),t.length=d->(brk t=true->Xq t=true)->(∀u∈a,brk u=true->brk (u.drop 1)=true->u.drop 1∈a∨u.drop 1=t)->a.Nodup->Gl d a t=Uu d a t/\Cl (Uu d a t)/\(Uu d a t).Nodup
 |d,a,t,hd,hm,hc,hn=>by
  cases hb:brk t with
  |false =>
   have e1:Gl d a t=a:=by
    cases d with
    |zero=>rfl
    |succ d=>unfold Gl;rw [hb];rfl
   have e2:Uu d a t=a:=by
    cases d with
    |zero=>rfl
    |succ d =>
     unfold Uu
     have:(XH t).2=false:=by unfold XH;rw [hb,Q9];rfl
     rw [this];rfl
   rw [e1,e2];refine ⟨rfl,λu hu h1 h2=>?_,hn⟩
   rcases hc u hu h1 h2 with e |e
   .exact e
   .rw [e,hb] at h2;cases h2
  |true =>
   have hpos:0<t.length:=by rw [(Ha hb).2];simp
   cases d with
   |zero=>omega
   |succ d =>
    have he:XH t=(t.drop 1,true):=by unfold XH;rw [hm hb,hb];rfl
    unfold Gl Uu;rw [hb,he,zGY,zGZ];by_cases ht:t∈a
    .rw [RD ht]
     have hC:Cl a:=λu hu h1 h2=>by
      rcases hc u hu h1 h2 with e |e
      .exact e
      .rw [e];exact ht
     simp only [RT,Qr,Q9,RF];exact ⟨zDE hC d _ (λh2=>hC t ht hb h2),hC,hn⟩
    .rw [RE ht];simp only [RT,RF,QH,Yn];refine zDD d (a++[t]) (t.drop 1) (by simp;omega) (λ_=>(zre (hm hb) hb).1) (λu hu h1 h2=>?_) ?_
     .rcases Qm.1 hu with e |e
      .rcases hc u e h1 h2 with e |e
       .exact .inl (Jb _ e)
       .rw [e];exact .inl (by simp)
      .rw [Qz.1 e];exact .inr rfl
     .exact JD.2 ⟨hn,by simp,λx hx y hy e=>ht (by rw [<-Qz.1 hy,<-e];exact hx)⟩
structure TyD(a:List Tx):Prop where
 cl:Cl a
 nd:a.Nodup
theorem zqW{a:List Tx}{t:Tx}(ha:a.length≤900000000000)(ht:FS t)(hm:brk t=true->Xq t=true)(h:TyD a):W9 a t=some (UK a t)/\TyD (UK a t):=by
 obtain ⟨h1,h2,h3⟩:=zDD t.length a t rfl hm (λu hu k1 k2=>.inl (h.cl u hu k1 k2)) h.nd;rw [zBx ha ht,h1];exact ⟨rfl,h2,h3⟩
theorem zIE{a:List Tx}{x:zs}(ha:a.length≤900000000000)(hx:x.C.length≤25)(hm:x.C=[]∨Xq x.C=true)(h:TyD a):TyD (ZT a x):=by
 have hm':brk x.C=true->Xq x.C=true:=λhb=>by
  rcases hm with e |e
  .rw [e] at hb;cases hb
  .exact e
 have h1:=zvy (C:=x.C) (by omega)
 have hA:brk (Z5 x.C)=true->Xq (Z5 x.C)=true:=λhb=>by
  unfold Z5 at hb ⊢
  cases hh:Xq (91 ::x.C) with
  |true=>exact hh
  |false=>rw [hh] at hb;cases hb
 unfold ZT
 cases (x.Op == (50:Int)) with
 |true=>exact (zqW ha (by unfold FS;omega) hA h).2
 |false =>
  cases ((x.Op == (56:Int))||(x.Op == (57:Int))) with
  |true=>exact (zqW ha (by unfold FS;omega) hm' h).2
  |false=>exact h
def tC(a:List Tx)(c:za):List Tx:=c.Methods.foldl (λa f=>f.Code.foldl ZT a) (c.Fields.foldl (λa f=>UK a f.Type_) a)
theorem DD{α β γ:Type}{f:β->α->β}{g:γ->α->γ}{p:β->γ}(h:∀b x,p (f b x)=g (p b) x):∀(l:List α) (b:β),p (l.foldl f b)=l.foldl g (p b)
 | [],b=>rfl
 |x ::r,b=>by rw [QE,QE,DD h r,h]
theorem zKh(p:List Tx×List Tx×List Tx)(c:za):(nC p c).1=tC p.1 c:=by
 have h1:(c.Fields.foldl (nF c.Name) (p.1,p.2.2)).1=c.Fields.foldl (λa f=>UK a f.Type_) p.1:=DD (p:=λq:List Tx×List Tx=>q.1) (λb x=>rfl) c.Fields _;have h2:(c.Methods.foldl (nM c.Name) ((c.Fields.foldl (nF c.Name) (p.1,p.2.2)).1,p.2.1)).1=c.Methods.foldl (λa f=>f.Code.foldl ZT a) (c.Fields.foldl (nF c.Name) (p.1,p.2.2)).1:=DD (p:=λq:List Tx×List Tx=>q.1) (λb x=>rfl) c.Methods _;show (c.Methods.foldl (nM c.Name) ((c.Fields.foldl (nF c.Name) (p.1,p.2.2)).1,p.2.1)).1=_;rw [h2,h1];rfl
def mC(a:List Tx)(c:za):List Tx:=c.Methods.foldl (λa f=>a++[nmF c.Name f.Name]) a
def stC(a:List Tx)(c:za):List Tx:=c.Fields.foldl (λa f=>cond f.Static (a++[nmF c.Name f.Name]) a) a
theorem zKf(p:List Tx×List Tx×List Tx)(c:za):(nC p c).2.1=mC p.2.1 c:=
 DD (p:=λq:List Tx×List Tx=>q.2) (λb x=>rfl) c.Methods ((c.Fields.foldl (nF c.Name) (p.1,p.2.2)).1,p.2.1)
theorem zKg(p:List Tx×List Tx×List Tx)(c:za):(nC p c).2.2=stC p.2.2 c:=
 DD (p:=λq:List Tx×List Tx=>q.2) (λb x=>rfl) c.Fields (p.1,p.2.2)
theorem zIH(L:List za):(Xs L).1=L.foldl tC (L.map (·.Name)++[[91,73]]):=DD (p:=λq:List Tx×List Tx×List Tx=>q.1) zKh L _
theorem zIG(L:List za):(Xs L).2.1=L.foldl mC []:=DD (p:=λq:List Tx×List Tx×List Tx=>q.2.1) zKf L _
theorem zGr(L:List za):(Xs L).2.2=L.foldl stC []:=DD (p:=λq:List Tx×List Tx×List Tx=>q.2.2) zKg L _
theorem zHQ(h:Xe l L):TyD (L.map (·.Name)++[[91,73]]):=by
 have hb:∀n∈L.map (·.Name),brk n=false:=λn hn=>WX (W2 h (KN.2 hn));refine ⟨λu hu h1 h2=>?_,?_⟩
 .rcases Qm.1 hu with e |e
  .rw [hb u e] at h1;cases h1
  .rw [Qz.1 e] at h2;cases h2
 .refine JD.2 ⟨?_,by simp,λx hx y hy e=>?_⟩
  .show List.Pairwise (·≠·) _;rw [List.pairwise_iff_getElem];intro i j hi hj hij e;rw [List.getElem_map,List.getElem_map] at e;rw [Q4] at hi hj;have:=h.nd i j L[i] L[j] (Qe hi) (Qe hj) e;omega
  .have:=hb x hx;rw [e,Qz.1 hy] at this;cases this
theorem zFI{f:zb}{c:za}{k:Nat}(hk:c.Methods[k]?=some f)(hf:Hw f){a:List Tx}(ha:a.length≤800000000000)(hd:TyD a):
  zk (λz=>D1 c (k:Int) z.1 z.2) (a,0)=some (.inl (f.Code.foldl ZT a))/\(f.Code.foldl ZT a).length≤a.length+250000/\TyD (f.Code.foldl ZT a):=by
 have hc:=hf.small.code.1
 have:=ZP (β:=List Tx) (S:=List Tx×Int) (U:=List Tx) (R:=List Tx) (body:=λz=>D1 c (k:Int) z.1 z.2) (λb i=>(b,i)) (λb=>b)
  (l:=f.Code) (f:=ZT) (I:=λb i=>b.length≤a.length+25*i/\i≤f.Code.length/\TyD b) (λi y b hI hx=>by
   have hi:=(Qb.1 hx).1;obtain ⟨i1,i2,i3⟩:=hI;have hl:=zzN b y;have hym:=Qc hx;have hy25:=hf.small.code.2 y hym;have hyk:=zzP (hf.code.2 y hym);have hT:=zvy (C:=y.C) (by omega);refine ⟨?_,by omega,by omega,zIE (by omega) hy25 hyk i3⟩;show D1 c (k:Int) b (i:Int)=_;unfold D1 zjy zh7 ZT
   have a1:=(zqW (a:=b) (t:=Z5 y.C) (by omega) (by unfold FS;omega) (λhb=>by
    unfold Z5 at hb ⊢
    cases hh:Xq (91 ::y.C) with
    |true=>exact hh
    |false=>rw [hh] at hb;cases hb) i3).1
   have a2:=(zqW (a:=b) (t:=y.C) (by omega) (by unfold FS;omega) (λhb=>by
    rcases hyk with e |e
    .rw [e] at hb;cases hb
    .exact e) i3).1
   rw [zo,hk];simp only [Qa];rw [Xk hx,zo,hx];simp only [RT,Qa];rw [zro (by omega)];simp only [Qa];rw [a1,a2,zz (by omega)]
   cases (y.Op == (50:Int)) <;> cases (y.Op == (56:Int)) <;> cases (y.Op == (57:Int)) <;> rfl) (λb hI=>by
   show D1 c (k:Int) b (f.Code.length:Int)=_;unfold D1;rw [zo,hk];simp only [Qa]
   rw [Xm];rfl) (b0:=a) ⟨Qg _,Qo _,hd⟩
 refine ⟨this.1,?_,this.2.2.2⟩;have h2:=this.2.1;omega
theorem zBD{c:za}(hc:X8 c)(hD:Zl L c){a:List Tx}(ha:a.length≤700000000000)(hd:TyD a):
  zk (λz=>Bg c z.1 z.2) (a,0)=some (.inl (c.Methods.foldl (λa f=>f.Code.foldl ZT a) a))/\(c.Methods.foldl (λa f=>f.Code.foldl ZT a) a).length≤a.length+2500000000/\TyD (c.Methods.foldl (λa f=>f.Code.foldl ZT a) a):=by
 have hml:=hc.methods.len
 have:=ZP (β:=List Tx) (S:=List Tx×Int) (U:=List Tx) (R:=List Tx) (body:=λz=>Bg c z.1 z.2) (λb i=>(b,i)) (λb=>b)
  (l:=c.Methods) (f:=λa f=>f.Code.foldl ZT a) (I:=λb i=>b.length≤a.length+250000*i/\i≤c.Methods.length/\TyD b) (λi y b hI hx=>by
   have hi:=(Qb.1 hx).1;obtain ⟨i1,i2,i3⟩:=hI;obtain ⟨k1,k2,k3⟩:=zFI hx (hD.methods.2 y (Qc hx)) (a:=b) (by omega) i3;refine ⟨?_,ar3 k2 i1,JV hi,k3⟩;clear k2;show Bg c b (i:Int)=_;unfold Bg;rw [Xk hx];simp only [RT];rw [show zk (λz=>D1 c (i:Int) z.1 z.2) (b,0)=_ from k1];show some (Sum.inl (_,i64.wrap ((i:Int)+1)))=_
   rw [zz (by omega)]) (λb hI=>by
   show Bg c b (c.Methods.length:Int)=_;unfold Bg
   rw [Xm];rfl) (b0:=a) ⟨Qg _,Qo _,hd⟩
 refine ⟨this.1,?_,this.2.2.2⟩;have h2:=this.2.1;omega
theorem zDO{c:za}(hc:X8 c)(hD:Zl L c){a:List Tx}(ha:a.length≤700000000000)(hd:TyD a):
  zk (λz=>Be c z.1 z.2) (a,0)=some (.inl (c.Fields.foldl (λa f=>UK a f.Type_) a))/\(c.Fields.foldl (λa f=>UK a f.Type_) a).length≤a.length+250000/\TyD (c.Fields.foldl (λa f=>UK a f.Type_) a):=by
 have hml:=hc.fields.len
 have:=ZP (β:=List Tx) (S:=List Tx×Int) (U:=List Tx) (R:=List Tx) (body:=λz=>Be c z.1 z.2) (λb i=>(b,i)) (λb=>b)
  (l:=c.Fields) (f:=λa f=>UK a f.Type_) (I:=λb i=>b.length≤a.length+25*i/\i≤c.Fields.length/\TyD b) (λi y b hI hx=>by
   have hi:=(Qb.1 hx).1;obtain ⟨i1,i2,i3⟩:=hI;have hym:=Qc hx;obtain ⟨k1,k2⟩:=zqW (a:=b) (t:=y.Type_) (by omega) (hc.fields.all y hym).type (λ_=>hD.fields.2 y hym) i3;have hl:=zsT b y.Type_;refine ⟨?_,by omega,by omega,k2⟩;show Be c b (i:Int)=_;unfold Be;rw [Xk hx,zo,hx];simp only [RT,Qa];rw [k1,zz (by omega)]
   rfl) (λb hI=>by
   show Be c b (c.Fields.length:Int)=_;unfold Be
   rw [Xm];rfl) (b0:=a) ⟨Qg _,Qo _,hd⟩
 refine ⟨this.1,?_,this.2.2.2⟩;have h2:=this.2.1;omega
theorem zxO(h:Xe l L)(hF:∀c∈L,X8 c)(hD:∀c∈L,Zl L c):O4 (some (zq.mk L))=some (Xs L).1/\TyD (Xs L).1:=by
 have h26:=h.len;unfold O4;simp only [Zq]
 have n1:=(ZP (β:=List Tx) (S:=List Tx×Int) (U:=List Tx) (R:=List Tx) (body:=λz=>Bb (zq.mk L) z.1 z.2) (λb i=>(b,i)) (λb=>b)
  (l:=L) (f:=λa (c:za)=>a++[c.Name]) (I:=λb i=>b.length=i/\i≤L.length) (λi y b hI hx=>by
   have hi:=(Qb.1 hx).1;refine ⟨?_,by simp [hI.1],by omega⟩;show Bb (zq.mk L) b (i:Int)=_;unfold Bb;simp only;rw [Xk hx,zo,hx];simp only [RT,Qa];rw [XJ (by simp;omega) (by simp;omega),zz (by omega)]
   rfl) (λb hI=>by
   show Bb (zq.mk L) b (L.length:Int)=_;unfold Bb;simp only
   rw [Xm];rfl) (b0:=[]) ⟨rfl,Qo _⟩).1
 rw [show zk (λz=>Bb (zq.mk L) z.1 z.2) ([],0)=_ from n1,zvM];simp only [Qa,zB,Jl];unfold zp3;rw [XJ (by simp;omega) (by simp;omega)];simp only [Qa]
 have:=ZP (β:=List Tx) (S:=List Tx×Int) (U:=List Tx) (R:=List Tx) (body:=λz=>Bf (zq.mk L) z.1 z.2) (λb i=>(b,i)) (λb=>b)
  (l:=L) (f:=tC) (I:=λb i=>b.length≤27+2600000000*i/\i≤L.length/\TyD b) (λi y b hI hx=>by
   have hi:=(Qb.1 hx).1;obtain ⟨i1,i2,i3⟩:=hI;have hym:=Qc hx;obtain ⟨f1,f2,f3⟩:=zDO (hF y hym) (hD y hym) (a:=b) (by omega) i3;obtain ⟨m1,m2,m3⟩:=zBD (hF y hym) (hD y hym) (a:=y.Fields.foldl (λa f=>UK a f.Type_) b) (QL f2 (by clear f2;omega)) f3;refine ⟨?_,ar1 (by decide) (QL m2 (Ya f2 _)) i1,JV hi,m3⟩;clear m2 f2;show Bf (zq.mk L) b (i:Int)=_;unfold Bf;simp only;rw [Xk hx,zo,hx];simp only [RT,Qa];rw [f1];simp only [Qa,zB];unfold zoY;rw [m1];show some (Sum.inl (_,i64.wrap ((i:Int)+1)))=_;rw [zz (by omega)]
   rfl) (λb hI=>by
   show Bf (zq.mk L) b (L.length:Int)=_;unfold Bf;simp only
   rw [Xm];rfl) (b0:=L.map (·.Name)++[[91,73]]) ⟨by simp;omega,Qo _,zHQ h⟩
 rw [show zk (λz=>Bf (zq.mk L) z.1 z.2) (L.map (·.Name)++[[91,73]],0)=_ from this.1,zIH];exact ⟨rfl,this.2.2.2⟩
theorem zuP(h:Xe l L)(hF:∀c∈L,X8 c):O9 (some (zq.mk L))=some (Xs L).2.1:=by
 have h26:=h.len;unfold O9;simp only [Zq]
 have:=ZP (β:=List Tx) (S:=List Tx×Int) (U:=List Tx) (R:=List Tx) (body:=λz=>Bj (zq.mk L) z.1 z.2) (λb i=>(b,i)) (λb=>b)
  (l:=L) (f:=mC) (I:=λb i=>b.length≤10000*i/\i≤L.length) (λi c b hI hx=>by
   have hi:=(Qb.1 hx).1;have hc:=hF c (Qc hx);have hn:=hc.name;have hml:=hc.methods.len;have hI1:=hI.1
   have inner:=ZP (β:=List Tx) (S:=List Tx×Int) (U:=List Tx) (R:=List Tx) (body:=λz=>Bk (zq.mk L) (i:Int) z.1 z.2) (λb i=>(b,i)) (λb=>b)
    (l:=c.Methods) (f:=λa f=>a++[nmF c.Name f.Name]) (I:=λa k=>a.length≤10000*i+k/\k≤c.Methods.length) (λk f a hk hy=>by
     have hkk:=(Qb.1 hy).1;have hf:=(hc.methods.all f (Qc hy)).name;have hk1:=hk.1;unfold FS at hn hf;refine ⟨?_,by simp;omega,by omega⟩;show Bk (zq.mk L) (i:Int) a (k:Int)=_;unfold Bk;simp only;rw [zo L,hx];simp only [Qa];rw [Xk hy,zo,hy];simp only [RT,Qa];rw [ZC (by simp;omega)];simp only [Qa];rw [ZC (by simp;omega)];simp only [Qa];rw [XJ (by simp;omega) (by simp;omega),zz (by omega)]
     rfl) (λa hk=>by
     show Bk (zq.mk L) (i:Int) a (c.Methods.length:Int)=_;unfold Bk;simp only;rw [zo L,hx];simp only [Qa]
     rw [Xm];rfl) (b0:=b) ⟨hI1,Qo _⟩
   have e2:(mC b c).length≤10000*i+c.Methods.length:=inner.2.1;refine ⟨?_,by omega,by omega⟩;show Bj (zq.mk L) b (i:Int)=_;unfold Bj;simp only;rw [Xk hx];simp only [RT];rw [show zk (λz=>Bk (zq.mk L) (i:Int) z.1 z.2) (b,0)=_ from inner.1];show some (Sum.inl (_,i64.wrap ((i:Int)+1)))=_;rw [zz (by omega)]
   rfl) (λb hI=>by
   show Bj (zq.mk L) b (L.length:Int)=_;unfold Bj;simp only
   rw [Xm];rfl) (b0:=[]) ⟨Qo _,Qo _⟩
 rw [show zk (λz=>Bj (zq.mk L) z.1 z.2) ([],0)=_ from this.1,zIG];rfl
theorem zuQ(h:Xe l L)(hF:∀c∈L,X8 c):O8 (some (zq.mk L))=some (Xs L).2.2:=by
 have h26:=h.len;unfold O8;simp only [Zq]
 have:=ZP (β:=List Tx) (S:=List Tx×Int) (U:=List Tx) (R:=List Tx) (body:=λz=>Bn (zq.mk L) z.1 z.2) (λb i=>(b,i)) (λb=>b)
  (l:=L) (f:=stC) (I:=λb i=>b.length≤10000*i/\i≤L.length) (λi c b hI hx=>by
   have hi:=(Qb.1 hx).1;have hc:=hF c (Qc hx);have hn:=hc.name;have hml:=hc.fields.len;have hI1:=hI.1
   have inner:=ZP (β:=List Tx) (S:=List Tx×Int) (U:=List Tx) (R:=List Tx) (body:=λz=>Bi (zq.mk L) (i:Int) z.1 z.2) (λb i=>(b,i)) (λb=>b)
    (l:=c.Fields) (f:=λa f=>cond f.Static (a++[nmF c.Name f.Name]) a) (I:=λa k=>a.length≤10000*i+k/\k≤c.Fields.length) (λk f a hk hy=>by
     have hkk:=(Qb.1 hy).1;have hf:=(hc.fields.all f (Qc hy)).name;have hk1:=hk.1;unfold FS at hn hf;refine ⟨?_,by cases f.Static <;> simp <;> omega,by omega⟩;show Bi (zq.mk L) (i:Int) a (k:Int)=_;unfold Bi ziW;simp only;rw [zo L,hx];simp only [Qa];rw [Xk hy,zo,hy];simp only [RT,Qa];rw [ZC (by simp;omega)];simp only [Qa];rw [ZC (by simp;omega)];simp only [Qa];rw [XJ (by simp;omega) (by simp;omega),zz (by omega)]
     cases f.Static <;> rfl) (λa hk=>by
     show Bi (zq.mk L) (i:Int) a (c.Fields.length:Int)=_;unfold Bi;simp only;rw [zo L,hx];simp only [Qa]
     rw [Xm];rfl) (b0:=b) ⟨hI1,Qo _⟩
   have e2:(stC b c).length≤10000*i+c.Fields.length:=inner.2.1;refine ⟨?_,by omega,by omega⟩;show Bn (zq.mk L) b (i:Int)=_;unfold Bn;simp only;rw [Xk hx];simp only [RT];rw [show zk (λz=>Bi (zq.mk L) (i:Int) z.1 z.2) (b,0)=_ from inner.1];show some (Sum.inl (_,i64.wrap ((i:Int)+1)))=_;rw [zz (by omega)]
   rfl) (λb hI=>by
   show Bn (zq.mk L) b (L.length:Int)=_;unfold Bn;simp only
   rw [Xm];rfl) (b0:=[]) ⟨Qo _,Qo _⟩
 rw [show zk (λz=>Bn (zq.mk L) z.1 z.2) ([],0)=_ from this.1,zGr];rfl
end
theorem zxa{α β S U R:Type}{body:S->Option (Sum S (Sum U R))}(mk:β->Int->S)(fi:β->U){l:List α}{f:β->α->β}{I:β->Nat->Prop}
  (hb:∀(i:Nat) x b,I b (i+1)->l[i]?=some x->body (mk b (i:Int))=some (.inl (mk (f b x) ((i:Int)-1)))/\I (f b x) i)
  (he:∀b,I b 0->body (mk b (-1))=some (.inr (.inl (fi b)))) {b0:β} (h0:I b0 l.length):
  zk body (mk b0 ((l.length:Int)-1))=some (.inl (fi (l.reverse.foldl f b0)))/\I (l.reverse.foldl f b0) 0:=by
 have key:∀(n:Nat) (b:β),n≤l.length->I b n->zk body (mk b ((n:Int)-1))=some (.inl (fi ((l.take n).reverse.foldl f b)))/\I ((l.take n).reverse.foldl f b) 0:=by
  intro n
  induction n with
  |zero =>
   intro b _ hI;rw [show ((0:Nat):Int)-1=-1 from rfl,zG,he b hI];exact ⟨rfl,hI⟩
  |succ n ih =>
   intro b hn hI;have hx:l[n]?=some l[n]:=Qe (by omega);obtain ⟨h1,h2⟩:=hb n l[n] b hI hx;rw [show ((n+1:Nat):Int)-1=(n:Int) by omega,zG,h1,JU,hx];simp only [Option.toList_some,List.reverse_append,List.reverse_cons,List.reverse_nil,Jl,JZ,QE];exact ih (f b l[n]) (by omega) h2
 have:=key l.length b0 (Qg _) h0;rw [J4] at this;exact this
section
variable {l L : List za} {m : List (Tx × Int)} {t me st : List Tx}
def fW(n:Tx)(p:List Tx×List zg)(g:zg):List Tx×List zg:=cond (!g.Static) (p.1++[n],p.2++[g]) p
def fC(L:List za)(p:List Tx×List zg)(s:Tx):List Tx×List zg:=(X7 L s).Fields.foldl (fW s) p
def zW(p:List Tx×List zg):List Tx:=(p.1.zip p.2).map (λx=>nmF x.1 x.2.Name)
structure FWD(p:List Tx×List zg):Prop where
 len:p.1.length=p.2.length
 n:∀s∈p.1,FS s
 f:∀g∈p.2,FS g.Name
theorem zJA{n:Tx}{p:List Tx×List zg}{g:zg}(h:FWD p)(hn:FS n)(hg:FS g.Name):FWD (fW n p g)/\zW (fW n p g)=wF n (zW p) g:=by
 unfold fW wF
 cases g.Static with
 |true=>exact ⟨h,rfl⟩
 |false =>
  refine ⟨⟨by simp [h.len],λs hs=>?_,λx hx=>?_⟩,?_⟩
  .rcases Qm.1 hs with e |e
   .exact h.n s e
   .rw [Qz.1 e];exact hn
  .rcases Qm.1 hx with e |e
   .exact h.f x e
   .rw [Qz.1 e];exact hg
  .show ((p.1++[n]).zip (p.2++[g])).map _=_;rw [List.zip_append h.len,JN];rfl
theorem zCF{s:Tx}{c:za}(hs:FS s)(hc:X8 c){i:Nat}{T:List Tx}(hT:T[i]?=some s){p:List Tx×List zg}{k:Nat}(hp:p.1.length≤10000*k)(hk:k≤1000)(hd:FWD p):
  zk (λz=>D2 T (i:Int) c z.1 z.2.1 z.2.2) (p.1,p.2,0)=some (.inl (c.Fields.foldl (fW s) p))/\(c.Fields.foldl (fW s) p).1.length≤10000*(k+1)/\FWD (c.Fields.foldl (fW s) p)/\zW (c.Fields.foldl (fW s) p)=c.Fields.foldl (wF s) (zW p):=by
 have hfl:=hc.fields.len
 have:=ZP (β:=(List Tx×List zg)) (S:=List Tx×List zg×Int) (U:=List Tx×List zg) (R:=List Tx×List zg) (body:=λz=>D2 T (i:Int) c z.1 z.2.1 z.2.2) (λb j=>(b.1,b.2,j)) (λb=>b)
  (l:=c.Fields) (f:=fW s) (I:=λb j=>b.1.length≤10000*k+j/\j≤c.Fields.length/\FWD b) (λj g b hI hx=>by
   have hj:=(Qb.1 hx).1;obtain ⟨i1,i2,i3⟩:=hI;have hg:=(hc.fields.all g (Qc hx)).name;have hl:=i3.len;refine ⟨?_,?_,by omega,(zJA i3 hs hg).1⟩
   .show D2 T (i:Int) c b.1 b.2 (j:Int)=_;unfold D2 zjx fW;rw [Xk hx,zo,hx,zo,hT];simp only [RT,Qa];rw [XJ (by simp;omega) (by simp;omega)];simp only [Qa];rw [XJ (by simp;omega) (by simp;omega),zz (by omega)];cases g.Static <;> rfl
   .unfold fW
    cases g.Static <;> simp <;> omega) (λb hI=>by
   show D2 T (i:Int) c b.1 b.2 (c.Fields.length:Int)=_;unfold D2
   rw [Xm];rfl) (b0:=p) ⟨hp,Qo _,hd⟩
 refine ⟨this.1,by have:=this.2.1;omega,this.2.2.2,?_⟩
 have e:∀(r:List zg) (q:List Tx×List zg),(∀g∈r,FS g.Name)->FWD q->zW (r.foldl (fW s) q)=r.foldl (wF s) (zW q):=by
  intro r
  induction r with
  |nil=>intro q _ _;rfl
  |cons g r ih =>
   intro q hr hq;obtain ⟨h1,h2⟩:=zJA hq hs (hr g (by simp));rw [QE,QE,ih _ (λx hx=>hr x (by simp [hx])) h1,h2]
 exact e c.Fields p (λg hg=>(hc.fields.all g hg).name) hd
theorem zxP(h:Xe l L)(hF:∀c∈L,X8 c)(n:Tx):zko L n=some (Gx (XI L n)):=by
 have h26:=h.len;have hs26:=Z7 h n
 have hin:∀s∈Xn L n,∃c,c∈L/\cl L s=some c/\c.Name=s/\X7 L s=c:=λs hs=>by
  obtain ⟨c,hc⟩:=X0 (Kb h _ n s hs).1;exact ⟨c,(XO hc).1,hc,(XO hc).2,by unfold X7;rw [hc];rfl⟩
 have key:=zxa (β:=(List Tx×List zg)) (S:=List Tx×List zg×Int) (U:=List Tx×List zg) (R:=List Tx×List zg) (body:=λz=>zh6 L (Xn L n) z.1 z.2.1 z.2.2) (λb j=>(b.1,b.2,j)) (λb=>b)
  (l:=Xn L n) (f:=fC L) (I:=λb i=>b.1.length≤10000*(26-i)/\i≤26/\FWD b) (λi s b hI hx=>by
   have hi:=(Qb.1 hx).1;obtain ⟨i1,i2,i3⟩:=hI;obtain ⟨c,c1,c2,c3,c4⟩:=hin s (Qc hx)
   have hs:FS s:=by rw [<-c3];exact (hF c c1).name
   obtain ⟨k1,k2,k3,_⟩:=zCF hs (hF c c1) hx (p:=b) (k:=26-(i+1)) i1 (by omega) i3
   have e:fC L b s=c.Fields.foldl (fW s) b:=by unfold fC;rw [c4]
   rw [e];refine ⟨?_,by rw [show 26-i=26-(i+1)+1 by omega];exact k2,by omega,k3⟩;show zh6 L (Xn L n) b.1 b.2 (i:Int)=_;unfold zh6;rw [RD (by omega),zo,hx];simp only [RT,Qa];rw [Zb (by omega)];simp only [Qa];rw [GB c2];simp only [Qa];rw [show zk (λz=>D2 (Xn L n) (i:Int) c z.1 z.2.1 z.2.2) (b.1,b.2,0)=_ from k1];show some (Sum.inl (_,_,i64.wrap ((i:Int)-1)))=_
   rw [ZE (by omega) (by omega)]) (λb hI=>rfl) (b0:=([],[])) ⟨Qo _,hs26,⟨rfl,λs hs=>by simp at hs,λs hs=>by simp at hs⟩⟩
 obtain ⟨k1,k2,_,k4⟩:=key;unfold zko zoX;rw [HZ h];simp only [Qa];rw [ZE (by omega) (by omega),show zk (λz=>zh6 L (Xn L n) z.1 z.2.1 z.2.2) ([],[],((Xn L n).length:Int)-1)=_ from k1];generalize hP:(Xn L n).reverse.foldl (fC L) ([],[])=P at k1 k2 k4
 have hz:zW P=Gx (XI L n):=by
  rw [<-hP];unfold Gx XI;rw [List.foldl_map]
  have e:∀(r:List Tx) (q:List Tx×List zg) ,(∀s∈r,s∈Xn L n)->FWD q->zW (r.foldl (fC L) q)=r.foldl (λa s=>wC a (X7 L s)) (zW q):=by
   intro r
   induction r with
   |nil=>intro q _ _;rfl
   |cons s r ih =>
    intro q hr hq;obtain ⟨c,c1,c2,c3,c4⟩:=hin s (hr s (by simp))
    have hs:FS s:=by rw [<-c3];exact (hF c c1).name
    have e2:∀(r:List zg) (q:List Tx×List zg),(∀g∈r,FS g.Name)->FWD q->FWD (r.foldl (fW s) q)/\zW (r.foldl (fW s) q)=r.foldl (wF s) (zW q):=by
     intro r
     induction r with
     |nil=>intro q _ hq;exact ⟨hq,rfl⟩
     |cons g r ih =>
      intro q hr hq;obtain ⟨h1,h2⟩:=zJA hq hs (hr g (by simp));rw [QE,QE,<-h2];exact ih _ (λx hx=>hr x (by simp [hx])) h1
    have hcf:∀g∈c.Fields,FS g.Name:=λg hg=>((hF c c1).fields.all g hg).name;obtain ⟨h1,h2⟩:=e2 c.Fields q hcf hq;rw [QE,QE]
    have e3:fC L q s=c.Fields.foldl (fW s) q:=by unfold fC;rw [c4]
    rw [e3,ih _ (λx hx=>hr x (by simp [hx])) h1,h2,c4];congr 1;unfold wC;rw [c3]
  exact e _ _ (λs hs=>J5.1 hs) ⟨rfl,λs hs=>by simp at hs,λs hs=>by simp at hs⟩
 rw [<-hz];simp only [Qa,zB];unfold zn1;simp only [Qa];have hl:=k4.len
 have hzl:(P.1.zip P.2).length=P.2.length:=by rw [List.length_zip,hl];simp
 have w:=(ZP (β:=List Tx) (S:=List Tx×Int) (U:=List Tx) (R:=List Tx) (body:=λz=>Bp (P.1,P.2) z.1 z.2) (λb j=>(b,j)) (λb=>b)
  (l:=P.1.zip P.2) (f:=λa x=>a++[nmF x.1 x.2.Name]) (I:=λb i=>b.length=i/\i≤P.2.length) (λi x b hI hx=>by
   have hi:=(Qb.1 hx).1;obtain ⟨x1,x2⟩:=List.getElem?_zip_eq_some.1 hx;have n1:=k4.n _ (Qc x1);have n2:=k4.f _ (Qc x2);unfold FS at n1 n2;refine ⟨?_,by simp [hI.1],by omega⟩;show Bp (P.1,P.2) b (i:Int)=_;unfold Bp;simp only;rw [Xk x2,zo,x1,zo,x2];simp only [RT,Qa];rw [ZC (by simp;omega)];simp only [Qa];rw [ZC (by simp;omega)];simp only [Qa];rw [XJ (by simp;omega) (by simp;omega),zz (by omega)]
   rfl) (λb hI=>by
   rw [hzl];show Bp (P.1,P.2) b (P.2.length:Int)=_;unfold Bp;simp only
   rw [Xm];rfl) (b0:=[]) ⟨rfl,Qo _⟩).1
 rw [show zk (λz=>Bp (P.1,P.2) z.1 z.2) ([],0)=_ from w,zvM];rfl
theorem Or{a:List Tx}(ha:a.length≤1000000000000)(x:Tx):Hj a x=some (ixF (λy=>y == x) 0 a):=by
 unfold Hj;exact Zo (l:=a) (p:=λy:Tx=>y == x) (by omega) (λi y hy=>by unfold zmA;rw [Xk hy,zo,hy];rfl) (by unfold zmA;rw [Xm];rfl)
theorem IZ{a:List Tx}(x:Tx):ixF (λy=>y == x) 0 a=ixF (λy=>x == y) 0 a:=by
 congr 1;funext y;exact BEq.comm
def sRx(a:List Tx)(f:zb):List Tx:=cond ((!f.Static)&&!(a.any λy=>f.Name == y)) (a++[f.Name]) a
theorem zDw{a:List Tx}(x:Tx):decide (ixF (λy:Tx=>y == x) 0 a<0)=!(a.any λy=>x == y):=by
 rw [zGq,<-Hc,ZF,zGY,zGZ]
theorem zDN{c:za}(hc:X8 c){k:Nat}{a:List Tx}(ha:a.length≤10000*k)(hk:k≤1000):
  zk (λz=>Bo c z.1 z.2) (a,0)=some (.inl (c.Methods.foldl sRx a))/\(c.Methods.foldl sRx a).length≤10000*(k+1):=by
 have hF:=hc.methods.len
 have:=ZP (β:=List Tx) (S:=List Tx×Int) (U:=List Tx) (R:=List Tx) (body:=λz=>Bo c z.1 z.2) (λb i=>(b,i)) (λb=>b)
  (l:=c.Methods) (f:=sRx) (I:=λb i=>b.length≤10000*k+i/\i≤c.Methods.length) (λi x b hI hx=>by
   have hi:=(Qb.1 hx).1;have hI1:=hI.1;constructor
   .show Bo c b (i:Int)=_;unfold Bo ziu sRx;rw [Xk hx,zo,hx];simp only [RT,Qa];rw [Or (by omega)];simp only [Qa];rw [zDw,XJ (by simp;omega) (by simp;omega),zz (by omega)];cases x.Static <;> cases (b.any λy=>x.Name == y) <;> rfl
   .refine ⟨?_,by omega⟩;unfold sRx
    cases ((!x.Static)&&!(b.any λy=>x.Name == y)) <;> simp <;> omega) (λb hI=>by
   show Bo c b (c.Methods.length:Int)=_;unfold Bo
   rw [Xm];rfl) (b0:=a) ⟨ha,Qo _⟩
 refine ⟨this.1,?_⟩;have h2:=this.2.1;omega
theorem zvN{α β:Type}{f g:β->α->β}:∀(l:List α) (b:β),(∀b,∀x∈l,f b x=g b x)->l.foldl f b=l.foldl g b
 | [],b,_=>rfl
 |x ::r,b,h=>by rw [QE,QE,h b x (by simp),zvN r _ (λb y hy=>h b y (by simp [hy]))]
theorem zvO{α β:Type}{f:β->α->β}:∀(l:List α) (b:β),(∀b,∀x∈l,f b x=b)->l.foldl f b=b
 | [],b,_=>rfl
 |x ::r,b,h=>by rw [QE,h b x (by simp),zvO r _ (λb y hy=>h b y (by simp [hy]))]
theorem zxN(h:Xe l L)(hF:∀c∈L,X8 c){c:za}(hc:c∈L):zkq L c.Name=some (Kc (XI L c.Name)):=by
 have h26:=h.len;have hs26:=Z7 h c.Name;have hcl:cl L c.Name=some c:=(show Nd L from h.nd).cl hc;unfold zkq;rw [Zb (by omega)];simp only [Qa];rw [Gz,ZB hcl,GB hcl];simp only [Qr,RF,Qa];have hin:∀x∈XI L c.Name,x∈L/\x.Name∈Xn L c.Name:=λx hx=>zq2 h hx
 cases hi:c.Interface with
 |true =>
  have hisF:isF L c.Name=true:=by unfold isF;rw [hcl];exact hi
  have e:Kc (XI L c.Name)=[]:=by
   unfold Kc;refine zvO _ _ (λa x hx=>?_);obtain ⟨x1,x2⟩:=hin x hx;unfold sC;refine zvO _ _ (λa f hf=>?_)
   have hab:f.Abstract=true:=by
    rw [zlm h x1 hf]
    rcases zAn h x2 hisF with e |e
    .have:=(show Nd L from h.nd).cl x1;rw [e,hcl] at this;cases this;exact hi
    .exfalso
     have h0:cl giv KF=some (gC KF []):=by kernel_rfl
     have:=(show Nd L from h.nd).cl x1;rw [e,Oc h.app h0] at this;cases this;cases hf
   unfold sF;rw [hab];simp
  rw [e];rfl
 |false =>
  have hisF:isF L c.Name=false:=by unfold isF;rw [hcl];exact hi
  simp only [RF];rw [HZ h];simp only [Qa]
  have key:=zxa (β:=List Tx) (S:=List Tx×Int) (U:=List Tx) (R:=List Tx) (body:=λz=>zgV L (Xn L c.Name) z.1 z.2) (λb j=>(b,j)) (λb=>b)
   (l:=Xn L c.Name) (f:=λa s=>(X7 L s).Methods.foldl sRx a) (I:=λb i=>b.length≤10000*(26-i)/\i≤26) (λi s b hI hx=>by
    have hi:=(Qb.1 hx).1;obtain ⟨i1,i2⟩:=hI;obtain ⟨x,hxc⟩:=X0 (Kb h _ c.Name s (Qc hx)).1
    have e:X7 L s=x:=by unfold X7;rw [hxc];rfl
    obtain ⟨k1,k2⟩:=zDN (hF x (XO hxc).1) (a:=b) (k:=26-(i+1)) i1 (by omega);rw [e];refine ⟨?_,by rw [show 26-i=26-(i+1)+1 by omega];exact k2,by omega⟩;show zgV L (Xn L c.Name) b (i:Int)=_;unfold zgV;rw [RD (by omega),zo,hx];simp only [RT,Qa];rw [Zb (by omega)];simp only [Qa];rw [GB hxc];simp only [Qa];rw [k1];show some (Sum.inl (_,i64.wrap ((i:Int)-1)))=_
    rw [ZE (by omega) (by omega)]) (λb hI=>rfl) (b0:=[]) ⟨Qo _,hs26⟩
  rw [ZE (by omega) (by omega),show zk (λz=>zgV L (Xn L c.Name) z.1 z.2) ([],((Xn L c.Name).length:Int)-1)=_ from key.1]
  have e:(Xn L c.Name).reverse.foldl (λa s=>(X7 L s).Methods.foldl sRx a) []=Kc (XI L c.Name):=by
   unfold Kc XI;rw [List.foldl_map];refine zvN _ _ (λa s hs=>?_);rw [J5] at hs;obtain ⟨x,hxc⟩:=X0 (Kb h _ c.Name s hs).1
   have e:X7 L s=x:=by unfold X7;rw [hxc];rfl
   rw [e];unfold sC;refine zvN _ _ (λa f hf=>?_)
   have hab:f.Abstract=false:=by
    rw [zlm h (XO hxc).1 hf];have:=zD8 h hs hisF;unfold isF at this;rw [hxc] at this;exact this
   unfold sRx sF;rw [hab];simp
  rw [e];rfl
theorem zIF{a:List Tx}(hn:a.Nodup){i:Nat}{x:Tx}(hx:a[i]?=some x):ixF (λy=>x == y) 0 a=(i:Int):=by
 have hlt:=(Qb.1 hx).1
 rcases WI (λy=>x == y) a 0 with ⟨j,y,h1,h2,h3,h4⟩ |⟨h1,h2⟩
 .have e:x=y:=eq_of_beq h3;subst e;have:i=j:=(List.getElem?_inj hlt hn).1 (by rw [hx,h2]);rw [h1,this,QP]
 .have:=JP.1 h2 x (Qc hx);simp at this
theorem zCZ{a:List Tx}{x:Tx}(h:∀y∈a,x≠y):ixF (λy=>x == y) 0 a=-1:=by
 rcases WI (λy=>x == y) a 0 with ⟨j,y,h1,h2,h3,h4⟩ |⟨h1,h2⟩
 .exact absurd (eq_of_beq h3) (h y (Qc h2))
 .exact h1
theorem zrf{α β:Type}{f:List β->α->List β}{P:α->β->Prop}{y:β}(h:∀a x,y∈f a x->y∈a∨P x y):∀(l:List α) (a:List β),y∈l.foldl f a->y∈a∨∃x∈l,P x y
 | [],a,hy=>.inl hy
 |x ::r,a,hy=>by
  rw [QE] at hy
  rcases zrf h r (f a x) hy with e |⟨z,z1,z2⟩
  .rcases h a x e with e |e
   .exact .inl e
   .exact .inr ⟨x,by simp,e⟩
  .exact .inr ⟨z,by simp [z1],z2⟩
theorem zEs{cs:List za}{y:Tx}(hy:y∈Gx cs):∃d∈cs,∃g∈d.Fields,g.Static=false/\y=nmF d.Name g.Name:=by
 rcases zrf (P:=λ(d:za) y=>∃g∈d.Fields,g.Static=false/\y=nmF d.Name g.Name) (λa d hy=>zrf (P:=λ(g:zg) y=>g.Static=false/\y=nmF d.Name g.Name) (λa g hy=>by
  unfold wF at hy
  cases hs:g.Static with
  |true=>rw [hs] at hy;exact .inl hy
  |false =>
   rw [hs] at hy
   rcases Qm.1 hy with e |e
   .exact .inl e
   .exact .inr ⟨rfl,Qz.1 e⟩) d.Fields a hy) cs [] hy with e |e
 .cases e
 .exact e
theorem zza{cs:List za}{y:Tx}(hy:y∈cs.foldl stC []):∃d∈cs,∃g∈d.Fields,g.Static=true/\y=nmF d.Name g.Name:=by
 rcases zrf (P:=λ(d:za) y=>∃g∈d.Fields,g.Static=true/\y=nmF d.Name g.Name) (λa d hy=>zrf (P:=λ(g:zg) y=>g.Static=true/\y=nmF d.Name g.Name) (λa g hy=>by
  cases hs:g.Static with
  |false=>rw [hs] at hy;exact .inl hy
  |true =>
   rw [hs] at hy
   rcases Qm.1 hy with e |e
   .exact .inl e
   .exact .inr ⟨rfl,Qz.1 e⟩) d.Fields a hy) cs [] hy with e |e
 .cases e
 .exact e
theorem zGy:∀{a b x y:Tx},(46:UInt8) ∉ a->(46:UInt8) ∉ b->nmF a x=nmF b y->a=b/\x=y
 | [],[],x,y,_,_,h=>⟨rfl,by simpa [nmF] using h⟩
 | [],b ::bs,x,y,_,hb,h=>by
  have:(46:UInt8)=b:=by simp [nmF] at h;exact h.1
  exact absurd (by simp [this]) hb
 |a ::u,[],x,y,ha,_,h=>by
  have:a=(46:UInt8):=by simp [nmF] at h;exact h.1
  exact absurd (by simp [this]) ha
 |a ::u,b ::bs,x,y,ha,hb,h=>by
  have h2:a=b/\nmF u x=nmF bs y:=by simpa [nmF] using h
  obtain ⟨e1,e2⟩:=zGy (λe=>ha (by simp [e])) (λe=>hb (by simp [e])) h2.2;exact ⟨by rw [h2.1,e1],e2⟩
theorem zCn{s:Tx}(h:XF s=true):(46:UInt8) ∉ s:=by
 intro e;unfold XF Kn at h;simp only [Qd] at h;have:=Qp.1 h.1.1.1 46 e;exact absurd this (by decide +kernel)
theorem zAY(h:Xe l L){c:za}(hc:c∈L){f g:zg}(hf:f∈c.Fields)(hg:g∈c.Fields)(e:f.Name=g.Name):f=g:=by
 rw [h.app] at hc
 rcases Qm.1 hc with k |k
 .have hgv:giv.all (λc=>decide (c.Fields.length=0))=true:=by decide +kernel
  have:=of_decide_eq_true (Qp.1 hgv c k);rw [Qf this] at hf;cases hf
 .have hm:=h.may c k;unfold ZN at hm;simp only [Qd,Qk,decide_eq_true_eq] at hm;obtain ⟨_,⟨⟨⟨_,_⟩,h5,_⟩,h6,_⟩⟩:=hm;obtain ⟨i,hi⟩:=JC.1 hf;obtain ⟨j,hj⟩:=JC.1 hg;have:=zAA h5 i j f g hi hj e;rw [this,hj] at hi;cases hi;rfl
theorem zFS(cs:List za):(Kc cs).Nodup:=by
 have one:∀(r:List zb) (a:List Tx),a.Nodup->(r.foldl sF a).Nodup:=by
  intro r
  induction r with
  |nil=>intro a h;exact h
  |cons f r ih =>
   intro a h;rw [QE];refine ih _ ?_;unfold sF;rw [zGY];by_cases hm:f.Name∈a
   .rw [RD hm];simpa using h
   .rw [RE hm]
    cases ((!f.Static)&&(!f.Abstract)) with
    |false=>exact h
    |true=>exact JD.2 ⟨h,by simp,λx hx y hy e=>hm (by rw [<-Qz.1 hy,<-e];exact hx)⟩
 have all:∀(r:List za) (a:List Tx),a.Nodup->(r.foldl sC a).Nodup:=by
  intro r
  induction r with
  |nil=>intro a h;exact h
  |cons c r ih=>intro a h;rw [QE];exact ih _ (one c.Methods a h)
 exact all cs [] (by simp)
theorem zHo(h:Xe l L){c:za}(hc:c∈L){f:zg}(hf:f∈c.Fields):(BS L c.Name f.Name).1=c.Name:=by
 have hcl:cl L c.Name=some c:=(show Nd L from h.nd).cl hc;unfold BS;rw [zD5 h hcl,Q0];have hs:(c.Fields.find? (λy=>y.Name == f.Name)).isSome=true:=Yk.2 ⟨f,hf,by simp⟩
 cases hh:c.Fields.find? (λy=>y.Name == f.Name) with
 |none=>rw [hh] at hs;cases hs
 |some g =>
  have:UI L f.Name c.Name=some (c.Name,g,true):=by unfold UI;rw [hcl];simp only;rw [hh]
  rw [this];rfl
theorem zHS(h:Xe l L)(hm:Xu L m)(hF:∀c∈L,X8 c)(hD:∀c∈L,Zl L c){i:Nat}{c:za}(hi:L[i]?=some c):
  zoM L m (Xs L).1 (Xs L).2.1 (Xs L).2.2 L (i:Int) (Xs L).2.1 (Xs L).2.2=some true:=by
 have hc:=Qc hi;have hl:=zHD h hm hF hD;have hn:=(hF c hc).name;unfold FS at hn;have hml:=(hF c hc).methods.len;have hfl:=(hF c hc).fields.len;obtain ⟨w1,w2⟩:=zwI (t:=(Xs L).1) (me:=(Xs L).2.1) (st:=(Xs L).2.2) h hm hF c.Name;obtain ⟨s1,s2⟩:=zAl (t:=(Xs L).1) (me:=(Xs L).2.1) (st:=(Xs L).2.2) h hm hF c.Name;unfold zoM;rw [zo,hi];simp only [Qa];rw [zxP h hF,zxN h hF hc,w1,s1];simp only [Qa];rw [zia (by omega),zia (by omega),(Oh zqX).2 rfl,(Oh zqX).2 rfl];simp only [Qa,Qr,RF];have hme:=hl.me;have hst:=hl.st
 rw [show zk (λz=>OU L m (Xs L).1 (Xs L).2.1 (Xs L).2.2 (Xs L).2.1 c z) 0=_ from Hg (bad:=λ_=>false) (l:=c.Methods) (by omega) (λk f hk=>by
  have hkl:=(Qb.1 hk).1;have hfn:=((hF c hc).methods.all f (Qc hk)).name;unfold FS at hfn;show OU L m (Xs L).1 (Xs L).2.1 (Xs L).2.2 (Xs L).2.1 c (k:Int)=_;unfold OU;rw [Xk hk,zo,hk];simp only [RT,Qa];rw [zvd hme (by omega) (by omega),ZC (by simp;omega)];simp only [Qa];rw [ZC (by simp;omega)];simp only [Qa];rw [Or (by omega),IZ];simp only [Qa];rw [show (ixF (λy=>nmF c.Name f.Name == y) 0 (Xs L).2.1 == ixF (λy=>c.Name++[46]++f.Name == y) 0 (Xs L).2.1)=true from beq_iff_eq.2 rfl]
  rfl) (by
  show OU L m (Xs L).1 (Xs L).2.1 (Xs L).2.2 (Xs L).2.1 c (c.Methods.length:Int)=_;unfold OU
  rw [Xm];rfl)]
 rw [show c.Methods.any (λ_=>false)=false from Qw.2 (λ_ _=>Jh)];simp only [Qa,zB,RF];unfold zsv
 rw [show zk (λz=>OT L m (Xs L).1 (Xs L).2.1 (Xs L).2.2 c (Kc (XI L c.Name)) z) 0=_ from Hg (bad:=λ_=>false) (l:=Kc (XI L c.Name)) (by omega) (λk x hk=>by
  have hkl:=(Qb.1 hk).1;show OT L m (Xs L).1 (Xs L).2.1 (Xs L).2.2 c (Kc (XI L c.Name)) (k:Int)=_;unfold OT;rw [Xk hk,zo,hk];simp only [RT,Qa];rw [zzT h hm hF,zIF (zFS _) hk]
  simp) (by
  show OT L m (Xs L).1 (Xs L).2.1 (Xs L).2.2 c (Kc (XI L c.Name)) ((Kc (XI L c.Name)).length:Int)=_;unfold OT
  rw [Xm];rfl)]
 rw [show (Kc (XI L c.Name)).any (λ_=>false)=false from Qw.2 (λ_ _=>Jh)];simp only [Qa,zB,RF];unfold zsw;have hdot:∀d∈L,(46:UInt8) ∉ d.Name:=λd hd=>zCn (W2 h (ZB ((show Nd L from h.nd).cl hd)))
 have same:∀{d:za} {f g:zg},d∈L->f∈c.Fields->g∈d.Fields->nmF c.Name f.Name=nmF d.Name g.Name->f=g:=λ{d f g} hd hf hg e=>by
  obtain ⟨e1,e2⟩:=zGy (hdot c hc) (hdot d hd) e;have k1:=(show Nd L from h.nd).cl hc;have k2:=(show Nd L from h.nd).cl hd;rw [e1,k2] at k1;cases k1;exact zAY h hc hf hg e2
 rw [show zk (λz=>OS L m (Xs L).1 (Xs L).2.1 (Xs L).2.2 (Xs L).2.2 c (Gx (XI L c.Name)) z) 0=_ from Hg (bad:=λ_=>false) (l:=c.Fields) (by omega) (λk f hk=>by
  have hkl:=(Qb.1 hk).1;have hfm:=Qc hk;have hfn:=((hF c hc).fields.all f hfm).name;unfold FS at hfn;show OS L m (Xs L).1 (Xs L).2.1 (Xs L).2.2 (Xs L).2.2 c (Gx (XI L c.Name)) (k:Int)=_;unfold OS zmg;rw [Xk hk,zo,hk];simp only [RT,Qa];rw [zzU h hm hF (by omega),zBg hst (by omega) (by omega),zHo h hc hfm,ZC (by simp;omega)];simp only [Qa];rw [ZC (by simp;omega)];simp only [Qa];rw [Or (by omega),Or (by omega),IZ,IZ];simp only [Qa];have e0:c.Name++[46]++f.Name=nmF c.Name f.Name:=rfl;rw [e0]
  cases hs:f.Static with
  |true =>
   have e1:ixF (λy=>nmF c.Name f.Name == y) 0 (Gx (XI L c.Name))=-1:=zCZ (λy hy e=>by
    obtain ⟨d,d1,g,g1,g2,g3⟩:=zEs hy;rw [g3] at e;have:=same (zq2 h d1).1 hfm g1 e
    rw [this,g2] at hs;cases hs)
   rw [e1];simp
  |false =>
   have e1:ixF (λy=>nmF c.Name f.Name == y) 0 (Xs L).2.2=-1:=zCZ (λy hy e=>by
    rw [zGr] at hy;obtain ⟨d,d1,g,g1,g2,g3⟩:=zza hy;rw [g3] at e;have:=same d1 hfm g1 e
    rw [this,g2] at hs;cases hs)
   rw [e1]
   simp) (by
  show OS L m (Xs L).1 (Xs L).2.1 (Xs L).2.2 (Xs L).2.2 c (Gx (XI L c.Name)) (c.Fields.length:Int)=_;unfold OS
  rw [Xm];rfl)]
 rw [show c.Fields.any (λ_=>false)=false from Qw.2 (λ_ _=>Jh)];rfl
theorem zIo(h:Xe l L)(hm:Xu L m)(hF:∀c∈L,X8 c)(hD:∀c∈L,Zl L c)(a b:Tx):
  zju a b (L,m,Xs L) (Xs L).1 (Xs L).2.1 L=some true:=by
 have h26:=h.len;have hl:=zHD h hm hF hD;have hme:=hl.me;have ht:=hl.t
 have ha:(a.take 10).length≤10:=by rw [QI];omega
 have hb:(b.take 10).length≤10:=by rw [QI];omega
 obtain ⟨w1,w2⟩:=zwI (t:=(Xs L).1) (me:=(Xs L).2.1) (st:=(Xs L).2.2) h hm hF (a.take 10);unfold zju;rw [show (10:Int)=((10:Nat):Int) from rfl,KB,KB];simp only [Qa];rw [zEn ht,Or (by omega),IZ];simp only [Qa,beq_self_eq_true,RT];rw [zvd hme (by omega) (by omega),ZC (by simp;omega)];simp only [Qa];rw [ZC (by simp;omega)];simp only [Qa];rw [Or (by omega),IZ];have e0:a.take 10++[46]++b.take 10=nmF (a.take 10) (b.take 10):=rfl;rw [e0];simp only [Qa,beq_self_eq_true,RT];rw [Zb (by omega)];simp only [Qa];rw [Dw,zzU h hm hF (by omega),zzT h hm hF,w1]
 cases hh:Xj L (a.take 10) with
 |true=>rfl
 |false =>
  have e:XI L (a.take 10)=[]:=by unfold XI;rw [DH hh];rfl
  rw [e];rfl
theorem zIn{l:List za}(h:∀c∈l,OC c)(e:X1)(a b:Tx):zjt l e a b=some true:=by
 unfold zjt;rw [zuy,zJx];simp only [Qa,Qr,RF];have hf:∀c∈zIm l,X8 c:=λc hc=>(zAG h c hc).fc;obtain ⟨r,m,o,h1,h2,h3⟩:=zAN hf (X1.mk (e.C.take 12) (e.M.take 12));rw [h1,h2];simp only [Qa]
 cases o with
 |none=>simp
 |some L =>
  obtain ⟨hM,hm,hr⟩:=h3 L rfl;have hF:=zC4 hM hf;have hD:∀c∈L,Zl L c:=λc hc=>zIw hM hF hc;have h26:=hM.len;have hl:=zHD hM hm hF hD;have ht:=hl.t;have hme:=hl.me;have hst:=hl.st;simp only [QM,beq_self_eq_true,Qr,Option.isNone_some,Bool.or_self,RF];obtain ⟨t1,t2⟩:=zxO hM hF hD;rw [(zrc hM hm hF hD).1,t1,zuP hM hF,zuQ hM hF];simp only [Qa];unfold Ig Iv zek;rw [Ot (by omega),Ot (by omega),Ot (by omega)];simp only [Qa];rw [zia (by omega),zia (by omega),zia (by omega),(Oh zqX).2 rfl,(Oh zqX).2 rfl,(Oh zqX).2 rfl];simp only [Qa,Qr,RF]
  rw [show zk (λz=>EW (L,m,Xs L) (Xs L).1 z) 0=_ from Hg (bad:=λ_=>false) (l:=(Xs L).1) (by omega) (λk x hk=>by
   have hkl:=(Qb.1 hk).1;show EW (L,m,Xs L) (Xs L).1 (k:Int)=_;unfold EW;simp only;rw [Xk hk,zo,hk];simp only [RT,Qa];rw [zEn ht,zIF t2.nd hk]
   simp) (by
   show EW (L,m,Xs L) (Xs L).1 ((Xs L).1.length:Int)=_;unfold EW;simp only
   rw [Xm];rfl)]
  rw [show (Xs L).1.any (λ_=>false)=false from Qw.2 (λ_ _=>Jh)];simp only [Qa,zB,RF];unfold zme
  have lp:=(ZP (β:=Unit) (S:=Option zq×Int) (U:=List za) (R:=Bool) (body:=λz=>H6 (L,m,Xs L) (Xs L).2.1 (Xs L).2.2 z.1 z.2) (λ_ i=>(some (zq.mk L),i)) (λ_=>L)
   (l:=L) (f:=λb _=>b) (I:=λ_ i=>i≤L.length) (λi c b hI hx=>by
    have hi:=(Qb.1 hx).1;refine ⟨?_,by omega⟩;show H6 (L,m,Xs L) (Xs L).2.1 (Xs L).2.2 (some (zq.mk L)) (i:Int)=_;unfold H6;simp only [Zq];rw [Xk hx];simp only [RT];rw [zHS hM hm hF hD hx,zz (by omega)]
    rfl) (λb hI=>by
    show H6 (L,m,Xs L) (Xs L).2.1 (Xs L).2.2 (some (zq.mk L)) (L.length:Int)=_;unfold H6;simp only [Zq]
    rw [Xm];rfl) (b0:=()) (Qo _)).1
  rw [show zk (λz=>H6 (L,m,Xs L) (Xs L).2.1 (Xs L).2.2 z.1 z.2) (some (zq.mk L),0)=_ from lp];simp only [Qa,zB];exact zIo hM hm hF hD a b
theorem zuF(l:List za)(e:X1)(a b:Tx)(h:wL OC l)(_:zx4 e):Xo prog 8 [.isl 6 (List.map zf l),.agg (Kw e),sA a,sA b] (bA true):=zmf l e a b (zIn h.2 e a b)
end

end
end Go.Proofs.YthmnlfenkhmmhaaGreat
