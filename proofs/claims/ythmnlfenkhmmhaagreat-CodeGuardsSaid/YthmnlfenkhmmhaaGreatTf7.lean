/- What the proofs of this seat's laws rest on: how the program's functions compute, each for every input. No further condition. Part 7 of 8. -/
import Derived.Test.YthmnlfenkhmmhaaGreatTf6
namespace Go.Proofs.YthmnlfenkhmmhaaGreat
noncomputable section
open List (length map)
set_option linter.unusedSimpArgs false
set_option linter.unusedVariables false
section
variable {l L : List za} {m : List (Tx × Int)} {c : Tx} {mt : zc} {loc stk : List Tx} {b : Bool} {x : zn}
theorem zAR(h:zf1 l L m mt loc stk b)(ho:x.Op=3)(hA:0≤x.A):
  ∃p r,zk L m c mt loc stk b x=some p∧zp L c mt loc stk b x=some r∧zpJ mt.Stack p r∧znA loc stk b p:=by
 have P0:zk L m c mt loc stk b x=(cond (decide (((List.length loc):Int)≤x.A)) (zbY L m c mt loc stk b x true) ((idx loc x.A).bind fun v11=>zbY L m c mt loc stk b x (v11 == [84]))).bind fun v=>some (v.1,v.2.1,v.2.2):=by
  rw [zlO (by omega)];unfold za6;rw [qf (show x.Op≠1 by omega),qf (show x.Op≠2 by omega),qt ho];rfl
 have R0:zp L c mt loc stk b x=(cond (decide (x.A<(List.length loc:Int))) ((idx loc (if (IntKind.i64.wrap ((List.length loc:Int)-1))<x.A then (IntKind.i64.wrap ((List.length loc:Int)-1)) else x.A)).bind fun v10=>zcP L c mt loc stk x (b||(!(!(v10 == [84]))))) (zcP L c mt loc stk x (b||(!false)))).bind fun v=>some (v.1,v.2.1,v.2.2):=by
  rw [instr_plain (by omega) (by omega)];unfold zaa;rw [qf (show x.Op≠1 by omega),qf (show x.Op≠2 by omega),qt ho];rfl
 rw [P0,R0];by_cases hlt:x.A<(loc.length:Int)
 ·obtain ⟨k,hk⟩:∃k:Nat,x.A=(k:Int):=⟨x.A.toNat,by omega⟩
  have hkl:k<loc.length:=by omega
  have hw:IntKind.i64.wrap ((loc.length:Int)-1)=(loc.length:Int)-1:=znG (by omega) (by have:=h.shL.1;omega)
  have hi:idx loc x.A=some loc[k]:=by rw [hk,zw,Qe hkl]
  rw [hw,if_neg (by omega),decide_eq_false (by omega),decide_eq_true hlt,hi];simp only [cond_false,cond_true,Qa];unfold zbY zcP;rw [hi];simp only [Qa]
  cases ht:loc[k] == [84] with
  |true =>
   refine ⟨_,_,rfl,?_,zg2 (r:=(loc,stk,true)) rfl rfl,zga (fun _=>rfl) h.shL h.shS (QP _)⟩;simp
  |false =>
   rw [zfS h.shS.len]
   cases b with
   |true=>exact ⟨_,_,rfl,rfl,zg2 rfl rfl,ze9 id h.shL h.shS (QP _) (h.shL.2 _ (Qi hkl)) fun e=>by cases e⟩
   |false =>
    simp only [QB,Qp,Q0,cond_true];rw [zfT h.shS.len];exact ⟨_,_,rfl,rfl,zfF _,ze9 id h.shL h.shS (QP _) (h.shL.2 _ (Qi hkl)) fun _=>.inr ⟨h.shL.2 _ (Qi hkl),(h.onL _ (Qi hkl)).resolve_left fun e=>by rw [e] at ht;cases ht⟩⟩
 ·rw [decide_eq_true (by omega),decide_eq_false hlt];simp only [cond_false,cond_true];unfold zbY zcP;refine ⟨_,_,rfl,?_,zg2 (r:=(loc,stk,true)) rfl rfl,zga (fun _=>rfl) h.shL h.shS (QP _)⟩;simp
theorem zyD(h:zf1 l L m mt loc stk b)(ho:x.Op=4)(hA:0≤x.A):
  ∃p r,zk L m c mt loc stk b x=some p∧zp L c mt loc stk b x=some r∧zpJ mt.Stack p r∧znA loc stk b p:=by
 have P0:zk L m c mt loc stk b x=((zat L m c mt loc stk b).bind fun v15=>cond (decide (((List.length loc):Int)≤x.A)) (some (loc,v15.2.1,true)) ((zkx loc).bind fun v16=>(idx v16 x.A).bind fun v17=>some ((List.set v16 (Int.toNat x.A) v15.1),v15.2.1,v15.2.2))).bind fun v=>some (v.1,v.2.1,v.2.2):=by
  rw [zlO (by omega)];unfold za6;rw [qf (show x.Op≠1 by omega),qf (show x.Op≠2 by omega),qf (show x.Op≠3 by omega),qt ho];rfl
 have R0:zp L c mt loc stk b x=((zaO L c mt loc stk b).bind fun v14=>cond (!(v14.2.2||(!(decide (x.A<(List.length loc:Int)))))) ((zgh (zkY.mk loc v14.2.1)).bind fun v15=>(idx v15.1 x.A).bind fun v16=>some ((List.set v15.1 (Int.toNat x.A) v14.1),v15.2,(v14.2.2||(!(decide (x.A<(List.length loc:Int))))))) (some (loc,v14.2.1,(v14.2.2||(!(decide (x.A<(List.length loc:Int)))))))).bind fun v=>some (v.1,v.2.1,v.2.2):=by
  rw [instr_plain (by omega) (by omega)];unfold zaa;rw [qf (show x.Op≠1 by omega),qf (show x.Op≠2 by omega),qf (show x.Op≠3 by omega),qt ho];rfl
 obtain ⟨g1,g2⟩:=zey (b:=b) h.shS (e:=[84]) (by decide);obtain ⟨k1,k2⟩:=zey (b:=b) h.shS (e:=[78]) (by decide);rw [P0,R0,zn5 h.shS.len,zkf h.shS.len];simp only [Qa];by_cases hlt:x.A<(loc.length:Int)
 ·obtain ⟨k,hk⟩:∃k:Nat,x.A=(k:Int):=⟨x.A.toNat,by omega⟩
  have hkl:k<loc.length:=by omega
  have hi:idx loc x.A=some loc[k]:=by rw [hk,zw,Qe hkl]
  rw [decide_eq_false (by omega),decide_eq_true hlt,zs9 h.shL.len,zzk h.shL.len k2.len];simp only [cond_false,Qa,Qp,Q0];rw [hi];have e2:=zle [84] [78] stk b
  cases hb:(zb5 [78] stk b).2.2 with
  |true=>exact ⟨_,_,rfl,rfl,zg2 (by show (zb5 [84] stk b).2.2=true;rw [e2];exact hb) rfl,zsy zhN h.shL h.shS (zhO _ _ _) g1 zmW⟩
  |false =>
   have e1:=zgf [78] [84] stk b hb;refine ⟨_,_,rfl,rfl,?_,zsy zhN h.shL h.shS (zhO _ _ _) g1 zmW⟩;rw [e1,e2,hb];refine zgi fun _=>?_;have:=zrt [78] stk b;have:=h.room;omega
 ·rw [decide_eq_true (by omega),decide_eq_false hlt];simp only [cond_true,QB,Jv,Qp,cond_false];exact ⟨_,_,rfl,rfl,zg2 rfl rfl,zga (fun _=>rfl) h.shL h.shS (zhO _ _ _)⟩
theorem ztV{t:Tx}(ht:zgm t=true):zsQ L t=thN L t:=by
 unfold zsQ
 have e1:(t == [78])=false:=beq_eq_false_iff_ne.2 fun e=>by rw [e,zEp] at ht;cases ht
 have e2:(t == [84])=false:=beq_eq_false_iff_ne.2 fun e=>by rw [e,zEq] at ht;cases ht
 rw [e1,e2];rfl
theorem zAP(h:zf1 l L m mt loc stk b)(ho:x.Op=56∨x.Op=57)(hC:zgm x.C=true)(hl:x.C.length≤25):
  ∃p r,zk L m c mt loc stk b x=some p∧zp L c mt loc stk b x=some r∧zpJ mt.Stack p r∧znA loc stk b p:=by
 have hq:∀k:Int,k<56→(x.Op == k)=false:=fun k hk=>qf (by omega);obtain ⟨g1,g2⟩:=ztM (b:=b) h.shS (e:=[84]) (by decide);have e2:=(zpw (b:=b) h.on).1
 have k2:ShL (zoR stk b).2.1:=by rw [e2];exact g2
 rcases ho with ho |ho
 ·refine ⟨(loc,(zia [84] stk b).2.1++[x.C],(zia [84] stk b).2.2||!thN L x.C),_,?_,?_,zfF _,ze9 (fun e=>by rw [znw e];rfl) h.shL h.shS (zlV _ _ _) hl fun _=>.inr (zx2 hC hl)⟩
  ·rw [zpp (by omega)];unfold zcf;rw [qt ho];unfold zbb;simp only [cond_true];rw [zsJ h.shS];simp only [Qa];rw [zoY h.made h.map hl,ztV hC];simp only [Qa];rw [qt ho];simp only [cond_true];rw [zfS g2.len];rfl
  ·rw [instr_plain (by omega) (by omega)];unfold zaa;rw [hq 1 (by omega),hq 2 (by omega),hq 3 (by omega),hq 4 (by omega),hq 5 (by omega),hq 6 (by omega),hq 7 (by omega),hq 46 (by omega),hq 47 (by omega),hq 48 (by omega),qt ho];simp only [cond_false,cond_true];rw [zoS h.shS];simp only [Qa];rw [zeK h.made (by omega)];simp only [Qa];rw [zfT k2.len,e2];rfl
 ·refine ⟨(loc,(zia [84] stk b).2.1++[[73]],(zia [84] stk b).2.2||!thN L x.C),_,?_,?_,zfF _,ze9 (fun e=>by rw [znw e];rfl) h.shL h.shS (zlV _ _ _) (by decide) fun _=>.inr zmF⟩
  ·rw [zpp (by omega)];unfold zcf;rw [qf (show x.Op≠56 by omega),qt ho];unfold zbb;simp only [cond_true,cond_false];rw [zsJ h.shS];simp only [Qa];rw [zoY h.made h.map hl,ztV hC];simp only [Qa];rw [qf (show x.Op≠56 by omega)];simp only [cond_false];rw [zfS g2.len];rfl
  ·rw [instr_plain (by omega) (by omega)];unfold zaa;rw [hq 1 (by omega),hq 2 (by omega),hq 3 (by omega),hq 4 (by omega),hq 5 (by omega),hq 6 (by omega),hq 7 (by omega),hq 46 (by omega),hq 47 (by omega),hq 48 (by omega),qf (show x.Op≠56 by omega),qt ho];simp only [cond_false,cond_true];rw [zoS h.shS];simp only [Qa];rw [zeK h.made (by omega)];simp only [Qa];rw [zfT k2.len,e2];rfl
end
section
variable {l L : List za} {m : List (Tx × Int)} {c : Tx} {mt : zc} {loc stk : List Tx} {b : Bool} {x : zn}
theorem zD3{t:Tx}(h1:(t == [73])=false)(h2:zgm t=true):znR L [73] t=false:=by
 have e2:(t == [84])=false:=beq_eq_false_iff_ne.2 fun e=>by rw [e,zEq] at h2;cases h2
 have e3:(([73]:Tx) == t)=false:=by rw [Bool.eq_false_iff] at h1 ⊢;intro h;exact h1 (by rw [beq_iff_eq] at h ⊢;exact h.symm)
 rw [zzw,e2];simp only [cond_false];rw [show (([73]:Tx) == [78])=false from by decide,e3];simp
theorem zFu:zgm [86]=false:=by decide +kernel
theorem zAL(h:zf1 l L m mt loc stk b)(ho:x.Op=48)(hr:zwd mt.Ret=true)(hl:mt.Ret.length≤25):
  ∃p r,zk L m c mt loc stk b x=some p∧zp L c mt loc stk b x=some r∧zpJ mt.Stack p r∧znA loc stk b p:=by
 have hq:∀k:Int,k<48→(x.Op == k)=false:=fun k hk=>qf (by omega);obtain ⟨k1,k2⟩:=zey (b:=b) h.shS (e:=[78]) (by decide)
 have P0:zk L m c mt loc stk b x=some (loc,(zap L [84] [mt.Ret] stk (b||!zsf mt.Ret)).1,(zap L [84] [mt.Ret] stk (b||!zsf mt.Ret)).2):=by
  rw [zv5 (by omega)];unfold zel;rw [hq 46 (by omega),hq 47 (by omega),ziF (zwl hl)];simp only [cond_false,Qa];rw [zgA h.made h.map (sh1 hl) h.shS];rfl
 have R0:zp L c mt loc stk b x=some (loc,(zoR stk b).2.1,(zoR stk b).2.2||!(!(mt.Ret == [86])&&(!(mt.Ret == [73])&&znR L (zoR stk b).1 mt.Ret))):=by
  rw [instr_plain (by omega) (by omega)];unfold zaa;rw [hq 1 (by omega),hq 2 (by omega),hq 3 (by omega),hq 4 (by omega),hq 5 (by omega),hq 6 (by omega),hq 7 (by omega),hq 46 (by omega),hq 47 (by omega),qt ho];simp only [cond_false,cond_true];rw [zoS h.shS];simp only [Qa];rw [zib h.made (show (zoR stk b).1.length≤25 from k1) hl];cases mt.Ret == [86] <;> cases mt.Ret == [73] <;> rfl
 refine ⟨_,_,P0,R0,?_,zga (fun e=>zbH _ _ _ (by rw [e];rfl)) h.shL h.shS (zd8 _ _ _ _ _)⟩
 cases h1:mt.Ret == [86] with
 |true =>
  have e:mt.Ret=[86]:=by simpa using h1
  have:zsf mt.Ret=false:=by unfold zsf;rw [e,zFu];rfl
  rw [this];exact zg2 (zbH _ _ _ (by simp)) (by simp)
 |false =>
  cases h2:mt.Ret == [73] with
  |true =>
   have:zsf mt.Ret=false:=by unfold zsf;rw [h2];rfl
   rw [this];exact zg2 (zbH _ _ _ (by simp)) (by simp)
  |false =>
   have hm:zgm mt.Ret=true:=by unfold zwd at hr;rw [h1] at hr;simpa using hr
   have:zsf mt.Ret=true:=by unfold zsf;rw [h2,hm];rfl
   rw [this];simp only [Qp,Q0,QB,QD]
   have key:((zoR stk b).2.1,(zoR stk b).2.2||!znR L (zoR stk b).1 mt.Ret)=zap L [84] [mt.Ret] stk b:=by
    rw [zfV [84] [78]];show ((zb5 [78] stk b).2.1,((zb5 [78] stk b).2.2||!(!((zb5 [78] stk b).1 == [73])))||!znR L (zb5 [78] stk b).1 mt.Ret)=((zb5 [78] stk b).2.1,(zb5 [78] stk b).2.2||!znR L (zb5 [78] stk b).1 mt.Ret)
    cases h3:(zb5 [78] stk b).1 == [73] with
    |true =>
     have e:(zb5 [78] stk b).1=[73]:=by simpa using h3
     rw [e,zD3 h2 hm];simp
    |false=>simp
   rw [←key];refine zgi fun _=>?_;have:=zrt [78] stk b;have:=h.room;show (((zb5 [78] stk b).2.1).length:Int)≤mt.Stack;omega
end
theorem zA8(t:Tx):t.length≤(zgB t).length+1:=by
 cases t with
 |nil=>exact Qv _
 |cons x r=>rw [zhv];split <;> simp
theorem zo7{t:Tx}(h:zcT t=true):t.length≤8:=by
 unfold zcT ztZ at h;simp only [Qd,decide_eq_true_eq] at h;have:=h.1.1.2.2;omega
theorem zDk{t:Tx}(h:zgm t=true):t.length≤10:=by
 have h1:=zA8 t;have h2:=zA8 (zgB t);unfold zgm at h;rw [Qw] at h
 rcases h with h |h
 ·have e:zgB (zgB t)=[73]:=by simpa using h
  rw [e] at h2;simp at h2;omega
 ·have:=zo7 h;omega
theorem zmS{t:Tx}(h:zgm t=true):t.length≤25:=by have:=zDk h;omega
theorem zsL{t:Tx}(h:zwd t=true):t.length≤25:=by
 unfold zwd at h;rw [Qw] at h
 rcases h with h |h
 ·have e:t=[86]:=by simpa using h
  rw [e];decide
 ·exact zmS h
theorem zCz{t:Tx}(h:ztS t=true):t.length≤25∧(t=[84]∨onS t):=by
 unfold ztS at h;simp only [Qw,beq_iff_eq] at h
 rcases h with ((h |h) |h) |h
 ·subst h;exact ⟨zmF.1,.inr zmF.2⟩
 ·subst h;exact ⟨zBJ.1,.inr zBJ.2⟩
 ·subst h;exact ⟨by decide,.inl rfl⟩
 ·unfold zsf at h;rw [Qd] at h;exact ⟨zmS h.2,.inr (.inr h.2)⟩
theorem zDd{α:Type}{bad:List α→α→Bool}:∀{l pre:List α},gB bad pre l=false→∀x∈l,∃q,bad q x=false
 | [],_,_,x,hx=>by cases hx
 |y ::r,pre,h,x,hx=>by
  unfold gB at h;rw [Qo] at h
  rcases Qr.1 hx with e |e
  ·rw [e];exact ⟨pre,h.1⟩
  ·exact zDd h.2 x e
structure zyN(m:zc)(x:zX):Prop where
 locs:(x.Locals.length:Int)=m.Locals
 stks:(x.Stack.length:Int)≤m.Stack
 locT:∀t∈x.Locals,ztS t=true
 stkT:∀t∈x.Stack,ztS t=true∧t≠[84]
structure zmu(m:zc):Prop where
 params:∀s∈m.Params,zgm s=true
 npar:m.Params.length≤6
 ret:zwd m.Ret=true
 locs:zaM m≤m.Locals∧m.Locals≤16
 stack:0≤m.Stack∧m.Stack≤16
 code:1≤m.Code.length∧m.Code.length≤100
 last:∃y,m.Code.getLast?=some y∧zlP y.Op=true
 ins:∀x∈m.Code,zn3 x=true
 traps:∀y∈m.Traps,y.C=[]∨zcT y.C=true
 ntraps:m.Traps.length≤6
 maps:∀x∈m.Maps,zyN m x
 nmaps:m.Maps.length≤100
theorem btw{n a b:Int}(h:zE n a b=true):a≤n∧n≤b:=by
 unfold zE at h;simpa using h
theorem zvd{l:List Tx}(h:zpy l=true):∀t∈l,ztS t=true:=fun t ht=>by
 unfold zpy at h;rw [Qk,Qq] at h;simpa using h t ht
theorem ztx{m:zc}(h:zhB m=true):(∀s∈m.Params,zgm s=true)∧m.Params.length≤6∧zwd m.Ret=true:=by
 unfold zhB at h;simp only [Qd,Qk,Qo,decide_eq_false_iff_not] at h;obtain ⟨⟨⟨⟨h1,h2⟩,h3⟩,h4⟩,h5⟩:=h;refine ⟨fun s hs=>?_,by omega,h4⟩;unfold zxE at h3;rw [Qk,Qq] at h3;simpa using h3 s hs
theorem zB8{m:zc}(h:zhB m=true)(ha:m.Abstract=true):m.Static=false:=by
 unfold zhB at h;rw [ha] at h;simp only [Qd,cond_true] at h;obtain ⟨_,h5⟩:=h;unfold ziB at h5;simp only [Qd,Qk] at h5
 first
  |exact h5.1
  |exact h5.1.1
  |exact h5.1.1.1
  |exact h5.1.1.1.1
theorem zFA{m:zc}(h:zhB m=true)(ha:m.Abstract=false):zmu m:=by
 obtain ⟨p1,p2,p3⟩:=ztx h;unfold zhB at h;rw [ha] at h;simp only [Qd,cond_false] at h;obtain ⟨_,_,hl,hs,⟨hi,ht⟩,hm⟩:=h;have hl:=btw hl;have hs:=btw hs;unfold instrN at hi;simp only [Qd,Qk] at hi;obtain ⟨i1,i2,i3⟩:=hi;have i1:=btw i1;unfold zxB at ht;simp only [Qd,Qk,decide_eq_true_eq] at ht;obtain ⟨t1,t2⟩:=ht;unfold zzU at hm;simp only [Qd,Qk,decide_eq_true_eq] at hm;obtain ⟨m1,m2⟩:=hm;refine ⟨p1,p2,p3,hl,hs,by omega,?_,fun x hx=>?_,fun y hy=>?_,by omega,fun x hx=>?_,by omega⟩
 ·cases hg:m.Code.getLast? with
  |none=>rw [hg] at i2;cases i2
  |some y=>rw [hg] at i2;exact ⟨y,rfl,i2⟩
 ·have:=(Qq.1 i3) x hx;unfold zF5 at this;simp only [Qw,Qk,not_or] at this;simpa using this.1
 ·have:=(Qq.1 t1) y hy;unfold zCP at this;simp only [Qw,not_or,Qd,Qk,not_and,beq_eq_false_iff_ne] at this;by_cases e:y.C=[]
  ·exact .inl e
  ·right;have:=this.2 e;simpa using this
 ·obtain ⟨q,hq⟩:=zDd m1 x hx;unfold zFq at hq;simp only [Qo,Q6,beq_iff_eq,decide_eq_false_iff_not] at hq;obtain ⟨_,⟨h1,h2⟩,⟨h3,h4⟩,h5⟩:=hq;refine ⟨h1,by omega,zvd h3,fun t ht=>⟨zvd h4 t ht,fun e=>?_⟩⟩;subst e;have:=(Qq.1 h5) [84] ht;simp at this
theorem zw7{l L:List za}(h:zct l L){x:za}(hx:x∈L){f:zc}(hf:f∈x.Methods):zhB f=true:=by
 rw [h.app] at hx
 rcases Qu.1 hx with e |e
 ·have hg:giv.all (fun c=>decide (c.Methods.length=0))=true:=by decide +kernel
  have:=of_decide_eq_true (Qs.1 hg x e);rw [Qf this] at hf;cases hf
 ·have:=h.may x e;unfold zuK at this;simp only [Qd,Qk,decide_eq_true_eq] at this;have h2:=zsU this.2.2.1 f hf;rw [Qd] at h2;exact h2.2
theorem zBF{l L:List za}(h:zct l L){x:za}(hx:x∈L){f:zj}(hf:f∈x.Fields):zgm f.Type_=true:=by
 rw [h.app] at hx
 rcases Qu.1 hx with e |e
 ·have hg:giv.all (fun c=>decide (c.Fields.length=0))=true:=by decide +kernel
  have:=of_decide_eq_true (Qs.1 hg x e);rw [Qf this] at hf;cases hf
 ·have:=h.may x e;unfold zuK at this;simp only [Qd,Qk,decide_eq_true_eq] at this;have h2:=zsU this.2.1.2.1 f hf;unfold zpb at h2;simp only [Qd] at h2;exact h2.2
theorem zEl{x:zn}(h:zn3 x=true):x.C.length≤10:=by
 unfold zn3 at h;simp only [Qd] at h;have:=h.1.2;unfold zvY at this;cases h1:zjI x.Op <;> rw [h1] at this
 ·cases h2:zEX x.Op <;> rw [h2] at this
  ·have e:x.C=[]:=by simpa using this
   rw [e];decide
  ·have:=zo7 (show zcT x.C=true from this);omega
 ·have:zsf x.C=true:=this;unfold zsf at this;rw [Qd] at this;exact zDk this.2
def zw5(mt:zc)(n:Int):Option zX:=mt.Maps.find? (fun x=>x.At == n)
def zxK(L:List za)(a b:List Tx):Bool:=((a.length:Int) == (b.length:Int))&&!(List.range a.length).any (fun i=>!znR L ((a[i]?).getD []) ((b[i]?).getD []))
def zpf(L:List za)(mt:zc)(loc stk:List Tx)(n:Int):Bool:=match zw5 mt n with |some x=>zxK L loc x.Locals&&zxK L stk x.Stack |none=>false
theorem zEm{α:Type}(p:α→Bool)(l:List α):decide (ixF p 0 l<0)=!(l.find? p).isSome:=by
 rw [←zlG];by_cases h:ixF p 0 l<0
 ·rw [decide_eq_true h,decide_eq_false (by omega)];rfl
 ·rw [decide_eq_false h,decide_eq_true (by omega)];rfl
section
variable {l L : List za} {m : List (Tx × Int)} {c : Tx} {mt : zc} {loc stk : List Tx} {b : Bool}
theorem zwu{body:Int→Option (Sum Int (Sum Unit Bool))}{a b:List Tx}(ha:a.length≤1000)(hn:a.length=b.length)
  (hb:∀(i:Nat) x y,a[i]?=some x→b[i]?=some y→body (i:Int)=cond (!znR L x y) (some (.inr (.inr false))) (some (.inl (IntKind.i64.wrap ((i:Int)+1)))))
  (he:body (a.length:Int)=some (.inr (.inl ()))):((zr body 0).bind fun o=>zQ o (fun _=>some true) some)=some (zxK L a b):=by
 rw [zsC (n:=a.length) (g:=fun i=>cond (!znR L ((a[i]?).getD []) ((b[i]?).getD [])) (some false) none) (u:=()) (fun i hi=>by
  have h1:a[i]?=some a[i]:=Qe hi;have h2:b[i]?=some (b[i]'(by omega)):=Qe (by omega);rw [hb i _ _ h1 h2,h1,h2,zU (by omega)];simp only [Jo]
  cases znR L a[i] (b[i]'(by omega)) <;> rfl) he,zcK]
 unfold zxK;rw [hn,beq_self_eq_true,QD];cases (List.range b.length).any (fun i=>!znR L ((a[i]?).getD []) ((b[i]?).getD [])) <;> rfl
theorem zyY{a b:List Tx}(h:a.length≠b.length):zxK L a b=false:=by
 unfold zxK;rw [beq_eq_false_iff_ne.2 (show (a.length:Int)≠(b.length:Int) by omega)];rfl
theorem zyT(h:zct l L)(hm:zaW L m){a b:List Tx}(ha:ShL a)(hb2:∀t∈b,t.length≤25):zjh L m a b=some (zxK L a b):=by
 unfold zjh;by_cases hn:a.length=b.length
 ·rw [show ((a.length:Int) == (b.length:Int))=true by rw [hn];exact beq_self_eq_true _]
  exact zwu (body:=fun z=>zgl L m a b z) ha.len hn (fun i x y hx hy=>by
   show zgl L m a b (i:Int)=_;have:=ha.2 x (Qc hx);have:=hb2 y (Qc hy);unfold zgl;rw [ze8 hx,zw,zw,hx,hy];simp only [cond_true,Qa]
   rw [zqB h hm (by omega) (by omega)];rfl) (by
   show zgl L m a b (a.length:Int)=_;unfold zgl
   rw [zfM];rfl)
 ·rw [beq_eq_false_iff_ne.2 (show (a.length:Int)≠(b.length:Int) by omega),zyY hn];rfl
theorem zmu.lenM(hk:zmu mt):zlm mt.Maps:=by have:=hk.nmaps;unfold zlm;omega
theorem zro(hk:zmu mt){n:Int}{x:zX}(h:zw5 mt n=some x):zyN mt x:=hk.maps x (QY h)
theorem zyN.loc25{x:zX}(h:zyN mt x):∀t∈x.Locals,t.length≤25:=fun t ht=>(zCz (h.locT t ht)).1
theorem zyN.stk25{x:zX}(h:zyN mt x):∀t∈x.Stack,t.length≤25:=fun t ht=>(zCz (h.stkT t ht).1).1
theorem zvG(hk:zmu mt){n:Int}:zdK L m c mt loc stk b n=some (zw5 mt n):=by
 unfold zdK zb6
 rw [show ((zr (fun z=>zbE mt.Maps n z) 0).bind fun o=>zQ o (fun b=>ze5) some)=_ from zaz (p:=fun x:zX=>x.At == n) hk.lenM
  (fun i x hx=>by
   unfold zbE zfL
   rw [ze8 hx,zw,hx];rfl) (by unfold zbE;rw [zfM];rfl)]
 simp only [Qa];rw [zEm,zpT];unfold zw5;cases mt.Maps.find? (fun x=>x.At == n) <;> rfl
theorem zwZ(h:zct l L)(hm:zaW L m){x:zX}(hx:zyN mt x)(hl:ShL loc)(hs:ShL stk):zfK L m x loc stk=some (zxK L loc x.Locals&&zxK L stk x.Stack):=by
 unfold zfK;rw [zyT h hm hl hx.loc25,zyT h hm hs hx.stk25];cases zxK L loc x.Locals <;> rfl
theorem zDf(h:zct l L)(hm:zaW L m)(hk:zmu mt)(hl:ShL loc)(hs:ShL stk){n:Int}:zdL L m c mt loc stk b n=some (b||!zpf L mt loc stk n):=by
 unfold zdL zpf;rw [zvG hk];simp only [Qa]
 cases hf:zw5 mt n with
 |none=>rfl
 |some x =>
  show (zfK L m x loc stk).bind _=_;rw [zwZ h hm (zro hk hf) hl hs];rfl
theorem zEc(h:zct l L)(hm:zaW L m)(hk:zmu mt)(hl:ShL loc){s:List Tx}(hs:ShL s){n:Int}:zfe L m c mt loc stk b n s=some (b||!zpf L mt loc s n):=by
 unfold zfe zpf;rw [zvG hk];simp only [Qa]
 cases hf:zw5 mt n with
 |none=>rfl
 |some x =>
  show (zfK L m x loc s).bind _=_;rw [zwZ h hm (zro hk hf) hl hs];rfl
end
section
variable {l L : List za} {m : List (Tx × Int)} {c : Tx} {mt : zc} {loc stk : List Tx} {b : Bool} {x : zn}
def znS(L:List za)(C M:Tx):FR:=((zea L C).findSome? (zvn L M)).getD ([],zF,false)
theorem zzz(h:zct l L)(C M:Tx):(znS L C M).2.1.Type_.length≤25∧((znS L C M).2.2=true→zgm (znS L C M).2.1.Type_=true):=by
 unfold znS
 cases hq:(zea L C).findSome? (zvn L M) with
 |none=>exact ⟨Qv _,fun e=>by cases e⟩
 |some r =>
  obtain ⟨s,hs,e⟩:=Q2 hq;unfold zvn at e
  cases hc:cl L s with
  |none=>rw [hc] at e;cases e
  |some y =>
   rw [hc] at e;simp only at e
   cases hf:y.Fields.find? (fun y=>y.Name == M) with
   |none=>rw [hf] at e;cases e
   |some f =>
    rw [hf] at e;cases e;have:=zBF h (zbK hc).1 (QY hf);exact ⟨zmS this,fun _=>this⟩
structure zGi(r:MR):Prop where
 params:∀s∈r.2.1.Params,zgm s=true
 npar:r.2.1.Params.length≤6
 ret25:r.2.1.Ret.length≤25
 ret:r.2.2=true→zwd r.2.1.Ret=true
theorem zz1:zGi ([],zM,false):=⟨fun s hs=>(Yl (show s∈([]:List Tx) from hs)).elim,Qv _,Qv _,fun e=>by cases e⟩
theorem zzX{may:zc→Bool}{n s:Tx}{r:MR}(e:znp L may n s=some r):∃y f,cl L s=some y∧f∈y.Methods∧r=(s,f,true):=by
 unfold znp at e
 cases hc:cl L s with
 |none=>rw [hc] at e;cases e
 |some y =>
  rw [hc] at e;simp only at e
  cases hf:y.Methods.find? (fun y=>y.Name == n) with
  |none=>rw [hf] at e;cases e
  |some f =>
   rw [hf] at e;simp only at e
   cases hm:may f with
   |false=>rw [hm] at e;cases e
   |true =>
    rw [hm] at e;cases e;exact ⟨y,f,rfl,QY hf,rfl⟩
theorem zz0(h:zct l L)(may:zc→Bool)(n:Tx)(T:List Tx):zGi ((T.findSome? (znp L may n)).getD ([],zM,false)):=by
 cases hq:T.findSome? (znp L may n) with
 |none=>exact zz1
 |some r =>
  obtain ⟨s,hs,e⟩:=Q2 hq;obtain ⟨y,f,hc,hf,rfl⟩:=zzX e;obtain ⟨p1,p2,p3⟩:=ztx (zw7 h (zbK hc).1 hf);exact ⟨p1,p2,zsL p3,fun _=>p3⟩
theorem zEw(h:zct l L)(C n:Tx):zGi (zoo L C n)∧((zoo L C n).2.2=true→(zoo L C n).2.1.Static=false):=by
 unfold zoo
 cases hF:isF L C with
 |false=>exact ⟨zz1,fun e=>by cases e⟩
 |true =>
  refine ⟨zz0 h _ _ _,?_⟩;simp only [cond_true]
  cases hq:(C ::zfs L C).findSome? (znp L zfQ n) with
  |none=>exact fun e=>by cases e
  |some r =>
   obtain ⟨s,hs,e⟩:=Q2 hq;obtain ⟨y,f,hc,hf,rfl⟩:=zzX e;intro _
   have hI:isF L s=true:=by
    rcases Qr.1 hs with e |e
    ·rw [e];exact hF
    ·exact (zuq.1 e).2
   have hy:y.Interface=true:=by unfold isF at hI;rw [hc] at hI;exact hI
   have ha:=zof h (zbK hc).1 hf;exact zB8 (zw7 h (zbK hc).1 hf) (ha.trans hy)
theorem zAc(ho:x.Op=20):zk L m c mt loc stk b x=some (loc,stk,b):=by
 unfold zk;rw [bf (by omega),qf (show x.Op≠13 by omega),bf (by omega),qt ho];rfl
theorem zAd(h:zf1 l L m mt loc stk b)(ho:21≤x.Op∧x.Op≤26):zk L m c mt loc stk b x=some (loc,zap L [84] [[73]] stk b):=by
 unfold zk;rw [bf (by omega),qf (show x.Op≠13 by omega),bf (by omega),qf (show x.Op≠20 by omega),bt ho];simp only [cond_false,cond_true];rw [zgA h.made h.map (sh1 zmF.1) h.shS];rfl
theorem zAe(h:zf1 l L m mt loc stk b)(ho:27≤x.Op∧x.Op≤32):zk L m c mt loc stk b x=some (loc,zap L [84] [[73],[73]] stk b):=by
 unfold zk;rw [bf (by omega),qf (show x.Op≠13 by omega),bf (by omega),qf (show x.Op≠20 by omega),bf (by omega),bt ho];simp only [cond_false,cond_true];rw [zgA h.made h.map (sh2 zmF.1 zmF.1) h.shS];rfl
theorem zAf(h:zf1 l L m mt loc stk b)(ho:33≤x.Op∧x.Op≤34):zk L m c mt loc stk b x=some (loc,(zia [84] stk b).2):=by
 unfold zk;rw [bf (by omega),qf (show x.Op≠13 by omega),bf (by omega),qf (show x.Op≠20 by omega),bf (by omega),bf (by omega),bt ho];simp only [cond_false,cond_true];rw [zsJ h.shS];rfl
theorem zAg(h:zf1 l L m mt loc stk b)(ho:35≤x.Op∧x.Op≤36):zk L m c mt loc stk b x=some (loc,(zia [84] (zia [84] stk b).2.1 (zia [84] stk b).2.2).2):=by
 unfold zk;rw [bf (by omega),qf (show x.Op≠13 by omega),bf (by omega),qf (show x.Op≠20 by omega),bf (by omega),bf (by omega),bf (by omega),bt ho];simp only [cond_false,cond_true];rw [zsJ h.shS];simp only [Qa];rw [zsJ (ztM h.shS (by decide)).2];rfl
theorem zuU(ho:37≤x.Op∧x.Op≤41):zk L m c mt loc stk b x=(zeu L m c mt loc stk b x).bind fun v=>some (loc,v.1,v.2):=by
 have e:((x.Op == (37:Int))||zaJ x.Op 38 41)=true:=by
  by_cases h:x.Op=37
  ·rw [qt h];rfl
  ·rw [bt (show (38:Int)≤x.Op∧x.Op≤41 by omega),Jv]
 unfold zk;rw [bf (by omega),qf (show x.Op≠13 by omega),bf (by omega),qf (show x.Op≠20 by omega),bf (by omega),bf (by omega),bf (by omega),bf (by omega),e];rfl
theorem zCh(ho:42≤x.Op∧x.Op≤45):zk L m c mt loc stk b x=(zdJ L m c mt loc stk b x).bind fun v=>some (loc,v.1,v.2):=by
 unfold zk;rw [bf (by omega),qf (show x.Op≠13 by omega),bf (by omega),qf (show x.Op≠20 by omega),bf (by omega),bf (by omega),bf (by omega),bf (by omega),qf (show x.Op≠37 by omega),bf (by omega),bt ho];rfl
theorem ziN(ho:49≤x.Op∧x.Op≤55):zk L m c mt loc stk b x=(zaK L m c mt loc stk b x).bind fun v=>some (loc,v.1,v.2):=by
 unfold zk;rw [bf (by omega),qf (show x.Op≠13 by omega),bf (by omega),qf (show x.Op≠20 by omega),bf (by omega),bf (by omega),bf (by omega),bf (by omega),qf (show x.Op≠37 by omega),bf (by omega),bf (by omega),bf (by omega),bt ho];rfl
end
theorem zne{α R:Type}{body:Bool×Int→Option (Sum (Bool×Int) (Sum Bool R))}{l:List α}{p:α→Bool}(hl:l.length≤1000000)
  (hb:∀(i:Nat) x (b:Bool),l[i]?=some x→body (b,(i:Int))=some (.inl (b||p x,IntKind.i64.wrap ((i:Int)+1))))
  (he:∀b:Bool,body (b,(l.length:Int))=some (.inr (.inl b))) (b0:Bool):zr body (b0,0)=some (.inl (b0||l.any p)):=by
 have key:∀(r pre:List α) (b:Bool),l=pre++r→zr body (b,(pre.length:Int))=some (.inl (b||r.any p)):=by
  intro r
  induction r with
  |nil =>
   intro pre b h
   have e:l=pre:=by rw [h,Qz]
   subst e;rw [zR,he];simp
  |cons x r ih =>
   intro pre b h
   have hlen:l.length=pre.length+(r.length+1):=by rw [h];simp
   have hx:l[pre.length]?=some x:=by rw [h];simp
   rw [zR,hb _ x b hx,zU (by omega)];have:=ih (pre++[x]) (b||p x) (by rw [h];simp);rw [show (pre++[x]).length=pre.length+1 by simp] at this;simp only [Qa,JM];rw [this,Jg,Bool.or_assoc]
 exact key l [] b0 rfl
def zhw(L:List za)(mt:zc)(loc stk:List Tx)(n:Int)(g:Bool):List Tx×List Tx×Bool:=
 match zw5 mt n with |none=>(loc,stk,!g) |some x=>(x.Locals,x.Stack,g&&!zpf L mt loc stk n)
def zrG:Tx:=[84,104,114,111,119,110]
def zsh(t:zT):Tx:=cond (t.C == []) zrG t.C
def zrJ(L:List za)(mt:zc)(loc:List Tx)(n:Int)(t:zT):Bool:=
 !zwn L (zsh t) zrG||((decide (t.From≤n)&&decide (n<t.To))&&!zpf L mt loc [zsh t] t.At)
section
variable {l L : List za} {m : List (Tx × Int)} {c : Tx} {mt : zc} {loc stk : List Tx} {b : Bool}
theorem zyN.shl{x:zX}(hk:zmu mt)(h:zyN mt x):ShL x.Locals:=⟨by have:=h.locs;have:=hk.locs.2;omega,h.loc25⟩
theorem zyN.shs{x:zX}(hk:zmu mt)(h:zyN mt x):ShL x.Stack:=⟨by have:=h.stks;have:=hk.stack.2;omega,h.stk25⟩
theorem zzs(h:zct l L)(hm:zaW L m)(hk:zmu mt)(hl:ShL loc)(hs:ShL stk){n:Int}{g:Bool}:
  zf0 L m c mt loc stk b n g=some ((zhw L mt loc stk n g).1,(zhw L mt loc stk n g).2.1,b||(zhw L mt loc stk n g).2.2):=by
 unfold zf0 zhw;rw [zvG hk];simp only [Qa]
 cases hf:zw5 mt n with
 |none=>rfl
 |some x =>
  have hx:=zro hk hf;simp only [Option.isNone_some,cond_false]
  have key:∀v:Bool,zbF (some x) v=some (x.Locals,x.Stack,v):=fun v=>by
   unfold zbF;show (zkx x.Locals).bind _=_;rw [zs9 (hx.shl hk).len];simp only [Qa];rw [zs9 (hx.shs hk).len];rfl
  rw [zDf h hm hk hl hs]
  cases g with
  |true=>simp only [cond_true,Qa];rw [key];rfl
  |false=>simp only [cond_false];rw [key];simp
theorem zf1.to{b':Bool}(h:zf1 l L m mt loc stk b):zf1 l L m mt loc stk b':=⟨h.made,h.map,h.lens,h.shL,h.shS,h.on,h.room,h.onL⟩
theorem zvB(h:zf1 l L m mt loc stk b)(hk:zmu mt){n:Int}{g b':Bool}:zf1 l L m mt (zhw L mt loc stk n g).1 (zhw L mt loc stk n g).2.1 b':=by
 unfold zhw
 cases hf:zw5 mt n with
 |none=>exact h.to
 |some x =>
  have hx:=zro hk hf;exact ⟨h.made,h.map,h.lens,hx.shl hk,hx.shs hk,fun t ht=>((zCz (hx.stkT t ht).1).2).resolve_left (hx.stkT t ht).2,hx.stks,fun t ht=>(zCz (hx.locT t ht)).2⟩
theorem zxA(hk:zmu mt){t:zT}(ht:t∈mt.Traps):(zsh t).length≤25:=by
 unfold zsh
 rcases hk.traps t ht with e |e
 ·rw [e];decide
 ·cases t.C == []
  ·have:=zo7 e;show t.C.length≤25;omega
  ·show zrG.length≤25;decide
theorem zEO(h:zct l L)(hm:zaW L m)(hk:zmu mt)(hl:ShL loc){n:Int}:zev L m c mt loc stk b n=some (b||mt.Traps.any (zrJ L mt loc n)):=by
 unfold zev
 rw [zne (body:=fun z=>zck L m c mt loc stk n z.1 z.2) (l:=mt.Traps) (p:=zrJ L mt loc n) (by have:=hk.ntraps;omega) (fun i t b hi=>by
  have ht:=Qc hi;have hc:=zxA hk ht
  have key:∀v:Tx,v=zsh t→zdf L m c mt loc stk n b (i:Int) t v=some (.inl (b||zrJ L mt loc n t,IntKind.i64.wrap ((i:Int)+1))):=fun v hv=>by
   unfold zdf zeB;rw [hv,zp8 h hm hc (by show _≤_;decide)];simp only [Qa];rw [zEc h hm hk hl (sh1 hc)];unfold zrJ zrG;simp only [Qa];cases decide (t.From≤n)&&decide (n<t.To) <;> cases b <;> simp
  show zck L m c mt loc stk n b (i:Int)=_;unfold zck;rw [ze8 hi,zw,hi];simp only [cond_true,Qa]
  cases he:t.C == [] with
  |true=>exact key _ (by unfold zsh;rw [he];rfl)
  |false=>exact key _ (by unfold zsh;rw [he];rfl)) (fun b=>by
  show zck L m c mt loc stk n b (mt.Traps.length:Int)=_;unfold zck
  rw [zfM];rfl)]
 rfl
end
theorem zwS{α β:Type}(p:α→Bool)(g:α→β):∀l:List α,l.findSome? (fun x=>cond (p x) (some (g x)) none)=(l.find? p).map g
 | []=>rfl
 |x ::l=>by
  rw [Q1,List.find?_cons]
  cases p x with
  |true=>rfl
  |false=>exact zwS p g l
section
variable {l L : List za} {m : List (Tx × Int)} {c : Tx} {mt : zc} {loc stk : List Tx} {b : Bool} {x : zn}
def zFr(mt:zc)(n:Int):zX×Bool:=match zw5 mt n with |some x=>(x,true) |none=>(zX.mk 0 [] [],false)
theorem ztv(hk:zmu mt){n:Int}:zei L c mt loc stk b n=some (zFr mt n):=by
 have hl:=hk.nmaps;unfold zei
 rw [show zr (fun z=>zcO mt n z) 0=some (zqf () (mt.Maps.findSome? (fun x=>cond (x.At == n) (some (x,true)) none))) from zeq (fun i x hx=>by
  have hi:=(Qb.1 hx).1;show zcO mt n (i:Int)=_;unfold zcO;rw [ze8 hx,zw,hx,zU (by omega)];simp only [cond_true,Qa]
  cases x.At == n <;> rfl) (by
  show zcO mt n (mt.Maps.length:Int)=_;unfold zcO
  rw [zfM];rfl),zwS (fun x:zX=>x.At == n)]
 unfold zFr zw5;cases mt.Maps.find? (fun x=>x.At == n) <;> rfl
theorem zBw(h:zct l L){a b:List Tx}(ha:ShL a)(hb2:∀t∈b,t.length≤25):zfm L a b=some (zxK L a b):=by
 unfold zfm;by_cases hn:a.length=b.length
 ·rw [show ((a.length:Int) == (b.length:Int))=true by rw [hn];exact beq_self_eq_true _]
  exact zwu (body:=fun z=>zdD L a b z) ha.len hn (fun i x y hx hy=>by
   show zdD L a b (i:Int)=_;have:=ha.2 x (Qc hx);have:=hb2 y (Qc hy);unfold zdD;rw [ze8 hx,zw,zw,hx,hy];simp only [cond_true,Qa]
   rw [zib h (by omega) (by omega)];rfl) (by
   show zdD L a b (a.length:Int)=_;unfold zdD
   rw [zfM];rfl)
 ·rw [beq_eq_false_iff_ne.2 (show (a.length:Int)≠(b.length:Int) by omega),zyY hn];rfl
theorem zzG(h:zct l L)(hk:zmu mt){p q:List Tx}(hp:ShL p)(hq:ShL q){n:Int}:zeY L c mt loc stk b n p q=some (b||!zpf L mt p q n):=by
 unfold zeY zpf;rw [ztv hk];unfold zFr
 cases hf:zw5 mt n with
 |none=>rfl
 |some x =>
  have hx:=zro hk hf;simp only [Qa,cond_true];rw [zBw h hp hx.loc25,zBw h hq hx.stk25];cases zxK L p x.Locals <;> rfl
theorem zEd(h:zct l L)(hk:zmu mt){p q:List Tx}(hp:ShL p)(hq:ShL q){n:Int}:zhC L c mt loc stk b n p q=some (b||!zpf L mt p q n):=by
 unfold zhC zpf;rw [ztv hk];unfold zFr
 cases hf:zw5 mt n with
 |none=>rfl
 |some x =>
  have hx:=zro hk hf;simp only [Qa,cond_true];rw [zBw h hp hx.loc25,zBw h hq hx.stk25];cases zxK L p x.Locals <;> rfl
theorem zEP(h:zct l L)(hk:zmu mt)(hl:ShL loc){n:Int}:zc6 L c mt loc stk b n=some (b||mt.Traps.any (zrJ L mt loc n)):=by
 unfold zc6
 rw [zne (body:=fun z=>zcQ L c mt loc stk n z.1 z.2) (l:=mt.Traps) (p:=zrJ L mt loc n) (by have:=hk.ntraps;omega) (fun i t b hi=>by
  have ht:=Qc hi;have hc:=zxA hk ht
  have key:∀v:Tx,v=zsh t→zfE L c mt loc stk n b (i:Int) t v=some (.inl (b||zrJ L mt loc n t,IntKind.i64.wrap ((i:Int)+1))):=fun v hv=>by
   unfold zfE zhh;rw [hv,zsK h hc (by decide)];simp only [Qa];rw [zEd h hk hl (sh1 hc)];unfold zrJ zrG;simp only [Qa];cases decide (t.From≤n)&&decide (n<t.To) <;> cases b <;> simp
  show zcQ L c mt loc stk n b (i:Int)=_;unfold zcQ;rw [ze8 hi,zw,hi];simp only [cond_true,Qa]
  cases he:t.C == [] with
  |true=>exact key _ (by unfold zsh;rw [he];rfl)
  |false=>exact key _ (by unfold zsh;rw [he];rfl)) (fun b=>by
  show zcQ L c mt loc stk n b (mt.Traps.length:Int)=_;unfold zcQ
  rw [zfM];rfl)]
 rfl
theorem zpi{s:List Tx}{e:Bool}(h:zf1 l L m mt loc stk b)(hk:zmu mt)(hp:zk L m c mt loc stk b x=some (loc,s,e))
  (hr:zp L c mt loc stk b x=(zco L c mt loc x s e).bind fun v=>some (loc,v.1,v.2)) (hs:s<+:stk) (he:b=true→e=true):
  ∃p r,zk L m c mt loc stk b x=some p∧zp L c mt loc stk b x=some r∧zpJ mt.Stack (p.1,p.2.1,p.2.2||!zpf L mt p.1 p.2.1 x.A) r∧znA loc stk b p:=by
 have hl:=hs.length_le;have hS:ShL s:=⟨by have:=h.shS.1;omega,fun t ht=>h.shS.2 t (hs.subset ht)⟩;refine ⟨(loc,s,e),(loc,s,e||!zpf L mt loc s x.A),hp,?_,zgi fun _=>by have:=h.room;show (s.length:Int)≤mt.Stack;omega,zga he h.shL h.shS hs⟩;rw [hr];unfold zco;rw [zzG h.made hk h.shL hS];rfl
theorem instr_test(ho:21≤x.Op∧x.Op≤36):zp L c mt loc stk b x=(zeZ L c mt loc stk b x).bind fun v=>some (loc,v.1,v.2):=by
 unfold zp;rw [cf (by omega),ct ho];rfl
theorem zAQ(h:zf1 l L m mt loc stk b)(hk:zmu mt)(ho:20≤x.Op∧x.Op≤36):
  ∃p r,zk L m c mt loc stk b x=some p∧zp L c mt loc stk b x=some r∧zpJ mt.Stack (p.1,p.2.1,p.2.2||!zpf L mt p.1 p.2.1 x.A) r∧znA loc stk b p:=by
 by_cases h0:x.Op=20
 ·refine zpi (s:=stk) (e:=b) h hk (zAc h0) ?_ (QP _) id;unfold zp zco;rw [cf (by omega),cf (by omega),qt h0];simp only [cond_false,cond_true];rw [zzG h.made hk h.shL h.shS];rfl
 by_cases h1:x.Op≤26
 ·refine zpi (s:=(zap L [84] [[73]] stk b).1) (e:=(zap L [84] [[73]] stk b).2) h hk (zAd h ⟨by omega,h1⟩) ?_ (zd8 _ _ _ _ _) (zbH _ _ _);rw [instr_test ⟨by omega,ho.2⟩];unfold zeZ;rw [decide_eq_true h1];simp only [cond_true];rw [zfd h.made (sh1 zmF.1) h.shS,zfV [78] [84]];rfl
 by_cases h2:x.Op≤32
 ·refine zpi (s:=(zap L [84] [[73],[73]] stk b).1) (e:=(zap L [84] [[73],[73]] stk b).2) h hk (zAe h ⟨by omega,h2⟩) ?_ (zd8 _ _ _ _ _) (zbH _ _ _);rw [instr_test ⟨by omega,ho.2⟩];unfold zeZ;rw [decide_eq_false h1,decide_eq_true h2];simp only [cond_true,cond_false];rw [zfd h.made (sh2 zmF.1 zmF.1) h.shS,zfV [78] [84]];rfl
 have e2:=(zpw (b:=b) h.on).1;by_cases h3:x.Op≤34
 ·refine zpi (s:=(zia [84] stk b).2.1) (e:=(zia [84] stk b).2.2) h hk (zAf h ⟨by omega,h3⟩) ?_ (zlV _ _ _) znw;rw [instr_test ⟨by omega,ho.2⟩];unfold zeZ;rw [decide_eq_false h1,decide_eq_false h2,decide_eq_true h3];simp only [cond_true,cond_false];rw [zoS h.shS];simp only [Qa];rw [e2]
 ·refine zpi (s:=(zia [84] (zia [84] stk b).2.1 (zia [84] stk b).2.2).2.1) (e:=(zia [84] (zia [84] stk b).2.1 (zia [84] stk b).2.2).2.2) h hk (zAg h ⟨by omega,ho.2⟩) ?_ ((zlV _ _ _).trans (zlV _ _ _)) (fun e=>znw (znw e));rw [instr_test ⟨by omega,ho.2⟩];unfold zeZ;rw [decide_eq_false h1,decide_eq_false h2,decide_eq_false h3];simp only [cond_false];rw [zoS h.shS];simp only [Qa];rw [e2,zoS (ztM h.shS (by decide)).2];simp only [Qa];rw [(zpw fun t ht=>h.on t ((zlV _ _ _).subset ht)).1]
end
section
variable {l L : List za} {m : List (Tx × Int)} {c : Tx} {mt : zc} {loc stk : List Tx} {b : Bool} {x : zn}
theorem instr_field(ho:37≤x.Op∧x.Op≤41):zp L c mt loc stk b x=(zeg L c mt loc stk b x).bind fun v=>some (loc,v.1,v.2):=by
 unfold zp;rw [cf (by omega),cf (by omega),qf (show x.Op≠20 by omega),ct ho];rfl
def zDl(L:List za)(C:Tx):Bool:=match cl L C with |some y=>!y.Interface |none=>false
theorem zCH(h:zf1 l L m mt loc stk b)(ho:x.Op=37)(hC:x.C.length≤25):
  ∃p r,zk L m c mt loc stk b x=some p∧zp L c mt loc stk b x=some r∧zpJ mt.Stack p r∧znA loc stk b p:=by
 have h26:=h.made.len
 have hP:zk L m c mt loc stk b x=some (loc,stk++[x.C],b||!zDl L x.C):=by
  rw [zuU (by omega)];unfold zeu zDl;rw [qt ho];simp only [cond_true];rw [zdu h.map];simp only [Qa];rw [zfS h.shS.len];cases cl L x.C <;> rfl
 have hK:znA loc stk b (loc,stk++[x.C],b||!zDl L x.C):=ze9 (fun e=>by rw [e];rfl) h.shL h.shS (QP _) hC fun hb=>.inr (by
  simp only [Qo,Q6] at hb;have hn:=hb.2;unfold zDl at hn
  cases hc:cl L x.C with
  |none=>rw [hc] at hn;cases hn
  |some y=>exact zx2 (zjN (zlc h.made (zh4 hc))) hC)
 cases hc:cl L x.C with
 |none =>
  have e:zDl L x.C=false:=by unfold zDl;rw [hc]
  refine ⟨_,(loc,stk,true),hP,?_,zg2 (by rw [e];simp) rfl,hK⟩;rw [instr_field (by omega)];unfold zeg;rw [zo4 (by omega)];simp only [Qa];rw [zsr,zoq hc];rfl
 |some y =>
  have e:zDl L x.C=!y.Interface:=by unfold zDl;rw [hc]
  refine ⟨_,_,hP,?_,zfF _,hK⟩
  ·rw [instr_field (by omega)];unfold zeg;rw [zo4 (by omega)];simp only [Qa];rw [zsr,zh4 hc,qt ho];simp only [Qp,cond_false,cond_true];rw [zqj,hc];simp only [Qa];rw [zfT h.shS.len,←e];rfl
theorem zre{b0:Bool}{ts:List Tx}(hb:b0=true→b=true)(hl:ShL loc)(hs:ShL stk):znA loc stk b0 (loc,zap L [84] ts stk b):=
 zga (s:=(zap L [84] ts stk b).1) (b:=(zap L [84] ts stk b).2) (fun e=>zbH _ _ _ (hb e)) hl hs (zd8 _ _ _ _ _)
def zsu(L:List za)(b:Bool)(x:zn):Bool:=b||!((znS L x.C x.M).2.2&&((znS L x.C x.M).2.1.Static == ((x.Op == (40:Int))||(x.Op == (41:Int)))))
def zwT(L:List za)(stk:List Tx)(b:Bool)(x:zn):List Tx×Bool:=
 cond (x.Op == 38) ((zap L [84] [x.C] stk (zsu L b x)).1++[(znS L x.C x.M).2.1.Type_],(zap L [84] [x.C] stk (zsu L b x)).2)
  (cond (x.Op == 39) (zap L [84] [(znS L x.C x.M).2.1.Type_,x.C] stk (zsu L b x))
   (cond (x.Op == 40) (stk++[(znS L x.C x.M).2.1.Type_],zsu L b x) (zap L [84] [(znS L x.C x.M).2.1.Type_] stk (zsu L b x))))
theorem zrr(h:zf1 l L m mt loc stk b)(ho:38≤x.Op∧x.Op≤41)(hC:x.C.length≤25):zk L m c mt loc stk b x=some (loc,zwT L stk b x):=by
 have hT:=(zzz h.made x.C x.M).1;rw [zuU (by omega)];unfold zeu zwT;rw [qf (show x.Op≠37 by omega),zpc h.made h.map h.lens];simp only [cond_false,Qa];rw [show (((zea L x.C).findSome? (zvn L x.M)).getD ([],zF,false))=znS L x.C x.M from rfl];rw [show (b||!((znS L x.C x.M).2.2&&((znS L x.C x.M).2.1.Static == ((x.Op == (40:Int))||(x.Op == (41:Int))))))=zsu L b x from rfl];rw [zgA h.made h.map (sh1 hC) h.shS,zgA h.made h.map (sh2 hC hT) h.shS,zgA h.made h.map (sh1 hT) h.shS,zfS h.shS.len];simp only [Qa,Qy];rw [zfS (zeA (by decide) _ _ _ h.shS).len];cases x.Op == 38 <;> cases x.Op == 39 <;> cases x.Op == 40 <;> rfl
theorem zBK(hb:zsu L b x=true):(zwT L stk b x).2=true:=by
 unfold zwT
 cases x.Op == 38 <;> cases x.Op == 39 <;> cases x.Op == 40 <;> first |exact zbH _ _ _ hb |exact hb
theorem zmG(h:zf1 l L m mt loc stk b)(hC:x.C.length≤25):znA loc stk b (loc,zwT L stk b x):=by
 obtain ⟨hT,hM⟩:=zzz h.made x.C x.M
 have hb0:b=true→zsu L b x=true:=fun e=>by unfold zsu;rw [e];rfl
 have hF:zsu L b x=false→zBp (znS L x.C x.M).2.1.Type_:=fun e=>by
  unfold zsu at e;simp only [Qo,Q6,Qd] at e;exact zx2 (hM e.2.1) hT
 have ht:∀{ts:List Tx},(zap L [84] ts stk (zsu L b x)).2=false→zsu L b x=false:=fun {ts} e=>by
  cases hq:zsu L b x with
  |false=>rfl
  |true=>rw [zbH _ _ _ hq] at e;cases e
 unfold zwT
 cases x.Op == 38 with
 |true=>exact ze9 (fun e=>zbH _ _ _ (hb0 e)) h.shL h.shS (zd8 _ _ _ _ _) hT fun e=>.inr (hF (ht e))
 |false =>
  cases x.Op == 39 with
  |true=>exact zre hb0 h.shL h.shS
  |false =>
   cases x.Op == 40 with
   |true=>exact ze9 hb0 h.shL h.shS (QP _) hT fun e=>.inr (hF e)
   |false=>exact zre hb0 h.shL h.shS
theorem zyC(h:zf1 l L m mt loc stk b)(ho:38≤x.Op∧x.Op≤41)(hC:x.C.length≤25):
  ∃p r,zk L m c mt loc stk b x=some p∧zp L c mt loc stk b x=some r∧zpJ mt.Stack p r∧znA loc stk b p:=by
 have h26:=h.made.len;have hT:=(zzz h.made x.C x.M).1
 have hD:zeg L c mt loc stk b x=cond (!zeb L x.C) (some (stk,true)) (cond (zsu L b x) (some (stk,zsu L b x))
   (cond ((x.Op == (39:Int))||(x.Op == (41:Int))) ((zab L c mt loc stk (zsu L b x) [(znS L x.C x.M).2.1.Type_]).bind fun v12=>zbw L c mt loc x (znS L x.C x.M) v12.1 v12.2) (zbw L c mt loc x (znS L x.C x.M) stk (zsu L b x)))):=by
  unfold zeg;rw [zo4 (by omega)];simp only [Qa];rw [zsr,qf (show x.Op≠37 by omega),zu5 h.made h.lens];rfl
 cases hb:zsu L b x with
 |true =>
  refine ⟨_,(loc,stk,true),zrr (c:=c) h ho hC,?_,zg2 (zBK hb) rfl,zmG h hC⟩;rw [instr_field (by omega),hD,hb];cases zeb L x.C <;> rfl
 |false =>
  have hn:zeb L x.C=true:=by
   cases hq:zeb L x.C with
   |true=>rfl
   |false =>
    have:znS L x.C x.M=([],zF,false):=by unfold znS;rw [zlj hq];rfl
    unfold zsu at hb;rw [this] at hb;simp at hb
  rw [hn,hb] at hD;simp only [Qp,cond_false] at hD;have hr:=h.room;have hl1:=zkL (L:=L) [84] [x.C] stk false;have hl2:=zkL (L:=L) [84] [(znS L x.C x.M).2.1.Type_,x.C] stk false;have hl3:=zkL (L:=L) [84] [(znS L x.C x.M).2.1.Type_] stk false;have hs3:=zeA (L:=L) (e:=[84]) (by decide) [(znS L x.C x.M).2.1.Type_] stk false h.shS
  have ho4:x.Op=38∨x.Op=39∨x.Op=40∨x.Op=41:=by omega
  rcases ho4 with h4 |h4 |h4 |h4
  ·have e:zwT L stk b x=((zap L [84] [x.C] stk false).1++[(znS L x.C x.M).2.1.Type_],(zap L [84] [x.C] stk false).2):=by unfold zwT;rw [hb,qt h4];rfl
   have hO:=zrr (c:=c) h ho hC;have hK:=zmG (x:=x) h hC;rw [e] at hO hK;refine ⟨_,_,hO,?_,zfF _,hK⟩
   ·rw [instr_field (by omega),hD];unfold zbw zcN;rw [qf (show x.Op≠39 by omega),qf (show x.Op≠41 by omega),qt h4];simp only [Q0,Yp,cond_false,cond_true];rw [zfd h.made (sh1 hC) h.shS,zfV [78] [84]];simp only [Qa,Qy];rw [zfT (zeA (by decide) _ _ _ h.shS).len];rfl
  ·have e:zwT L stk b x=zap L [84] [(znS L x.C x.M).2.1.Type_,x.C] stk false:=by unfold zwT;rw [hb,qf (show x.Op≠38 by omega),qt h4];rfl
   refine ⟨_,(loc,zap L [84] [(znS L x.C x.M).2.1.Type_,x.C] stk false),zrr (c:=c) h ho hC,?_,?_,zmG (x:=x) h hC⟩
   ·rw [instr_field (by omega),hD];unfold zbw zcN;rw [qf (show x.Op≠38 by omega),qf (show x.Op≠40 by omega),qt h4];simp only [Q0,Yp,Jv,cond_false,cond_true];rw [zfd h.made (sh1 hT) h.shS,zfV [78] [84]];simp only [Qa,Qy];rw [zfd h.made (sh1 hC) hs3,zfV [78] [84]];rfl
   ·rw [e];exact zgi fun _=>by show ((zap L [84] [(znS L x.C x.M).2.1.Type_,x.C] stk false).1.length:Int)≤mt.Stack;omega
  ·have e:zwT L stk b x=(stk++[(znS L x.C x.M).2.1.Type_],false):=by unfold zwT;rw [hb,qf (show x.Op≠38 by omega),qf (show x.Op≠39 by omega),qt h4];rfl
   have hO:=zrr (c:=c) h ho hC;have hK:=zmG (x:=x) h hC;rw [e] at hO hK;refine ⟨_,_,hO,?_,zfF _,hK⟩
   ·rw [instr_field (by omega),hD];unfold zbw zcN;rw [qf (show x.Op≠38 by omega),qf (show x.Op≠39 by omega),qf (show x.Op≠41 by omega),qt h4];simp only [Q0,Jv,cond_false,cond_true];rw [zfT h.shS.len];rfl
  ·have e:zwT L stk b x=zap L [84] [(znS L x.C x.M).2.1.Type_] stk false:=by unfold zwT;rw [hb,qf (show x.Op≠38 by omega),qf (show x.Op≠39 by omega),qf (show x.Op≠40 by omega)];rfl
   refine ⟨_,(loc,zap L [84] [(znS L x.C x.M).2.1.Type_] stk false),zrr (c:=c) h ho hC,?_,?_,zmG (x:=x) h hC⟩
   ·rw [instr_field (by omega),hD];unfold zbw zcN;rw [qf (show x.Op≠38 by omega),qf (show x.Op≠39 by omega),qf (show x.Op≠40 by omega),qt h4];simp only [Q0,Jv,cond_false,cond_true];rw [zfd h.made (sh1 hT) h.shS,zfV [78] [84]];rfl
   ·rw [e];exact zgi fun _=>by show ((zap L [84] [(znS L x.C x.M).2.1.Type_] stk false).1.length:Int)≤mt.Stack;omega
end
section
variable {l L : List za} {m : List (Tx × Int)} {c : Tx} {mt : zc} {loc stk : List Tx} {b : Bool} {x : zn}
theorem instr_call(ho:42≤x.Op∧x.Op≤45):zp L c mt loc stk b x=(zgg L c mt loc stk b x).bind fun v=>some (loc,v.1,v.2):=by
 unfold zp;rw [cf (by omega),cf (by omega),qf (show x.Op≠20 by omega),cf (by omega),ct ho];rfl
def zCs(t:Tx)(p:List Tx×Bool):List Tx×Bool:=cond (!(t == [86])) (p.1++[t],p.2) p
def zyi(L:List za)(c:Tx)(x:zn)(s:Tx)(p:List Tx×Bool):List Tx×Bool:=
 cond ((x.Op == 43)||(x.Op == 45)) (zap L [84] [x.C] p.1 p.2)
  (cond (x.Op == 44) ((zb5 [84] p.1 p.2).2.1,(zb5 [84] p.1 p.2).2.2||!(znR L (zb5 [84] p.1 p.2).1 x.C&&(znR L (zb5 [84] p.1 p.2).1 c&&(zea L c).any (fun y=>s == y)))) p)
def zs4(L:List za)(c:Tx)(stk:List Tx)(b:Bool)(x:zn)(s:Tx)(f:zc)(ok:Bool):List Tx×Bool:=
 zCs f.Ret (zyi L c x s (zap L [84] f.Params.reverse stk (b||!(ok&&(f.Static == (x.Op == (42:Int)))))))
theorem zxb(c:Tx)(x:zn)(s:Tx)(p:List Tx×Bool):(zyi L c x s p).1<+:p.1:=by
 unfold zyi
 cases (x.Op == 43)||(x.Op == 45) with
 |true=>exact zd8 _ _ _ _ _
 |false =>
  cases x.Op == 44 with
  |true=>exact zhO _ _ _
  |false=>exact QP _
theorem ztB{c:Tx}{x:zn}{s:Tx}{p:List Tx×Bool}(h:p.2=true):(zyi L c x s p).2=true:=by
 unfold zyi
 cases (x.Op == 43)||(x.Op == 45) with
 |true=>exact zbH _ _ _ h
 |false =>
  cases x.Op == 44 with
  |true=>show ((zb5 [84] p.1 p.2).2.2||_)=true;rw [zhN h];rfl
  |false=>exact h
theorem zxQ(h:zf1 l L m mt loc stk b){s:Tx}{f:zc}{ok:Bool}(hR:f.Ret.length≤25)(hM:ok=true→zwd f.Ret=true):znA loc stk b (loc,zs4 L c stk b x s f ok):=by
 have hp:=(zxb (L:=L) c x s (zap L [84] f.Params.reverse stk (b||!(ok&&(f.Static == (x.Op == (42:Int))))))).trans (zd8 _ _ _ _ _);have hb:b=true→(zyi L c x s (zap L [84] f.Params.reverse stk (b||!(ok&&(f.Static == (x.Op == (42:Int))))))).2=true:=fun e=>ztB (zbH _ _ _ (by rw [e];rfl));unfold zs4 zCs
 cases hv:f.Ret == [86] with
 |true=>exact zga hb h.shL h.shS hp
 |false =>
  refine ze9 hb h.shL h.shS hp hR fun e=>.inr ?_
  have:ok=true:=by
   cases ok with
   |true=>rfl
   |false =>
    rw [ztB (zbH _ _ _ (by simp))] at e;cases e
  have hr:=hM this;unfold zwd at hr;rw [hv] at hr;exact zx2 (by simpa using hr) hR
theorem zAp{f:zc}(h1:∀s∈f.Params,zgm s=true)(h2:f.Params.length≤6):ShL f.Params:=⟨by omega,fun s hs=>zmS (h1 s hs)⟩
theorem zB1{f:zc}{s:List Tx}{e:Bool}(hs:s.length≤1000):zba L m c mt loc f s e=some (zCs f.Ret (s,e)):=by
 unfold zba zCs;rw [zfS hs];cases f.Ret == [86] <;> rfl
theorem zDN(h:zf1 l L m mt loc stk b)(ho:42≤x.Op∧x.Op≤45)(hC:x.C.length≤25)(hc:c.length≤25){s:Tx}{f:zc}{ok:Bool}(h1:∀s∈f.Params,zgm s=true)(h2:f.Params.length≤6):
  zcu L m c mt loc stk b x s f ok=some (zs4 L c stk b x s f ok):=by
 have h26:=zfI h.made c;unfold zcu zs4;rw [zgA h.made h.map (zAp h1 h2) h.shS];simp only [Qa]
 generalize hq:zap L [84] f.Params.reverse stk (b||!(ok&&(f.Static == (x.Op == (42:Int)))))=q
 have hs:ShL q.1:=by rw [←hq];exact zeA (by decide) _ _ _ h.shS
 obtain ⟨g1,g2⟩:=zey (b:=q.2) hs (e:=[84]) (by decide)
 have hT:∀v:Bool,v=true→zbX L m c mt loc x s f q v=some (zCs f.Ret (zap L [84] [x.C] q.1 q.2)):=fun v hv=>by
  unfold zbX;rw [hv];simp only [cond_true];rw [zgA h.made h.map (sh1 hC) hs];simp only [Qa,Qy];rw [zB1 (zeA (by decide) _ _ _ hs).len]
 have ho4:x.Op=42∨x.Op=43∨x.Op=44∨x.Op=45:=by omega
 unfold zyi
 rcases ho4 with h4 |h4 |h4 |h4
 ·rw [qf (show x.Op≠43 by omega),qf (show x.Op≠45 by omega),qf (show x.Op≠44 by omega)];simp only [cond_false,Q0];unfold zbX;rw [qf (show x.Op≠44 by omega)];simp only [cond_false];exact zB1 hs.len
 ·rw [qt h4];simp only [cond_true,Yp];exact hT _ rfl
 ·rw [qf (show x.Op≠43 by omega),qf (show x.Op≠45 by omega),qt h4];simp only [cond_false,Q0,cond_true];unfold zbX;rw [qt h4];simp only [cond_false,cond_true];rw [zn5 hs.len];simp only [Qa];rw [zqB h.made h.map g1 hC,zqB h.made h.map g1 hc,zis h.made h.map];simp only [Qa];rw [zqC (by omega)];simp only [Qa];rw [zB1 g2.len,zB1 g2.len];cases znR L (zb5 [84] q.1 q.2).1 x.C <;> cases znR L (zb5 [84] q.1 q.2).1 c <;> rfl
 ·rw [qf (show x.Op≠43 by omega),qt h4];simp only [cond_false,cond_true,Jv];exact hT _ rfl
theorem zBx(T:List Tx)(s:Tx):(T.any fun y=>s == y)=T.any fun y=>y == s:=by
 congr 1;funext y;rw [Jd,beq_iff_eq,beq_iff_eq];exact eq_comm
theorem zFa(h:zf1 l L m mt loc stk false)(ho:42≤x.Op∧x.Op≤45)(hC:x.C.length≤25)(hc:c.length≤25){s:Tx}{f:zc}(h1:∀s∈f.Params,zgm s=true)(h2:f.Params.length≤6):
  zbJ L c mt loc stk false x f s true=zcn L c mt loc f (zyi L c x s (zap L [84] f.Params.reverse stk false)).1 (zyi L c x s (zap L [84] f.Params.reverse stk false)).2:=by
 have h26:=zfI h.made c;unfold zbJ;simp only [Qp,Q0,cond_false];rw [zfd h.made (zAp h1 h2) h.shS,zfV [78] [84]];simp only [Qa];generalize hq:zap L [84] f.Params.reverse stk false=q
 have hs:ShL q.1:=by rw [←hq];exact zeA (by decide) _ _ _ h.shS
 obtain ⟨g1,g2⟩:=zey (b:=q.2) hs (e:=[78]) (by decide)
 have ho4:x.Op=42∨x.Op=43∨x.Op=44∨x.Op=45:=by omega
 unfold zyi;rw [zkf hs.len];simp only [Qa];rw [zib h.made g1 hC,zib h.made g1 hc,zip h.made];simp only [Qa];rw [znx (by omega)];simp only [Qa]
 rcases ho4 with h4 |h4 |h4 |h4
 ·rw [qt h4,qf (show x.Op≠43 by omega),qf (show x.Op≠45 by omega),qf (show x.Op≠44 by omega)];rfl
 ·rw [qt h4,qf (show x.Op≠42 by omega),qf (show x.Op≠44 by omega),zfV [84] [78]];rfl
 ·rw [qt h4,qf (show x.Op≠42 by omega),qf (show x.Op≠43 by omega),qf (show x.Op≠45 by omega)];simp only [QB,cond_true,cond_false,Q0];have e2:=zle [84] [78] q.1 q.2;rw [zBx,e2]
  have e3:((zb5 [78] q.1 q.2).2.2||!(znR L (zb5 [84] q.1 q.2).1 x.C&&(znR L (zb5 [84] q.1 q.2).1 c&&(zea L c).any (fun y=>y == s))))=((zb5 [78] q.1 q.2).2.2||!(znR L (zb5 [78] q.1 q.2).1 x.C&&(znR L (zb5 [78] q.1 q.2).1 c&&(zea L c).any (fun y=>y == s)))):=
   zrs fun e=>by rw [zgf [78] [84] q.1 q.2 e]
  rw [e3];cases znR L (zb5 [78] q.1 q.2).1 x.C <;> cases znR L (zb5 [78] q.1 q.2).1 c <;> cases (zea L c).any (fun y=>y == s) <;> simp
 ·rw [qt h4,qf (show x.Op≠42 by omega),qf (show x.Op≠43 by omega),qf (show x.Op≠44 by omega),zfV [84] [78]];rfl
theorem zwF(h:zf1 l L m mt loc stk b)(ho:42≤x.Op∧x.Op≤45)(hC:x.C.length≤25)(hc:c.length≤25){s:Tx}{f:zc}{ok:Bool}(h1:∀s∈f.Params,zgm s=true)(h2:f.Params.length≤6)(h3:f.Ret.length≤25)(h4:ok=true→zwd f.Ret=true)
  (hP:zdJ L m c mt loc stk b x=zcu L m c mt loc stk b x s f ok) (hD:zgg L c mt loc stk b x=zbJ L c mt loc stk b x f s (ok&&(f.Static == (x.Op == (42:Int))))):
  ∃p r,zk L m c mt loc stk b x=some p∧zp L c mt loc stk b x=some r∧zpJ mt.Stack p r∧znA loc stk b p:=by
 have hO:zk L m c mt loc stk b x=some (loc,zs4 L c stk b x s f ok):=by
  rw [zCh ho,hP,zDN h ho hC hc h1 h2];rfl
 have hK:=zxQ (c:=c) (x:=x) (s:=s) h h3 h4
 cases hb:(b||!(ok&&(f.Static == (x.Op == (42:Int))))) with
 |true =>
  refine ⟨_,(loc,stk,true),hO,?_,zg2 ?_ rfl,hK⟩
  ·rw [instr_call ho,hD];unfold zbJ;rw [hb];rfl
  ·show (zs4 L c stk b x s f ok).2=true;have:(zyi L c x s (zap L [84] f.Params.reverse stk (b||!(ok&&(f.Static == (x.Op == (42:Int))))))).2=true:=ztB (zbH _ _ _ hb);unfold zs4 zCs;cases f.Ret == [86] <;> exact this
 |false =>
  have hb1:b=false:=by simp only [Qo] at hb;exact hb.1
  have hb2:(ok&&(f.Static == (x.Op == (42:Int))))=true:=by simp only [Qo,Q6] at hb;exact hb.2
  subst hb1;rw [hb2,zFa h ho hC hc h1 h2] at hD;have hl:=(zxb (L:=L) c x s (zap L [84] f.Params.reverse stk false)).length_le;have hl2:=zkL (L:=L) [84] f.Params.reverse stk false;have hr:=h.room;have hsh:=h.shS.1
  have eK:zs4 L c stk false x s f ok=zCs f.Ret (zyi L c x s (zap L [84] f.Params.reverse stk false)):=by unfold zs4;rw [hb]
  generalize zyi L c x s (zap L [84] f.Params.reverse stk false)=q at hD hl eK
  cases hv:f.Ret == [86] with
  |true =>
   refine ⟨_,(loc,q.1,q.2),hO,?_,?_,hK⟩
   ·rw [instr_call ho,hD];unfold zcn;rw [hv];rfl
   ·rw [eK];unfold zCs;rw [hv]
    exact zgi fun _=>by omega
  |false =>
   rw [eK] at hO hK;unfold zCs at hO hK;rw [hv] at hO hK;refine ⟨_,_,hO,?_,zfF _,hK⟩;rw [instr_call ho,hD];unfold zcn;rw [hv];simp only [QB,cond_true];rw [zfT (by omega)];rfl
theorem zAO(h:zf1 l L m mt loc stk b)(ho:42≤x.Op∧x.Op≤45)(hC:x.C.length≤25)(hc:c.length≤25):
  ∃p r,zk L m c mt loc stk b x=some p∧zp L c mt loc stk b x=some r∧zpJ mt.Stack p r∧znA loc stk b p:=by
 by_cases h5:x.Op=45
 ·obtain ⟨⟨k1,k2,k3,k4⟩,k5⟩:=zEw h.made x.C x.M;refine zwF (s:=(zoo L x.C x.M).1) (f:=(zoo L x.C x.M).2.1) (ok:=(zoo L x.C x.M).2.2) h ho hC hc k1 k2 k3 k4 ?_ ?_
  ·unfold zdJ;rw [zmT h.made h.map h.lens,qt h5,zvC h.made h.map h.lens];rfl
  ·unfold zgg;rw [qt h5,zwc h.made h.lens,qf (show x.Op≠42 by omega)];show zbJ L c mt loc stk b x _ _ _=_;congr 1
   cases hq:(zoo L x.C x.M).2.2 with
   |false=>rfl
   |true=>rw [k5 hq];rfl
 ·obtain ⟨k1,k2,k3,k4⟩:=zz0 h.made za2 x.M (zea L x.C);generalize hR:((zea L x.C).findSome? (znp L za2 x.M)).getD ([],zM,false)=R at k1 k2 k3 k4;refine zwF (s:=R.1) (f:=R.2.1) (ok:=R.2.2&&!R.2.1.Abstract) h ho hC hc k1 k2 k3 (fun e=>k4 (by rw [Qd] at e;exact e.1)) ?_ ?_
  ·unfold zdJ;rw [zmT h.made h.map h.lens,qf h5,hR];rfl
  ·unfold zgg;rw [qf h5,ztN h.made h.lens,hR];show zbJ L c mt loc stk b x _ _ _=_;congr 1;cases R.2.2 <;> cases R.2.1.Abstract <;> cases R.2.1.Static == (x.Op == (42:Int)) <;> rfl
end
section
variable {l L : List za} {m : List (Tx × Int)} {c : Tx} {mt : zc} {loc stk : List Tx} {b : Bool} {x : zn}
theorem instr_arrays(ho:49≤x.Op∧x.Op≤55):zp L c mt loc stk b x=(zbC L c mt loc stk b x).bind fun v=>some (loc,v.1,v.2):=by
 unfold zp;rw [cf (by omega),cf (by omega),qf (show x.Op≠20 by omega),cf (by omega),cf (by omega),ct ho];rfl
def zvx(C:Tx):Tx:=cond (zgm (91 ::C)) (91 ::C) []
theorem zEs{C:Tx}(h:zgm (91 ::C)=true):zgm C=true:=by
 have e:zgB (91 ::C)=C:=by rw [zhv,if_pos rfl]
 unfold zgm at h ⊢;rw [e] at h
 have hb:brk (zgB C)=false:=by
  rw [Qw] at h
  rcases h with h |h
  ·have:zgB C=[73]:=by simpa using h
   rw [this];rfl
  ·exact zjM h
 rw [znz hb];exact h
theorem zlH{C:Tx}(h:C.length≤1000):zjP C=some (zvx C):=by
 unfold zjP zvx
 have hl:Len C:=by show C.length≤9223372036854775807;omega
 have hl2:Len (91 ::C):=by show (91 ::C).length≤9223372036854775807;simp;omega
 rw [zhV hl,zhx (by simp;omega)];simp only [Qa,Yu];rw [zhV hl2]
 cases h1:zgm (91 ::C) with
 |true=>rw [zEs h1];rfl
 |false=>cases zgm C <;> rfl
theorem ztI{C:Tx}(h:C.length≤1000):zp1 C=some (zvx C):=by
 unfold zp1 zvx
 have hl2:Len (91 ::C):=by show (91 ::C).length≤9223372036854775807;simp;omega
 rw [zhx (by simp;omega)];simp only [Qa,Yu];rw [zoI hl2];cases zgm (91 ::C) <;> rfl
theorem zy9(x:UInt8):((x.toNat:Int) == (91:Int))=(x == 91):=by
 rw [Jd,beq_iff_eq,beq_iff_eq];constructor
 ·intro h;exact JZ.1 (by simpa using (Int.ofNat_inj.1 h))
 ·intro h;rw [h];rfl
theorem zu3{s:Tx}(h:Len s):zrw s=some (zfg s):=by
 unfold zrw zfg;rw [zoI h]
 cases hm:zgm s with
 |false=>rfl
 |true =>
  cases s with
  |nil =>
   exfalso;unfold zgm at hm;rw [show zgB (zgB [])=[] from rfl] at hm;simp at hm;exact zk0 hm rfl
  |cons x r =>
   simp only [Qa,Qp,cond_false,QD];rw [zkF];simp only [Q9,Qa,zy9];rw [show (1:Int)=((1:Nat):Int) from rfl,zih (by simp)];show cond (!(x == 91)) _ _=some (cond (x == 91) _ _);cases x == 91 <;> rfl
theorem zu2(hs:ShL stk):zg0 L c mt loc stk b=some (zlp [78] stk b):=by
 unfold zg0 zlp;obtain ⟨h1,h2⟩:=zey (b:=b) hs (e:=[78]) (by decide);rw [zkf hs.len];simp only [Qa];rw [zu3 (zwl h1)]
 cases hq:(zb5 [78] stk b).1 == [78] with
 |true =>
  have e:(zb5 [78] stk b).1=[78]:=by simpa using hq
  rw [e];simp
 |false=>rfl
def zEV(t:Tx):Bool:=(t == [78])||(decide (1<(t.length:Int))&&brk t)
theorem zEn(t:Tx):((cond (t == [78]) (some true) ((cond (decide (1<(List.length t:Int))) ((idx t 0).bind fun v16=>some ((v16.toNat:Int) == (91:Int))) (some false)).bind fun v17=>some v17)):Option Bool)=some (zEV t):=by
 unfold zEV
 cases t == [78] with
 |true=>rfl
 |false =>
  cases t with
  |nil=>rfl
  |cons x r =>
   rw [zkF];simp only [Q9,Qa,zy9];show ((cond (decide (1<(List.length (x ::r):Int))) (some (x == 91)) (some false)).bind fun v17=>some v17)=some (false||(decide (1<(List.length (x ::r):Int))&&(x == 91)));cases decide (1<(List.length (x ::r):Int)) <;> rfl
theorem zFp{t:Tx}(h:onS t):zEV t=((zfg t).2||(t == [78])):=by
 rcases h with rfl |h
 ·unfold zEV;rw [beq_self_eq_true];simp
 ·unfold zEV zfg;rw [h]
  cases hb:brk t with
  |false=>simp
  |true =>
   have h1:=(zqH h hb).1
   have h2:t.drop 1≠[]:=fun e=>by
    rw [e] at h1;unfold zgm at h1;rw [show zgB (zgB [])=[] from rfl] at h1;simp at h1;exact zk0 h1 rfl
   have h3:1<t.length:=by
    have:0<(t.drop 1).length:=List.length_pos_iff.2 h2;simp at this;omega
   rw [decide_eq_true (show 1<(t.length:Int) by omega)];simp
def thA(L:List za)(C:Tx):Bool:=zgm (91 ::C)&&thN L (91 ::C)
theorem zDu(C:Tx)(T:Tx→Bool)(h:zgm (91 ::C)=true→T (91 ::C)=thN L (91 ::C)):(cond (!(zvx C == [])) (some (T (zvx C))) (some false))=some (thA L C):=by
 unfold zvx thA
 cases hm:zgm (91 ::C) with
 |true =>
  rw [←h hm];rfl
 |false=>rfl
theorem zAM(h:zf1 l L m mt loc stk b)(ho:x.Op=49∨x.Op=50∨x.Op=52∨x.Op=53)(hC:x.C.length≤10):
  ∃p r,zk L m c mt loc stk b x=some p∧zp L c mt loc stk b x=some r∧zpJ mt.Stack p r∧znA loc stk b p:=by
 have hI:=zmF.1
 have hA:([91,73]:Tx).length≤25:=by decide
 have hr:=h.room
 rcases ho with h4 |h4 |h4 |h4
 ·refine ⟨(loc,(zap L [84] [[73]] stk b).1++[[91,73]],(zap L [84] [[73]] stk b).2),_,?_,?_,zfF _,ze9 (zbH _ _ _) h.shL h.shS (zd8 _ _ _ _ _) hA fun _=>.inr ⟨hA,.inr (by decide +kernel)⟩⟩
  ·rw [ziN (by omega)];unfold zaK;rw [qt h4];simp only [cond_true];rw [zgA h.made h.map (sh1 hI) h.shS];simp only [Qa,Qy];rw [zfS (zeA (by decide) _ _ _ h.shS).len];rfl
  ·rw [instr_arrays (by omega)];unfold zbC;rw [qt h4];simp only [cond_true];rw [zfd h.made (sh1 hI) h.shS,zfV [78] [84]];simp only [Qa,Qy];rw [zfT (zeA (by decide) _ _ _ h.shS).len];rfl
 ·have hT:(zvx x.C).length≤25:=by
   unfold zvx;cases zgm (91 ::x.C)
   ·exact Qv _
   ·show (91 ::x.C).length≤25;simp;omega
  refine ⟨(loc,(zap L [84] [[73]] stk (b||!thA L x.C)).1++[zvx x.C],(zap L [84] [[73]] stk (b||!thA L x.C)).2),_,?_,?_,zfF _,ze9 (fun e=>zbH _ _ _ (by rw [e];rfl)) h.shL h.shS (zd8 _ _ _ _ _) hT fun e=>.inr ?_⟩
  ·rw [ziN (by omega)];unfold zaK;rw [qf (show x.Op≠49 by omega),qt h4];simp only [cond_true,cond_false];rw [zlH (by omega)];simp only [Qa];rw [zoY h.made h.map hT];simp only [Qa];rw [zDu x.C (zsQ L) fun hm=>ztV hm];simp only [Qa];rw [zgA h.made h.map (sh1 hI) h.shS];simp only [Qa,Qy];rw [zfS (zeA (by decide) _ _ _ h.shS).len];rfl
  ·rw [instr_arrays (by omega)];unfold zbC;rw [qf (show x.Op≠49 by omega),qt h4];simp only [cond_true,cond_false];rw [ztI (by omega)];simp only [Qa];rw [zeK h.made (by omega)];simp only [Qa];rw [zDu x.C (thN L) fun hm=>rfl];simp only [Qa];rw [zfd h.made (sh1 hI) h.shS,zfV [78] [84]];simp only [Qa,Qy];rw [zfT (zeA (by decide) _ _ _ h.shS).len];rfl
  ·have hth:thA L x.C=true:=by
    cases hq:thA L x.C with
    |true=>rfl
    |false=>rw [hq,zbH _ _ _ (by simp)] at e;cases e
   unfold thA at hth;rw [Qd] at hth;unfold zvx at hT ⊢;rw [hth.1] at hT ⊢;exact zx2 hth.1 hT
 ·refine ⟨(loc,(zap L [84] [[73],[91,73]] stk b).1++[[73]],(zap L [84] [[73],[91,73]] stk b).2),_,?_,?_,zfF _,ze9 (zbH _ _ _) h.shL h.shS (zd8 _ _ _ _ _) hI fun _=>.inr zmF⟩
  ·rw [ziN (by omega)];unfold zaK;rw [qf (show x.Op≠49 by omega),qf (show x.Op≠50 by omega),qf (show x.Op≠51 by omega),qt h4];simp only [cond_true,cond_false];rw [zgA h.made h.map (sh2 hA hI) h.shS];simp only [Qa];rw [show ([[91,73],[73]]:List Tx).reverse=[[73],[91,73]] from rfl,zfS (zeA (by decide) _ _ _ h.shS).len];rfl
  ·rw [instr_arrays (by omega)];unfold zbC;rw [qf (show x.Op≠49 by omega),qf (show x.Op≠50 by omega),qf (show x.Op≠51 by omega),qt h4];simp only [cond_true,cond_false];rw [zfd h.made (sh2 hA hI) h.shS,zfV [78] [84]];simp only [Qa];rw [show ([[91,73],[73]]:List Tx).reverse=[[73],[91,73]] from rfl,zfT (zeA (by decide) _ _ _ h.shS).len];rfl
 ·have hl:=zkL (L:=L) [84] [[73],[73],[91,73]] stk b;refine ⟨(loc,zap L [84] [[73],[73],[91,73]] stk b),(loc,zap L [84] [[73],[73],[91,73]] stk b),?_,?_,zgi fun _=>by show ((zap L [84] [[73],[73],[91,73]] stk b).1.length:Int)≤mt.Stack;omega,zre id h.shL h.shS⟩
  ·rw [ziN (by omega)];unfold zaK;rw [qf (show x.Op≠49 by omega),qf (show x.Op≠50 by omega),qf (show x.Op≠51 by omega),qf (show x.Op≠52 by omega),qt h4];simp only [cond_true,cond_false];rw [zgA h.made h.map (sh3 hA hI hI) h.shS];rfl
  ·rw [instr_arrays (by omega)];unfold zbC;rw [qf (show x.Op≠49 by omega),qf (show x.Op≠50 by omega),qf (show x.Op≠51 by omega),qf (show x.Op≠52 by omega),qt h4];simp only [cond_true,cond_false];rw [zfd h.made (sh3 hA hI hI) h.shS,zfV [78] [84]];rfl
theorem zDI(e:Tx)(s:List Tx)(b:Bool):(zlp e s b).2.1.length≤s.length:=zrt e s b
theorem zDJ{s:List Tx}{b:Bool}(hs:∀t∈s,onS t)(hl:∀t∈s,t.length≤25)(h:(zlp [84] s b).2.2=false):zBp (zlp [84] s b).1:=by
 unfold zlp at h ⊢;simp only [Qo,Q6] at h;have hin:=zmW h.1;generalize (zb5 [84] s b).1=t at h hin;have h1:=hl t hin;simp only
 cases hq:t == [78] with
 |true =>
  have e:t=[78]:=by simpa using hq
  rw [e];exact zBJ
 |false =>
  rw [hq] at h;simp only [Jb,Qd] at h;have h2:=h.2.1;unfold zfg at h2 ⊢
  cases hb:zgm t&&brk t with
  |false=>rw [hb] at h2;cases h2
  |true =>
   rw [Qd] at hb;refine zx2 (zqH hb.1 hb.2).1 ?_;show (t.drop 1).length≤25;simp;omega
theorem zAN(h:zf1 l L m mt loc stk b)(ho:x.Op=51∨x.Op=54∨x.Op=55):
  ∃p r,zk L m c mt loc stk b x=some p∧zp L c mt loc stk b x=some r∧zpJ mt.Stack p r∧znA loc stk b p:=by
 have hI:=zmF.1;have hr:=h.room
 rcases ho with h4 |h4 |h4
 ·obtain ⟨g1,g2⟩:=zey (b:=b) h.shS (e:=[84]) (by decide);obtain ⟨k1,k2⟩:=zey (b:=b) h.shS (e:=[78]) (by decide)
  have hb:((zb5 [78] stk b).2.2||!zEV (zb5 [78] stk b).1)=((zb5 [84] stk b).2.2||!((zfg (zb5 [84] stk b).1).2||((zb5 [84] stk b).1 == [78]))):=by
   have e2:=zle [78] [84] stk b;rw [e2];refine zrs fun e=>?_;rw [←zgf [84] [78] stk b e,zFp (h.on _ (zmW e))]
  refine ⟨(loc,(zb5 [84] stk b).2.1++[[73]],(zb5 [84] stk b).2.2||!((zfg (zb5 [84] stk b).1).2||((zb5 [84] stk b).1 == [78]))),_,?_,?_,zfF _,ze9 (fun e=>by rw [zhN e];rfl) h.shL h.shS (zhO _ _ _) hI fun _=>.inr zmF⟩
  ·rw [ziN (by omega)];unfold zaK;rw [qf (show x.Op≠49 by omega),qf (show x.Op≠50 by omega),qt h4];simp only [cond_true,cond_false];rw [zn5 h.shS.len];simp only [Qa];rw [zgp (zwl g1)];simp only [Qa];rw [zfS g2.len];rfl
  ·rw [instr_arrays (by omega)];unfold zbC;rw [qf (show x.Op≠49 by omega),qf (show x.Op≠50 by omega),qt h4];simp only [cond_true,cond_false];rw [zkf h.shS.len];simp only [Qa];rw [zEn];simp only [Qa];rw [zfT k2.len,hb,zle [78] [84]];rfl
 ·have hT:=zeA (L:=L) (e:=[84]) (by decide) [[73]] stk b h.shS;have hP:=zd8 L [84] [[73]] stk b;have hB:b=true→(zap L [84] [[73]] stk b).2=true:=zbH _ _ _;have hOn:∀t∈(zap L [84] [[73]] stk b).1,onS t:=fun t ht=>h.on t (hP.subset ht)
  have hO:zk L m c mt loc stk b x=some (loc,(zlp [84] (zap L [84] [[73]] stk b).1 (zap L [84] [[73]] stk b).2).2.1++[(zlp [84] (zap L [84] [[73]] stk b).1 (zap L [84] [[73]] stk b).2).1],(zlp [84] (zap L [84] [[73]] stk b).1 (zap L [84] [[73]] stk b).2).2.2):=by
   rw [ziN (by omega)];unfold zaK;rw [qf (show x.Op≠49 by omega),qf (show x.Op≠50 by omega),qf (show x.Op≠51 by omega),qf (show x.Op≠52 by omega),qf (show x.Op≠53 by omega),qt h4];simp only [cond_true,cond_false];rw [zgA h.made h.map (sh1 hI) h.shS];simp only [Qa,Qy];rw [zwB hT];simp only [Qa];rw [zfS (zvw hT (by decide)).2.len];rfl
  have hD:zp L c mt loc stk b x=some (loc,(zqn mt.Stack (zlp [78] (zap L [84] [[73]] stk b).1 (zap L [84] [[73]] stk b).2).2.1 (zlp [78] (zap L [84] [[73]] stk b).1 (zap L [84] [[73]] stk b).2).2.2 (zlp [78] (zap L [84] [[73]] stk b).1 (zap L [84] [[73]] stk b).2).1).1,(zqn mt.Stack (zlp [78] (zap L [84] [[73]] stk b).1 (zap L [84] [[73]] stk b).2).2.1 (zlp [78] (zap L [84] [[73]] stk b).1 (zap L [84] [[73]] stk b).2).2.2 (zlp [78] (zap L [84] [[73]] stk b).1 (zap L [84] [[73]] stk b).2).1).2):=by
   rw [instr_arrays (by omega)];unfold zbC;rw [qf (show x.Op≠49 by omega),qf (show x.Op≠50 by omega),qf (show x.Op≠51 by omega),qf (show x.Op≠52 by omega),qf (show x.Op≠53 by omega),qt h4];simp only [cond_true,cond_false];rw [zfd h.made (sh1 hI) h.shS,zfV [78] [84]];simp only [Qa,Qy];rw [zu2 hT];simp only [Qa];rw [zfT (zvw hT (by decide)).2.len];rfl
  generalize zap L [84] [[73]] stk b=q at hT hP hB hOn hO hD
  have hK:znA loc stk b (loc,(zlp [84] q.1 q.2).2.1++[(zlp [84] q.1 q.2).1],(zlp [84] q.1 q.2).2.2):=
   ze9 (fun e=>zwx (hB e)) h.shL h.shS ((zwy _ _ _).trans hP) (zvw hT (by decide)).1 fun e=>.inr (zDJ hOn hT.2 e)
  refine ⟨_,_,hO,hD,?_,hK⟩;have e2:=zC3 [78] [84] q.1 q.2
  cases hb:(zlp [84] q.1 q.2).2.2 with
  |true=>exact zg2 rfl (zpt (by rw [e2];exact hb))
  |false =>
   rw [←zxO [84] [78] q.1 q.2 hb,e2,hb];exact zfF _
 ·have e2:=(zpw (b:=b) h.on).1;obtain ⟨g1,g2⟩:=ztM (b:=b) h.shS (e:=[84]) (by decide);have hP0:=zlV [84] stk b;have hB0:b=true→(zia [84] stk b).2.2=true:=znw;have hT:=zeA (L:=L) (e:=[84]) (by decide) [[73]] (zia [84] stk b).2.1 (zia [84] stk b).2.2 g2;have hP:=(zd8 L [84] [[73]] (zia [84] stk b).2.1 (zia [84] stk b).2.2).trans hP0;have hB:b=true→(zap L [84] [[73]] (zia [84] stk b).2.1 (zia [84] stk b).2.2).2=true:=fun e=>zbH _ _ _ (hB0 e)
  have hO:zk L m c mt loc stk b x=some (loc,(zlp [84] (zap L [84] [[73]] (zia [84] stk b).2.1 (zia [84] stk b).2.2).1 (zap L [84] [[73]] (zia [84] stk b).2.1 (zia [84] stk b).2.2).2).2.1,(zlp [84] (zap L [84] [[73]] (zia [84] stk b).2.1 (zia [84] stk b).2.2).1 (zap L [84] [[73]] (zia [84] stk b).2.1 (zia [84] stk b).2.2).2).2.2):=by
   rw [ziN (by omega)];unfold zaK;rw [qf (show x.Op≠49 by omega),qf (show x.Op≠50 by omega),qf (show x.Op≠51 by omega),qf (show x.Op≠52 by omega),qf (show x.Op≠53 by omega),qf (show x.Op≠54 by omega)];simp only [cond_true,cond_false];rw [zsJ h.shS];simp only [Qa];rw [zgA h.made h.map (sh1 hI) g2];simp only [Qa,Qy];rw [zwB hT];rfl
  have hD:zp L c mt loc stk b x=some (loc,(zlp [78] (zap L [84] [[73]] (zia [84] stk b).2.1 (zia [84] stk b).2.2).1 (zap L [84] [[73]] (zia [84] stk b).2.1 (zia [84] stk b).2.2).2).2.1,(zlp [78] (zap L [84] [[73]] (zia [84] stk b).2.1 (zia [84] stk b).2.2).1 (zap L [84] [[73]] (zia [84] stk b).2.1 (zia [84] stk b).2.2).2).2.2):=by
   rw [instr_arrays (by omega)];unfold zbC;rw [qf (show x.Op≠49 by omega),qf (show x.Op≠50 by omega),qf (show x.Op≠51 by omega),qf (show x.Op≠52 by omega),qf (show x.Op≠53 by omega),qf (show x.Op≠54 by omega),qt h4];simp only [cond_true,cond_false];rw [zoS h.shS];simp only [Qa];rw [e2,zfd h.made (sh1 hI) g2,zfV [78] [84]];simp only [Qa,Qy];rw [zu2 hT];rfl
  rw [zC3 [78] [84]] at hD;have hl:=zDI [84] (zap L [84] [[73]] (zia [84] stk b).2.1 (zia [84] stk b).2.2).1 (zap L [84] [[73]] (zia [84] stk b).2.1 (zia [84] stk b).2.2).2;have hl2:=hP.length_le;exact ⟨_,_,hO,hD,zgi fun _=>by omega,zga (fun e=>zwx (hB e)) h.shL h.shS ((zwy _ _ _).trans hP)⟩
end
section
variable {l L : List za} {m : List (Tx × Int)} {c : Tx} {mt : zc} {loc stk : List Tx} {b : Bool} {x : zn}
theorem zzO{x:zn}(h:zn3 x=true):(1≤x.Op∧x.Op≤61)∧zoH x.Op x.A=true∧zvY x.Op x.C=true:=by
 unfold zn3 znq zge at h;simp only [Qd,decide_eq_true_eq] at h;exact ⟨h.1.1.1,h.1.1.2,h.1.2⟩
def zC2(L:List za)(m:List (Tx×Int))(c:Tx)(mt:zc)(loc stk:List Tx)(b:Bool)(x:zn):Prop:=
 ∃p r,zk L m c mt loc stk b x=some p∧zp L c mt loc stk b x=some r∧zpJ mt.Stack (p.1,p.2.1,cond (zgY x.Op) (p.2.2||!zpf L mt p.1 p.2.1 x.A) p.2.2) r∧znA loc stk b p
theorem zEH(hj:zgY x.Op=false)(h:∃p r,zk L m c mt loc stk b x=some p∧zp L c mt loc stk b x=some r∧zpJ mt.Stack p r∧znA loc stk b p):zC2 L m c mt loc stk b x:=by
 obtain ⟨p,r,h1,h2,h3,h4⟩:=h;exact ⟨p,r,h1,h2,by rw [hj];exact h3,h4⟩
theorem zCF(h:zf1 l L m mt loc stk b)(hk:zmu mt)(hm:zn3 x=true)(hc:c.length≤25):zC2 L m c mt loc stk b x:=by
 obtain ⟨hO,hA,hC⟩:=zzO hm;have h10:=zEl hm;by_cases hj:20≤x.Op∧x.Op≤36
 ·have e:zgY x.Op=true:=bt hj;obtain ⟨p,r,h1,h2,h3,h4⟩:=zAQ (c:=c) h hk hj;exact ⟨p,r,h1,h2,by rw [e];exact h3,h4⟩
 have e:zgY x.Op=false:=bf hj;refine zEH e ?_;by_cases h1:x.Op=1∨x.Op=2
 ·exact zyB h h1
 by_cases h3:x.Op=3
 ·have:0≤x.A:=by
   unfold zoH zge at hA;rw [h3] at hA;simp at hA;omega
  exact zAR h h3 this
 by_cases h4:x.Op=4
 ·have:0≤x.A:=by
   unfold zoH zge at hA;rw [h4] at hA;simp at hA;omega
  exact zyD h h4 this
 by_cases h5:x.Op=5
 ·exact zCJ h h5
 by_cases h6:x.Op=6
 ·exact zCG h h6
 by_cases h7:x.Op=7
 ·exact zAS h h7
 by_cases h8:8≤x.Op∧x.Op≤19
 ·exact zyA h h8
 by_cases h9:x.Op=37
 ·exact zCH h h9 (by omega)
 by_cases h11:38≤x.Op∧x.Op≤41
 ·exact zyC h h11 (by omega)
 by_cases h12:42≤x.Op∧x.Op≤45
 ·exact zAO h h12 (by omega) hc
 by_cases h13:x.Op=46∨x.Op=47
 ·exact zCK h h13
 by_cases h14:x.Op=48
 ·exact zAL h h14 hk.ret (zsL hk.ret)
 by_cases h15:x.Op=49∨x.Op=50∨x.Op=52∨x.Op=53
 ·exact zAM h h15 h10
 by_cases h16:x.Op=51∨x.Op=54∨x.Op=55
 ·exact zAN h h16
 by_cases h17:x.Op=56∨x.Op=57
 ·refine zAP h h17 ?_ (by omega)
  have ht:zjI x.Op=true:=by
   unfold zjI
   rcases h17 with e |e <;> rw [e] <;> rfl
  unfold zvY at hC;rw [ht] at hC;simp only [cond_true] at hC;unfold zsf at hC;rw [Qd] at hC;exact hC.2
 by_cases h18:x.Op=58
 ·exact zyE h h18
 by_cases h19:x.Op=59
 ·exact zEG h h19
 exact zCI h (by omega)
theorem zzr(n:Int):zka n=zlP n:=rfl
theorem zxJ(h:zf1 l L m mt loc stk false)(hk:zmu mt){p:List Tx×List Tx×Bool}(hp:znA loc stk false p)(hb:p.2.2=false)(hr:(p.2.1.length:Int)≤mt.Stack):zf1 l L m mt p.1 p.2.1 false:=by
 obtain ⟨_,⟨k1,k2,k3,k4⟩,k5⟩:=hp;obtain ⟨k6,k7⟩:=k5 hb;have hs:=hk.stack.2;refine ⟨h.made,h.map,h.lens,⟨by rw [k1];exact h.shL.1,k3⟩,⟨by omega,k4⟩,fun t ht=>?_,hr,fun t ht=>?_⟩
 ·rcases k6 t ht with e |e
  ·exact h.on t e
  ·exact e.2
 ·rcases k7 t ht with e |e
  ·exact h.onL t e
  ·exact .inr (h.on t e)
end
section
variable {l L : List za} {m : List (Tx × Int)} {c : Tx} {mt : zc} {loc stk : List Tx} {b : Bool}
def zyx(L:List za)(m:List (Tx×Int))(c:Tx)(mt:zc)(z:List Tx×List Tx×Bool×Bool×Int):Option Bool:=
 (zr (fun z=>zaR c (zq.mk L m) mt z.1 z.2.1 z.2.2.1 z.2.2.2.1 z.2.2.2.2) z).bind fun o=>zQ o (fun b=>zlk b.1 b.2.1 b.2.2) some
def zCv(L:List za)(c:Tx)(mt:zc)(z:List Tx×List Tx×Bool×Bool×Int):Option Bool:=
 (zr (fun z=>zaX c (zbI.mk L) mt z.1 z.2.1 z.2.2.1 z.2.2.2.1 z.2.2.2.2) z).bind fun o=>zQ o (fun b=>zjA b.1 b.2.1 b.2.2.1 b.2.2.2) some
theorem zAG{g g':Bool}{i i':Int}{loc' stk':List Tx}{b':Bool}(h:zaR c (zq.mk L m) mt loc stk b g i=some (.inl (loc',stk',b',g',i'))):zyx L m c mt (loc,stk,b,g,i)=zyx L m c mt (loc',stk',b',g',i'):=by
 unfold zyx;rw [zR];show ((zaR c (zq.mk L m) mt loc stk b g i).bind _).bind _=_;rw [h];rfl
theorem zva{g:Bool}{i:Int}{v:Bool}(h:zaR c (zq.mk L m) mt loc stk b g i=some (.inr (.inr v))):zyx L m c mt (loc,stk,b,g,i)=some v:=by
 unfold zyx;rw [zR];show ((zaR c (zq.mk L m) mt loc stk b g i).bind _).bind _=_;rw [h];rfl
theorem zu9{g:Bool}{i:Int}(h:zaR c (zq.mk L m) mt loc stk b g i=some (.inr (.inl (loc,stk,b)))):zyx L m c mt (loc,stk,b,g,i)=some (!b):=by
 unfold zyx;rw [zR];show ((zaR c (zq.mk L m) mt loc stk b g i).bind _).bind _=_;rw [h];rfl
theorem zAF{g g':Bool}{i i':Int}{loc' stk':List Tx}{b':Bool}(h:zaX c (zbI.mk L) mt loc stk b g i=some (.inl (loc',stk',b',g',i'))):zCv L c mt (loc,stk,b,g,i)=zCv L c mt (loc',stk',b',g',i'):=by
 unfold zCv;rw [zR];show ((zaX c (zbI.mk L) mt loc stk b g i).bind _).bind _=_;rw [h];rfl
theorem zu8{g:Bool}{i:Int}(h:zaX c (zbI.mk L) mt loc stk b g i=some (.inr (.inl (loc,stk,b,g)))):zCv L c mt (loc,stk,b,g,i)=some (!b&&!g):=by
 unfold zCv;rw [zR];show ((zaX c (zbI.mk L) mt loc stk b g i).bind _).bind _=_;rw [h];rfl
theorem zxp(h:zct l L)(hm:zaW L m)(hk:zmu mt)(hl:ShL loc)(hs:ShL stk){g:Bool}{i:Nat}(hi:i≤mt.Code.length):zyx L m c mt (loc,stk,true,g,(i:Int))=some false:=by
 by_cases hlt:i<mt.Code.length
 ·refine zva ?_;unfold zaR;have hx:mt.Code[i]?=some mt.Code[i]:=Qe hlt;rw [ze8 hx,zw,hx];simp only [cond_true,Qa];rw [zzs h hm hk hl hs];rfl
 ·refine zu9 ?_;unfold zaR;rw [decide_eq_false (by omega)];rfl
theorem ztQ{g:Bool}{i:Int}:zCv L c mt (loc,stk,true,g,i)=some false:=by
 refine zu8 ?_;unfold zaX;rw [Qp,J6];rfl
theorem zDZ(h:zct l L)(hk:zmu mt)(hl:ShL loc)(hs:ShL stk){g:Bool}{i:Nat}{x:zn}(hx:mt.Code[i]?=some x):
  zaX c (zbI.mk L) mt loc stk false g (i:Int) =
   (zc6 L c mt (zhw L mt loc stk i g).1 (zhw L mt loc stk i g).2.1 (zhw L mt loc stk i g).2.2 (i:Int)).bind fun v98 =>
    (zp L c mt (zhw L mt loc stk i g).1 (zhw L mt loc stk i g).2.1 v98 x).bind fun v100=>some (.inl (v100.1,v100.2.1,v100.2.2,(!(zka x.Op)),(IntKind.i64.wrap ((i:Int)+1)))):=by
 unfold zaX;rw [ze8 hx];simp only [QB,Bool.and_true,cond_true];rw [ztv hk];unfold zFr zhw
 have key:∀(v:zX×Bool) (b:Bool) (p q:List Tx),zfZ c (zbI.mk L) mt g (i:Int) v b p q =
   (zc6 L c mt p q (b||!(v.2||g)) (i:Int)).bind fun v98=>(zp L c mt p q v98 x).bind fun v100=>some (.inl (v100.1,v100.2.1,v100.2.2,(!(zka x.Op)),(IntKind.i64.wrap ((i:Int)+1)))):=fun v b p q=>by
  unfold zfZ;rw [zw,hx];rfl
 cases hf:zw5 mt (i:Int) with
 |none =>
  simp only [Qa,JB,cond_false];unfold zer;simp only [cond_false];rw [key];simp
 |some y =>
  have hy:=zro hk hf;simp only [Qa,QD]
  have key2:∀b:Bool,zer c (zbI.mk L) mt loc stk g (i:Int) (y,true) b=(zc6 L c mt y.Locals y.Stack b (i:Int)).bind fun v98=>(zp L c mt y.Locals y.Stack v98 x).bind fun v100=>some (.inl (v100.1,v100.2.1,v100.2.2,(!(zka x.Op)),(IntKind.i64.wrap ((i:Int)+1)))):=fun b=>by
   unfold zer;simp only [cond_true];rw [zzk (hy.shl hk).len (hy.shs hk).len];simp only [Qa];rw [key];simp
  rw [zzG h hk hl hs]
  cases g with
  |true=>simp only [cond_true,Qa,Jb,QD];exact key2 _
  |false=>simp only [cond_false,JB];exact key2 _
theorem zCw(hk:zmu mt)(hc:c.length≤25):∀(d i:Nat) (loc stk:List Tx) (g:Bool),d+i=mt.Code.length→zf1 l L m mt loc stk false→(d=0→g=false) →
  ∃v,zyx L m c mt (loc,stk,false,g,(i:Int))=some v∧zCv L c mt (loc,stk,false,g,(i:Int))=some v:=by
 intro d
 induction d with
 |zero =>
  intro i loc stk g hd h hg;have hg:=hg rfl;subst hg;refine ⟨true,?_,?_⟩
  ·refine zu9 ?_;unfold zaR;rw [decide_eq_false (by omega)];rfl
  ·refine zu8 ?_;unfold zaX;rw [decide_eq_false (by omega)];rfl
 |succ d ih =>
  intro i loc stk g hd h hg
  have hlt:i<mt.Code.length:=by omega
  have hx:mt.Code[i]?=some mt.Code[i]:=Qe hlt;have hxm:=hk.ins _ (Qi hlt);have h100:=hk.code.2;generalize mt.Code[i]=x at hx hxm;have hw:IntKind.i64.wrap ((i:Int)+1)=((i+1:Nat):Int):=zU (by omega);have hE:∀b,zf1 l L m mt (zhw L mt loc stk i g).1 (zhw L mt loc stk i g).2.1 b:=fun b=>zvB h hk;have hD:=zDZ (c:=c) h.made hk h.shL h.shS (g:=g) hx
  have hP:zaR c (zq.mk L m) mt loc stk false g (i:Int)=cond (zhw L mt loc stk i g).2.2 (some (.inr (.inr false))) ((zev L m c mt (zhw L mt loc stk i g).1 (zhw L mt loc stk i g).2.1 (zhw L mt loc stk i g).2.2 (i:Int)).bind fun v51=>(zk L m c mt (zhw L mt loc stk i g).1 (zhw L mt loc stk i g).2.1 v51 x).bind fun v52=>cond (zgY x.Op) ((zdL L m c mt v52.1 v52.2.1 v52.2.2 x.A).bind fun v53=>zfn mt (i:Int) x v52 v53) (zfn mt (i:Int) x v52 v52.2.2)):=by
   unfold zaR;rw [ze8 hx,zw,hx];simp only [cond_true,Qa];rw [zzs h.made h.map hk h.shL h.shS];rfl
  generalize zhw L mt loc stk i g=E at hE hD hP;obtain ⟨p,r,s1,s2,s3,s4⟩:=zCF (c:=c) (hE (E.2.2||mt.Traps.any (zrJ L mt E.1 i))) hk hxm hc;rw [zEP h.made hk (hE false).shL] at hD;simp only [Qa] at hD;rw [s2] at hD;simp only [Qa] at hD;rw [hw,zzr] at hD;have hDn:=zAF hD
  cases hb:E.2.2 with
  |true =>
   rw [hb] at hP s4;refine ⟨false,zva hP,?_⟩;have hpb:p.2.2=true:=s4.1 rfl
   have hrb:r.2.2=true:=by
    rw [←s3.1,hpb];cases zgY x.Op <;> rfl
   rw [hDn,hrb];exact ztQ
  |false =>
   rw [hb] at hP s1 s4;simp only [cond_false] at hP;rw [zEO h.made h.map hk (hE false).shL] at hP;simp only [Qa] at hP;rw [s1] at hP;simp only [Qa] at hP;obtain ⟨k0,⟨k1,k2,k3,k4⟩,k5⟩:=s4;have hroom:=(hE false).room;have hst:=hk.stack.2;have hl1:ShL p.1:=⟨by rw [k1];exact (hE false).shL.1,k3⟩;have hs1:ShL p.2.1:=⟨by omega,k4⟩;rw [zDf h.made h.map hk hl1 hs1] at hP
   have hP2:zaR c (zq.mk L m) mt loc stk false g (i:Int)=some (.inl (p.1,p.2.1,r.2.2,!zlP x.Op,((i+1:Nat):Int))):=by
    rw [hP,←s3.1,←hw];unfold zfn;cases zgY x.Op <;> rfl
   have hPn:=zAG hP2;rw [hPn,hDn]
   cases hrb:r.2.2 with
   |true=>exact ⟨false,zxp h.made h.map hk hl1 hs1 (by omega),ztQ⟩
   |false =>
    obtain ⟨e1,e2⟩:=s3.2 hrb;simp only at e1 e2;rw [←e1,←e2];have hsum:=s3.1;rw [hrb] at hsum;simp only [Qo,Q6,decide_eq_true_eq] at hsum
    have hpb:p.2.2=false:=by
     have:=hsum.1
     cases hq:zgY x.Op with
     |true=>rw [hq] at this;simp only [cond_true,Qo] at this;exact this.1
     |false=>rw [hq] at this;exact this
    have hT:(false||mt.Traps.any (zrJ L mt E.1 i))=false:=by
     cases hq:(false||mt.Traps.any (zrJ L mt E.1 i)) with
     |false=>rfl
     |true=>rw [hq] at k0;rw [k0 rfl] at hpb;cases hpb
    rw [hT] at k0;refine ih (i+1) p.1 p.2.1 (!zlP x.Op) (by omega) (zxJ (hE false) hk ⟨k0,⟨k1,k2,k3,k4⟩,k5⟩ hpb hsum.2) fun h0=>?_;obtain ⟨y,hy1,hy2⟩:=hk.last;rw [JE] at hy1
    have:mt.Code.length-1=i:=by omega
    rw [this,hx] at hy1;cases hy1;rw [hy2];rfl
end
theorem zxg{R:Type}{n:Int}{body:List Tx→Option (Sum (List Tx) (Sum (List Tx) R))}
  (hb:∀z:List Tx,body z=cond (decide (((List.length z):Int)<n)) ((zhj 16 z ([[84]])).bind fun v=>some (.inl v)) (some (.inr (.inl z)))):
  ∀(k:Nat) (z:List Tx),((z.length+k:Nat):Int)=n→z.length+k≤1000→zr body z=some (.inl (z++List.replicate k [84]))
 | 0,z,h,h2=>by
  rw [zR,hb,decide_eq_false (by omega)];simp
 |k+1,z,h,h2=>by
  rw [zR,hb,decide_eq_true (by omega),zbi (by simp;omega) (by simp;omega)];simp only [cond_true,Qa,JM];rw [zxg hb k (z++[[84]]) (by simp;omega) (by simp;omega)];simp [List.replicate_succ]
section
variable {l L : List za} {m : List (Tx × Int)} {c : Tx} {f : zc} {b : Bool}
def zpR(L:List za)(T:List Tx):Bool:=T.any fun t=>!zsQ L t
theorem zA9(h:zct l L)(hm:zaW L m){T:List Tx}(hT:ShL T):zjR T L m=some (!zpR L T):=by
 unfold zjR zbl zdb
 rw [show ((zr (fun z=>zbs T L m z) 0).bind fun o=>zQ o (fun b=>zeQ) some)=_ from zaz (l:=T) (p:=fun t=>!zsQ L t) (by have:=hT.len;omega)
  (fun i x hx=>by
   have hl:=hT.2 x (Qc hx);unfold zbs zm9 zkm;rw [ze8 hx,zw,hx];simp only [Qa,cond_true];rw [zoY h hm hl]
   rfl) (by unfold zbs;rw [zfM];rfl)]
 rw [Qa,zem];rfl
theorem zCS(h:zct l L)(hm:zaW L m){T:List Tx}(hT:ShL T):zit T L m=some (!T.any fun t=>!thN L t):=by
 unfold zit zbm zdc
 rw [show ((zr (fun z=>zbt T L m z) 0).bind fun o=>zQ o (fun b=>zeR) some)=_ from zaz (l:=T) (p:=fun t=>!thN L t) (by have:=hT.len;omega)
  (fun i x hx=>by
   have hl:=hT.2 x (Qc hx);unfold zbt zko zkn;rw [ze8 hx,zw,hx];simp only [Qa,cond_true];rw [zp8 h hm hl (zwl hl),sub_self]
   rfl) (by unfold zbt;rw [zfM];rfl)]
 rw [Qa,zem];rfl
def zx9(c:Tx)(f:zc):List Tx:=cond (!f.Static) [c] []++f.Params
def zoE(c:Tx)(f:zc):List Tx:=zx9 c f++List.replicate (f.Locals.toNat-(zx9 c f).length) [84]
theorem zuE(hk:zmu f):((zx9 c f).length:Int)=zaM f:=by
 have h6:=hk.npar;unfold zx9 zaM
 cases f.Static with
 |true=>simp
 |false =>
  rw [znG (by omega) (by omega)];simp
theorem zDq{R:Type}(hk:zmu f){body:List Tx→Option (Sum (List Tx) (Sum (List Tx) R))}
  (hb:∀z:List Tx,body z=cond (decide (((List.length z):Int)<f.Locals)) ((zhj 16 z ([[84]])).bind fun v=>some (.inl v)) (some (.inr (.inl z)))):zr body (zx9 c f)=some (.inl (zoE c f)):=by
 have h1:=zuE (c:=c) hk;have h2:=hk.locs;exact zxg hb _ _ (by omega) (by omega)
theorem zzS(hk:zmu f):((zoE c f).length:Int)=f.Locals:=by
 have h1:=zuE (c:=c) hk;have h2:=hk.locs;unfold zoE;simp;omega
theorem zuF(hk:zmu f)(hc:zgm c=true):∀t∈zoE c f,t.length≤25∧(t=[84]∨onS t):=by
 intro t ht;unfold zoE zx9 at ht
 rcases Qu.1 ht with h |h
 ·rcases Qu.1 h with h |h
  ·have:t=c:=by
    cases hs:f.Static with
    |true=>rw [hs] at h;cases h
    |false=>rw [hs] at h;simpa using h
   rw [this];exact ⟨zmS hc,.inr (.inr hc)⟩
  ·have:=hk.params t h;exact ⟨zmS this,.inr (.inr this)⟩
 ·rw [(List.mem_replicate.1 h).2];exact ⟨by decide,.inl rfl⟩
theorem zvs(h:zct l L)(hm:zaW L m)(hL:znd L)(hk:zmu f)(hc:zgm c=true):zf1 l L m f (zoE c f) [] false:=by
 have h1:=zzS (c:=c) hk;have h2:=hk.locs;have h3:=hk.stack;exact ⟨h,hm,hL,⟨by omega,fun t ht=>(zuF hk hc t ht).1⟩,⟨Qv _,fun t ht=>(Yl ht).elim⟩,fun t ht=>(Yl ht).elim,by simp;omega,fun t ht=>(zuF hk hc t ht).2⟩
def zC7(L:List za)(f:zc):Bool:=((f.Maps.any fun x=>zpR L x.Locals||zpR L x.Stack)||!((f.Ret == [86])||thN L f.Ret))||f.Params.any fun t=>!thN L t
theorem zDM(hk:zmu f)(b:Bool):zg1 L c f [] [] b=some (zoE c f):=by
 have h6:=hk.npar;unfold zg1
 have key:zfB f (cond (!f.Static) [c] [])=some (zoE c f):=by
  unfold zfB;rw [zbi (by cases f.Static <;> simp <;> omega) (by cases f.Static <;> simp <;> omega)];simp only [Qa];rw [show zr (fun z=>zhg f z) (cond (!f.Static) [c] []++f.Params)=_ from zDq (c:=c) hk (body:=fun z=>zhg f z) fun z=>rfl];rfl
 cases hs:f.Static with
 |true=>rw [hs] at key;exact key
 |false =>
  rw [hs] at key;simp only [QB,cond_true] at key ⊢;rw [zbi (by simp) (by simp)];exact key
theorem zAo(hk:zmu f):ShL f.Params:=⟨by have:=hk.npar;omega,fun s hs=>zmS (hk.params s hs)⟩
theorem zCa(h:zct l L)(hm:zaW L m)(hk:zmu f):((zr (fun z=>zeo (zq.mk L m) f z.1 z.2) (false,0)).bind fun o=>zQ o (fun b=>zjw c (zq.mk L m) f b) some)=zyx L m c f (zoE c f,[],zC7 L f,true,0):=by
 have h6:=hk.npar
 rw [zne (body:=fun z=>zeo (zq.mk L m) f z.1 z.2) (l:=f.Maps) (p:=fun x=>zpR L x.Locals||zpR L x.Stack) (by have:=hk.nmaps;omega) (fun i x b hx=>by
  have hy:=hk.maps x (Qc hx);show zeo (zq.mk L m) f b (i:Int)=_;unfold zeo;rw [ze8 hx,zw,hx];simp only [cond_true,Qa];rw [zA9 h hm (hy.shl hk),zA9 h hm (hy.shs hk)]
  cases zpR L x.Locals <;> cases zpR L x.Stack <;> rfl) (fun b=>by
  show zeo (zq.mk L m) f b (f.Maps.length:Int)=_;unfold zeo
  rw [zfM];rfl)]
 simp only [Qa,zQ]
 have j4:∀(b v:Bool),zgK c (zq.mk L m) f b v (cond (!f.Static) [c] [])=zyx L m c f (zoE c f,[],b||!v,true,0):=fun b v=>by
  unfold zgK;rw [zbi (by cases f.Static <;> simp <;> omega) (by cases f.Static <;> simp <;> omega)];simp only [Qa];rw [show zr (fun z=>zjx f z) (cond (!f.Static) [c] []++f.Params)=_ from zDq (c:=c) hk (body:=fun z=>zjx f z) fun z=>rfl];rfl
 have j3:∀b:Bool,zgJ c (zq.mk L m) f b=zyx L m c f (zoE c f,[],b||(f.Params.any fun t=>!thN L t),true,0):=fun b=>by
  unfold zgJ;rw [zCS h hm (zAo hk)];simp only [Qa];have:=j4 b (!f.Params.any fun t=>!thN L t);rw [Bool.not_not] at this;rw [←this]
  cases hs:f.Static with
  |true=>rfl
  |false =>
   simp only [QB,cond_true];rw [zbi (by simp) (by simp)];rfl
 unfold zjw zC7;have hr:=zsL hk.ret;rw [zp8 h hm hr (zwl hr),sub_self];simp only [Qa];rw [j3,j3];cases f.Ret == [86] <;> simp
theorem zB9(h:zct l L)(hk:zmu f):((zr (fun z=>zcI (zbI.mk L) f z.1 z.2) (false,0)).bind fun o=>zQ o (fun b=>zh2 c (zbI.mk L) f b) some)=zCv L c f (zoE c f,[],zC7 L f,true,0):=by
 have h6:=hk.npar
 rw [zne (body:=fun z=>zcI (zbI.mk L) f z.1 z.2) (l:=f.Maps) (p:=fun x=>zpR L x.Locals||zpR L x.Stack) (by have:=hk.nmaps;omega) (fun i x b hx=>by
  have hy:=hk.maps x (Qc hx);have hl:=(hy.shl hk).1;have hs:=(hy.shs hk).1;show zcI (zbI.mk L) f b (i:Int)=_;unfold zcI;rw [ze8 hx,zw,hx];simp only [cond_true,Qa];rw [zbi (by simp;omega) (by simp;omega)];simp only [Qa,Jx];rw [zbi (by omega) (by omega)];simp only [Qa]
  rw [zne (body:=fun z=>zdH (zbI.mk L) (x.Locals++x.Stack) z.1 z.2) (l:=x.Locals++x.Stack) (p:=fun t=>!zsQ L t) (by simp;omega) (fun j t b ht=>by
   have hm:=Qc ht
   have h25:t.length≤25:=by
    rcases Qu.1 hm with e |e
    ·exact hy.loc25 t e
    ·exact hy.stk25 t e
   show zdH (zbI.mk L) (x.Locals++x.Stack) b (j:Int)=_;unfold zdH;rw [ze8 ht,zw,ht];simp only [cond_true,Qa];rw [zeK h (by omega)];unfold zsQ
   cases t == [84] <;> cases t == [78] <;> cases thN L t <;> rfl) (fun b=>by
   show zdH (zbI.mk L) (x.Locals++x.Stack) b ((x.Locals++x.Stack).length:Int)=_;unfold zdH
   rw [zfM];rfl)]
  rw [List.any_append]
  rfl) (fun b=>by
  show zcI (zbI.mk L) f b (f.Maps.length:Int)=_;unfold zcI
  rw [zfM];rfl)]
 simp only [Qa,zQ];unfold zh2
 rw [zne (body:=fun z=>zdI (zbI.mk L) f z.1 z.2) (l:=f.Params) (p:=fun t=>!thN L t) (by omega) (fun i t b ht=>by
  have h25:=(zAo hk).2 t (Qc ht);show zdI (zbI.mk L) f b (i:Int)=_;unfold zdI;rw [ze8 ht,zw,ht];simp only [cond_true,Qa];rw [zeK h (by omega)]
  rfl) (fun b=>by
  show zdI (zbI.mk L) f b (f.Params.length:Int)=_;unfold zdI
  rw [zfM];rfl)]
 simp only [Qa,zQ];unfold zke;have hr:=zsL hk.ret;rw [zeK h (by omega)]
 have e:((cond (f.Ret == [86]) (some true) ((some (thN L f.Ret)).bind fun v69=>some v69)):Option Bool)=some ((f.Ret == [86])||thN L f.Ret):=by cases f.Ret == [86] <;> rfl
 rw [e];simp only [Qa];rw [zDM hk];simp only [Qa]
 have e2:(((false||f.Maps.any fun x=>zpR L x.Locals||zpR L x.Stack)||f.Params.any fun t=>!thN L t)||!((f.Ret == [86])||thN L f.Ret))=zC7 L f:=by
  unfold zC7
  cases (f.Maps.any fun x=>zpR L x.Locals||zpR L x.Stack) <;> cases (f.Params.any fun t=>!thN L t) <;> cases ((f.Ret == [86])||thN L f.Ret) <;> rfl
 rw [e2];rfl
theorem zBB(h:zct l L)(hm:zaW L m)(hL:znd L)(hk:zmu f)(hc:zgm c=true):∃v,zyx L m c f (zoE c f,[],zC7 L f,true,0)=some v∧zCv L c f (zoE c f,[],zC7 L f,true,0)=some v:=by
 have hA:=zvs h hm hL hk hc
 cases zC7 L f with
 |true=>exact ⟨false,zxp (i:=0) h hm hk hA.shL hA.shS (Qv _),ztQ⟩
 |false=>exact zCw hk (zmS hc) f.Code.length 0 (zoE c f) [] true (by omega) hA fun e=>by have:=hk.code.1;omega
theorem zBa(h:zct l L)(hm:zaW L m)(hL:znd L)(c:Tx)(k:Int):∃v,zcj (some (zq.mk L m)) c k=some v∧zjr (some (zbI.mk L)) c k=some v:=by
 have h26:=h.len;unfold zcj zjr;simp only [zt1];rw [zdu hm,zo4 (by omega)];simp only [Qa];rw [zsr]
 cases hc:cl L c with
 |none =>
  rw [zoq hc];exact ⟨false,rfl,rfl⟩
 |some x =>
  rw [zh4 hc,zqj,hc];simp only [Qa,Qp,Jb];by_cases h0:k<0
  ·rw [decide_eq_true h0];exact ⟨false,rfl,rfl⟩
  rw [decide_eq_false h0];simp only [Jb,cond_false];by_cases h1:(x.Methods.length:Int)≤k
  ·rw [decide_eq_true h1];exact ⟨false,rfl,rfl⟩
  rw [decide_eq_false h1];obtain ⟨n,rfl⟩:∃n:Nat,k=(n:Int):=⟨k.toNat,by omega⟩
  have hn:n<x.Methods.length:=by omega
  have hf:x.Methods[n]?=some x.Methods[n]:=Qe hn;have hfm:=Qi hn;generalize x.Methods[n]=f at hf hfm;rw [zw,hf];simp only [Qa,cond_false]
  cases ha:f.Abstract with
  |true=>exact ⟨false,rfl,rfl⟩
  |false =>
   have hk:=zFA (zw7 h (zbK hc).1 hfm) ha;have hcm:=zjN (zlc h (zh4 hc));simp only [cond_false];rw [zCa h hm hk,zB9 h hk];exact zBB h hm hL hk hcm
end
theorem zG5{α:Type}{w:Nat}{a b:List α}(h:a.length+b.length≤1000)(hw:w≤1000):zhj w a b=some (a++b):=zbi (QI (Nat.mul_le_mul h hw) (by decide)) (by omega)
section
variable {l L : List za} {m : List (Tx × Int)}
def zkq(L:List za)(t:Tx):Bool:=(!(t == [86])&&!(t == []))&&!zsQ L t
theorem zq5(h:zct l L)(hm:zaW L m){t:Tx}(ht:t.length≤25):zeD t L m=some (zkq L t):=by
 unfold zeD zkq;rw [zoY h hm ht];cases (!(t == [86])&&!(t == [])) <;> rfl
def zz2(L:List za)(x:zn):Bool:=
 cond ((((x.Op == 38)||(x.Op == 39))||(x.Op == 40))||(x.Op == 41)) (znS L x.C x.M).2.2
  (cond (((x.Op == 42)||(x.Op == 43))||(x.Op == 44)) ((((zea L x.C).findSome? (znp L za2 x.M)).getD ([],zM,false)).2.2&&!isF L x.C) (cond (x.Op == 45) (zoo L x.C x.M).2.2 true))
theorem zCb(h:zct l L)(hm:zaW L m)(hL:znd L)(x:zn):zkz L m x=some (zz2 L x):=by
 unfold zkz zf8 zg8 zf9 zz2 znS;rw [zdu hm,zpc h hm hL,zmT h hm hL,zvC h hm hL,zuw];simp only [Qa];cases x.Op == 38 <;> cases x.Op == 39 <;> cases x.Op == 40 <;> cases x.Op == 41 <;> cases x.Op == 42 <;> cases x.Op == 43 <;> cases x.Op == 44 <;> cases x.Op == 45 <;> rfl
def zrc(L:List za)(x:zn):Bool:=zkq L x.C||!zz2 L x
theorem zx6(h:zct l L)(hm:zaW L m)(hL:znd L){x:zn}(hx:x.C.length≤25):zhJ x L m L m=some (zrc L x):=by
 unfold zhJ zrc;rw [zq5 h hm hx,zCb h hm hL];cases zkq L x.C <;> rfl
theorem zzb(h:zct l L)(hm:zaW L m)(hL:znd L){T:List zj}(hl:T.length≤10000)(hT:∀x∈T,x.Type_.length≤25):zao T L m=some (T.any fun x=>zkq L x.Type_):=by
 unfold zao zce
 rw [show ((zr (fun z=>zaQ T L m z) 0).bind fun o=>zQ o (fun b=>zdo) some)=_ from zaz (l:=T) (p:=fun x:zj=>zkq L x.Type_) (by omega) (fun i x hx=>by
   unfold zaQ zkR;rw [ze8 hx,zw,hx];simp only [Qa,cond_true];rw [zq5 h hm (hT x (Qc hx))]
   rfl) (by unfold zaQ;rw [zfM];rfl)]
 rw [Qa,zem]
theorem zBC(h:zct l L)(hm:zaW L m)(hL:znd L){T:List zT}(hl:T.length≤10000)(hT:∀x∈T,x.C.length≤25):zaY T L m=some (T.any fun x=>zkq L x.C):=by
 unfold zaY zcp
 rw [show ((zr (fun z=>zaZ T L m z) 0).bind fun o=>zQ o (fun b=>zdO) some)=_ from zaz (l:=T) (p:=fun x:zT=>zkq L x.C) (by omega) (fun i x hx=>by
   unfold zaZ zjl;rw [ze8 hx,zw,hx];simp only [Qa,cond_true];rw [zq5 h hm (hT x (Qc hx))]
   rfl) (by unfold zaZ;rw [zfM];rfl)]
 rw [Qa,zem]
theorem zDP(h:zct l L)(hm:zaW L m)(hL:znd L){T:List zn}(hl:T.length≤10000)(hT:∀x∈T,x.C.length≤25):za7 T L m L m=some (T.any fun x=>zrc L x):=by
 unfold za7 zcJ
 rw [show ((zr (fun z=>za8 T L m L m z) 0).bind fun o=>zQ o (fun b=>zek) some)=_ from zaz (l:=T) (p:=fun x:zn=>zrc L x) (by omega) (fun i x hx=>by
   unfold za8 ;rw [ze8 hx,zw,hx];simp only [Qa,cond_true];rw [zx6 h hm hL (hT x (Qc hx))]
   rfl) (by unfold za8;rw [zfM];rfl)]
 rw [Qa,zem]
theorem zDR(h:zct l L)(hm:zaW L m)(hL:znd L){T:List Tx}(hl:T.length≤10000)(hT:∀x∈T,x.length≤25):zbn T L m=some (T.any fun x=>zkq L x):=by
 unfold zbn zdd
 rw [show ((zr (fun z=>zbu T L m z) 0).bind fun o=>zQ o (fun b=>zeS) some)=_ from zaz (l:=T) (p:=fun x:Tx=>zkq L x) (by omega) (fun i x hx=>by
   unfold zbu ;rw [ze8 hx,zw,hx];simp only [Qa,cond_true];rw [zq5 h hm (hT x (Qc hx))]
   rfl) (by unfold zbu;rw [zfM];rfl)]
 rw [Qa,zem]
def zoF(L:List za)(f:zc):Bool:=((zkq L f.Ret||f.Params.any fun x=>zkq L x)||f.Traps.any fun x=>zkq L x.C)||f.Code.any fun x=>zrc L x
structure zBr(f:zc):Prop where
 pars:f.Params.length≤10000∧∀x∈f.Params,x.length≤25
 ret:f.Ret.length≤25
 traps:f.Traps.length≤10000∧∀x∈f.Traps,x.C.length≤25
 code:f.Code.length≤10000∧∀x∈f.Code,x.C.length≤25
theorem zmu.small{f:zc}(hk:zmu f):zBr f where
 pars:=⟨by have:=hk.npar;omega,(zAo hk).2⟩
 ret:=zsL hk.ret
 traps:=⟨by have:=hk.ntraps;omega,fun y hy=>by
  rcases hk.traps y hy with e |e
  ·rw [e];exact Qv _
  ·have:=zo7 e;omega⟩
 code:=⟨by have:=hk.code.2;omega,fun x hx=>by have:=zEl (hk.ins x hx);omega⟩
theorem zyc(h:zct l L)(hm:zaW L m)(hL:znd L){f:zc}(hf:zBr f):ziY f L m L m=some (zoF L f):=by
 unfold ziY zoF;rw [zBC h hm hL hf.traps.1 hf.traps.2,zDP h hm hL hf.code.1 hf.code.2,zq5 h hm hf.ret,zDR h hm hL hf.pars.1 hf.pars.2];simp only [Qa];cases zkq L f.Ret <;> rfl
theorem zDQ(h:zct l L)(hm:zaW L m)(hL:znd L){T:List zc}(hl:T.length≤10000)(hT:∀x∈T,zBr x):zag T L m L m=some (T.any fun x=>zoF L x):=by
 unfold zag zbS
 rw [show ((zr (fun z=>zaB T L m L m z) 0).bind fun o=>zQ o (fun b=>zcX) some)=_ from zaz (l:=T) (p:=fun x:zc=>zoF L x) (by omega) (fun i x hx=>by
   unfold zaB ;rw [ze8 hx,zw,hx];simp only [Qa,cond_true];rw [zyc h hm hL (hT x (Qc hx))]
   rfl) (by unfold zaB;rw [zfM];rfl)]
 rw [Qa,zem]
def zod(L:List za)(c:za):Bool:=!(c.Fields.any fun x=>zkq L x.Type_)&&!(c.Methods.any fun x=>zoF L x)
theorem zCT(h:zct l L)(hm:zaW L m)(hL:znd L){c:za}(h1:c.Fields.length≤10000∧∀f∈c.Fields,f.Type_.length≤25)(h2:c.Methods.length≤10000∧∀f∈c.Methods,zBr f):zi9 L m c=some (zod L c):=by
 unfold zi9 zod;rw [zzb h hm hL h1.1 h1.2,zDQ h hm hL h2.1 h2.2];rfl
def zl3(a b:zc):Bool:=(a.Params == b.Params)&&(a.Ret == b.Ret)
theorem zsW{a b:zc}(h:a.Params.length≤10000):ziL a b=some (zl3 a b):=by
 unfold ziL zl3;rw [zrC (by omega)];rfl
def zse(f y:zc):Bool:=((y.Name == f.Name)&&!(f.Name == [36,105,110,105,116]))&&((!zl3 f y||f.Static)||y.Static)
theorem zCn{f y:zc}(h:f.Params.length≤10000):zgW y f.Name f.Params f.Ret f.Static f.Abstract f.Locals f.Stack f.Code f.Maps f.Traps=some (zse f y):=by
 unfold zgW zse;rw [zsW (a:=zc.mk f.Name f.Params f.Ret f.Static f.Abstract f.Locals f.Stack f.Code f.Maps f.Traps) h];cases ((y.Name == f.Name)&&!(f.Name == [36,105,110,105,116])) <;> rfl
theorem zCo{f:zc}(h:f.Params.length≤10000){T:List zc}(hl:T.length≤10000):zah T f.Name f.Params f.Ret f.Static f.Abstract f.Locals f.Stack f.Code f.Maps f.Traps=some (T.any fun y=>zse f y):=by
 unfold zah zbT
 rw [show ((zr (fun z=>zaC T f.Name f.Params f.Ret f.Static f.Abstract f.Locals f.Stack f.Code f.Maps f.Traps z) 0).bind fun o=>zQ o (fun b=>zcY) some)=_ from zaz (l:=T) (p:=fun y:zc=>zse f y) (by omega) (fun i x hx=>by
   unfold zaC;rw [ze8 hx,zw,hx];simp only [Qa,cond_true];rw [zCn h]
   rfl) (by unfold zaC;rw [zfM];rfl)]
 rw [Qa,zem]
def zkV(L:List za)(s:Tx):List zc:=match cl L s with |some x=>x.Methods |none=>[]
def zv6(L:List za)(c:za):Bool:=!(c.Methods.any fun f=>((zea L c.Name).drop 1).any fun s=>(zkV L s).any fun y=>zse f y)
theorem zEL(h:zct l L){n:Tx}(hn:zeb L n=true):1≤(zea L n).length:=by
 obtain ⟨x,hx⟩:=zgX hn;unfold zea
 cases hd:L.length with
 |zero =>
  have:L=[]:=Qf hd;rw [this] at hn;cases hn
 |succ d =>
  unfold sup;rw [hx];simp
theorem zuW(h:zct l L)(hm:zaW L m)(hs:∀s,(zkV L s).length≤10000){c:za}(hc:zeb L c.Name=true)(h2:c.Methods.length≤10000∧∀f∈c.Methods,zBr f):zgD L m c=some (zv6 L c):=by
 have h26:=zfI h c.Name;have h1:=zEL h hc;unfold zgD
 rw [show zr (fun z=>zdy L m c z) 0=some (zqf () (c.Methods.findSome? (fun f=>cond (((zea L c.Name).drop 1).any fun s=>(zkV L s).any fun y=>zse f y) (some false) none))) from zeq (fun i f hf=>by
  have hi:=(Qb.1 hf).1;have hF:=h2.2 f (Qc hf);show zdy L m c (i:Int)=_;unfold zdy;rw [ze8 hf,zw,hf];simp only [cond_true,Qa];rw [zis h hm];simp only [Qa];rw [show (1:Int)=((1:Nat):Int) from rfl,zih h1];simp only [Qa]
  have hin:zr (fun z=>zdx L m f ((zea L c.Name).drop 1) z) 0=some (zqf () (((zea L c.Name).drop 1).findSome? (fun s=>cond ((zkV L s).any fun y=>zse f y) (some false) none))):=zeq (fun j s hj=>by
   have hjl:=(Qb.1 hj).1;simp only [List.length_drop] at hjl;show zdx L m f ((zea L c.Name).drop 1) (j:Int)=_;unfold zdx;rw [ze8 hj,zw,hj];simp only [cond_true,Qa];obtain ⟨v,e1,e2⟩:∃v,zG L m s=some v∧v.1.Methods=zkV L s:=⟨_,zdu hm s,by unfold zkV;cases cl L s <;> rfl⟩;rw [e1];simp only [Qa];rw [e2,zCo hF.pars.1 (hs s),zU (by omega)];simp only [Qa]
   cases (zkV L s).any fun y=>zse f y <;> rfl) (by
   show zdx L m f ((zea L c.Name).drop 1) (((zea L c.Name).drop 1).length:Int)=_;unfold zdx
   rw [zfM];rfl)
  rw [hin,zcK];unfold zjX;rw [zU (by omega)]
  cases ((zea L c.Name).drop 1).any fun s=>(zkV L s).any fun y=>zse f y <;> rfl) (by
  show zdy L m c (c.Methods.length:Int)=_;unfold zdy
  rw [zfM];rfl),zcK]
 unfold zv6;cases c.Methods.any fun f=>((zea L c.Name).drop 1).any fun s=>(zkV L s).any fun y=>zse f y <;> rfl
end
def zGo(i:Bool):List zn:=cond i [(zn.mk 1 0 [] []),(zn.mk 47 0 [] [])] [(zn.mk 46 0 [] [])]
def zHg(i:Bool):Tx:=cond i [73] [86]
def zGv(ps:List Tx)(i st:Bool):zc:=zc.mk [102] ps (zHg i) st false ((ps.length:Int)+1) 1 (zGo i) [] []
def m0:zc:=zGv [] false false
section
variable {l L : List za} {m : List (Tx × Int)}
theorem zpn(hL:L.length≤30):zcq L m=some (L.map (·.Name)):=by
 unfold zcq
 have key:∀(r pre:List za),L=pre++r→zr (fun z=>zb7 L z.1 z.2) (pre.map (·.Name),(pre.length:Int))=some (.inl (L.map (·.Name))):=by
  intro r
  induction r with
  |nil =>
   intro pre e;rw [Qz] at e;rw [zR];show (zb7 L (pre.map (·.Name)) (pre.length:Int)).bind _=_;unfold zb7;rw [←e,zfM];rfl
  |cons c r ih =>
   intro pre e
   have hlen:L.length=pre.length+(r.length+1):=by rw [e];simp
   have hx:L[pre.length]?=some c:=by rw [e];simp
   have ih:=ih (pre++[c]) (by rw [e];simp);rw [show (pre++[c]).length=pre.length+1 by simp] at ih;rw [zR];show (zb7 L (pre.map (·.Name)) (pre.length:Int)).bind _=_;unfold zb7;rw [ze8 hx,zw,hx];simp only [cond_true,Qa];rw [zG5 (by simp;omega) (by omega),zU (by omega)];rw [JY] at ih;exact ih
 rw [show zr (fun z=>zb7 L z.1 z.2) ([],0)=_ from key L [] rfl];rfl
def zjZ(L:List za)(n:Tx):za:=(cl L n).getD zC
structure zG2(L:List za)(c:za):Prop where
 fields:c.Fields.length≤10000∧∀f∈c.Fields,f.Type_.length≤25
 methods:c.Methods.length≤10000∧∀f∈c.Methods,zBr f
end
section
variable {l : List za} {m : List (Tx × Int)} {ps qs : List Tx} {i j s t : Bool}
end
section
variable {l L : List za} {m : List (Tx × Int)}
theorem zxW{f:zc}(h:zhB f=true)(ha:f.Abstract=true)(h1:f.Code.length≤10000)(h2:f.Maps.length≤10000)(h3:f.Traps.length≤10000):f.Code=[]∧f.Traps=[]:=by
 unfold zhB at h;rw [ha] at h;simp only [Qd,cond_true] at h;obtain ⟨_,h5⟩:=h;unfold ziB at h5;simp only [Qd] at h5;have h6:=h5.2;rw [znG (n:=(f.Code.length:Int)+(f.Maps.length:Int)) (by omega) (by omega),znG (by omega) (by omega)] at h6
 have h7:(f.Code.length:Int)+(f.Maps.length:Int)+(f.Traps.length:Int)=0:=by simpa using h6
 exact ⟨Qf (by omega),Qf (by omega)⟩
structure zER(f:zc):Prop where
 pars:f.Params.length≤6∧∀s∈f.Params,zgm s=true
 ret:zwd f.Ret=true
 traps:f.Traps.length≤6∧∀y∈f.Traps,y.C=[]∨zcT y.C=true
 code:f.Code.length≤100∧∀x∈f.Code,zn3 x=true
theorem zGw{f:zc}(h:zhB f=true)(hF:zDy f):zER f:=by
 obtain ⟨p1,p2,p3⟩:=ztx h
 cases ha:f.Abstract with
 |true =>
  obtain ⟨e1,e2⟩:=zxW h ha hF.code.len hF.maps.len hF.traps.len;exact ⟨⟨p2,p1⟩,p3,by rw [e2];exact ⟨Qv _,fun y hy=>by cases hy⟩,by rw [e1];exact ⟨Qv _,fun y hy=>by cases hy⟩⟩
 |false =>
  have hk:=zFA h ha;exact ⟨⟨p2,p1⟩,p3,⟨hk.ntraps,hk.traps⟩,hk.code.2,hk.ins⟩
theorem zER.small{f:zc}(h:zER f):zBr f where
 pars:=⟨by have:=h.pars.1;omega,fun s hs=>zmS (h.pars.2 s hs)⟩
 ret:=zsL h.ret
 traps:=⟨by have:=h.traps.1;omega,fun y hy=>by
  rcases h.traps.2 y hy with e |e
  ·rw [e];exact Qv _
  ·have:=zo7 e;omega⟩
 code:=⟨by have:=h.code.1;omega,fun x hx=>by have:=zEl (h.code.2 x hx);omega⟩
structure zvk(L:List za)(c:za):Prop where
 fields:c.Fields.length≤10000∧∀f∈c.Fields,zgm f.Type_=true
 methods:c.Methods.length≤10000∧∀f∈c.Methods,zER f
 names:∀(i j:Nat) (f g:zc),c.Methods[i]?=some f→c.Methods[j]?=some g→f.Name=g.Name→i=j
theorem ztY{α:Type}{ok:α→Bool}{nm:α→List UInt8}:∀{r pre:List α},uB ok nm pre r=false→∀(i j:Nat) (x y:α),i<j→(pre++r)[i]?=some x→(pre++r)[j]?=some y→pre.length≤j→nm x≠nm y
 | [],pre,h,i,j,x,y,hij,hx,hy,hj=>by
  rw [Qz] at hy;have:=(Qb.1 hy).1;omega
 |z ::r,pre,h,i,j,x,y,hij,hx,hy,hj=>by
  unfold uB at h;simp only [Qo] at h;obtain ⟨⟨_,h2⟩,h3⟩:=h;by_cases e:j=pre.length
  ·subst e
   have hz:y=z:=by simpa using hy.symm
   subst hz;rw [Qm hij] at hx;rw [Qq] at h2;intro e;exact h2 x (Qc hx) (by rw [e];simp)
  ·refine ztY (r:=r) (pre:=pre++[z]) h3 i j x y hij (by simpa using hx) (by simpa using hy) (by simp;omega)
theorem zCQ{α:Type}{ok:α→Bool}{nm:α→List UInt8}{r:List α}(h:uB ok nm [] r=false)(i j:Nat)(x y:α)(hx:r[i]?=some x)(hy:r[j]?=some y)(e:nm x=nm y):i=j:=by
 rcases Nat.lt_trichotomy i j with k |k |k
 ·exact absurd e (ztY h i j x y k (by simpa using hx) (by simpa using hy) (Qv _))
 ·exact k
 ·exact absurd e.symm (ztY h j i y x k (by simpa using hy) (by simpa using hx) (Qv _))
theorem zzu{f:zj}(h:zpb f=true):zgm f.Type_=true:=by
 unfold zpb at h;simp only [Qd] at h;exact h.2
theorem zDT(h:zct l L)(hF:∀c∈L,zdt c){c:za}(hc:c∈L):zvk L c:=by
 have hf:=hF c hc;have hfl:=hf.fields.len;have hml:=hf.methods.len;have hmd:∀f∈c.Methods,zER f:=fun f hm=>zGw (zw7 h hc hm) (hf.methods.all f hm);rw [h.app] at hc
 rcases Qu.1 hc with e |e
 ·have hg:giv.all (fun c=>decide (c.Methods.length=0)&&decide (c.Fields.length=0))=true:=by decide +kernel
  have:=Qs.1 hg c e;simp only [Qd,decide_eq_true_eq] at this;have e1:=Qf this.1;have e2:=Qf this.2;exact ⟨⟨hfl,fun f hx=>by rw [e2] at hx;cases hx⟩,⟨hml,hmd⟩,fun i j f g hx=>by rw [e1] at hx;simp at hx⟩
 ·have hm:=h.may c e;unfold zuK at hm;simp only [Qd,Qk,decide_eq_true_eq] at hm;obtain ⟨_,⟨⟨⟨_,_⟩,h5,_⟩,h6,_⟩⟩:=hm;exact ⟨⟨hfl,fun f hx=>zzu (zsU h5 f hx)⟩,⟨hml,hmd⟩,fun i j f g hx hy=>zCQ h6 i j f g hx hy⟩
theorem zvk.small{c:za}(h:zvk L c):zG2 L c:=⟨⟨h.fields.1,fun f hf=>zmS (h.fields.2 f hf)⟩,⟨h.methods.1,fun f hf=>(h.methods.2 f hf).small⟩⟩
theorem zzV:zgm []=false:=by decide +kernel
theorem zFt:zgm [84]=false:=by decide +kernel
theorem zFs:zgm [78]=false:=by decide +kernel
theorem zuL{t s:Tx}(h:zgm t=true)(hs:zgm s=false):(t == s)=false:=by
 refine beq_eq_false_iff_ne.2 fun e=>?_;rw [e,hs] at h;cases h
theorem zBR{t:Tx}(h:zgm t=true):zkq L t=!thN L t:=by
 unfold zkq zsQ;rw [zuL h zFu,zuL h zzV,zuL h zFs,zuL h zFt];simp
theorem zBS:zkq L []=false:=by unfold zkq;simp
theorem zF0{t:Tx}(h:zcT t=true):thN L t=zeb L t:=by
 unfold thN zxu;have e:ess t=t:=zpO (zjM h);rw [zjN h,e,QD]
 have:(t == [73])=false:=beq_eq_false_iff_ne.2 fun e=>by rw [e,zoh] at h;cases h
 rw [this,Jb]
theorem zzH{t:Tx}(h:t=[]∨zcT t=true):zkq L t=(!(t == [])&&!zeb L t):=by
 rcases h with h |h
 ·rw [h,zBS];rfl
 ·rw [zBR (zjN h),zF0 h,zuL (zjN h) zzV];simp
end
section
variable {l L : List za} {m : List (Tx × Int)}
theorem zvt(a b:zc):zl3 a b=zl3 b a:=by
 unfold zl3;rw [Jd];simp only [Qd,beq_iff_eq];exact ⟨fun h=>⟨h.1.symm,h.2.symm⟩,fun h=>⟨h.1.symm,h.2.symm⟩⟩
end
section
variable {l L : List za} {m : List (Tx × Int)}
def zpL(f y:zc):Bool:=(y.Name == f.Name)&&!zl3 f y
def zFi(L:List za)(c:Tx)(f:zc):Bool:=(chN L c f.Name).2&&(zkV L (chN L c f.Name).1).any fun y=>(y.Name == f.Name)&&zl3 f y
theorem zuM(hD:∀c∈L,zvk L c)(s:Tx):(zkV L s).length≤10000∧∀f∈zkV L s,zER f:=by
 unfold zkV
 cases hc:cl L s with
 |none=>exact ⟨Qv _,fun f hf=>by cases hf⟩
 |some x=>exact (hD x (zbK hc).1).methods
def zBi(L:List za)(n:Tx):List zc:=(zfs L n).flatMap (zkV L)
def zq1(L:List za)(c:za):Bool:=!((zBi L c.Name).any fun f=>(zBi L c.Name).any fun y=>zpL f y)&&(c.Interface||!((zBi L c.Name).any fun f=>!zFi L c.Name f))
end
section
variable {l L : List za} {m : List (Tx × Int)}
theorem zzt{f y:zc}(h:f.Params.length≤10000):ziX y f.Name f.Params f.Ret f.Static f.Abstract f.Locals f.Stack f.Code f.Maps f.Traps=some (zpL f y):=by
 unfold ziX zpL;rw [zsW (a:=zc.mk f.Name f.Params f.Ret f.Static f.Abstract f.Locals f.Stack f.Code f.Maps f.Traps) h];cases y.Name == f.Name <;> rfl
theorem zDK{f:zc}(h:f.Params.length≤10000){T:List zc}(hl:T.length≤10000000):zai T f.Name f.Params f.Ret f.Static f.Abstract f.Locals f.Stack f.Code f.Maps f.Traps=some (T.any fun y=>zpL f y):=by
 unfold zai zbU
 rw [show ((zr (fun z=>zaD T f.Name f.Params f.Ret f.Static f.Abstract f.Locals f.Stack f.Code f.Maps f.Traps z) 0).bind fun o=>zQ o (fun b=>zcZ) some)=_ from zaz (l:=T) (p:=fun y:zc=>zpL f y) (by omega) (fun i x hx=>by
   unfold zaD;rw [ze8 hx,zw,hx];simp only [Qa,cond_true];rw [zzt h]
   rfl) (by unfold zaD;rw [zfM];rfl)]
 rw [Qa,zem]
theorem zEg{f y:zc}(h:f.Params.length≤10000):zky y f.Name f.Params f.Ret f.Static f.Abstract f.Locals f.Stack f.Code f.Maps f.Traps=some ((y.Name == f.Name)&&zl3 f y):=by
 unfold zky;rw [zsW (a:=zc.mk f.Name f.Params f.Ret f.Static f.Abstract f.Locals f.Stack f.Code f.Maps f.Traps) h];cases y.Name == f.Name <;> rfl
theorem zEi{f:zc}(h:f.Params.length≤10000){T:List zc}(hl:T.length≤10000):zak T f.Name f.Params f.Ret f.Static f.Abstract f.Locals f.Stack f.Code f.Maps f.Traps=some (T.any fun y=>(y.Name == f.Name)&&zl3 f y):=by
 unfold zak zbW
 rw [show ((zr (fun z=>zaF T f.Name f.Params f.Ret f.Static f.Abstract f.Locals f.Stack f.Code f.Maps f.Traps z) 0).bind fun o=>zQ o (fun b=>zc1) some)=_ from zaz (l:=T) (p:=fun y:zc=>(y.Name == f.Name)&&zl3 f y) (by omega) (fun i x hx=>by
   unfold zaF;rw [ze8 hx,zw,hx];simp only [Qa,cond_true];rw [zEg h]
   rfl) (by unfold zaF;rw [zfM];rfl)]
 rw [Qa,zem]
theorem zGs(h:zct l L)(hm:zaW L m)(hL:znd L)(hD:∀c∈L,zvk L c){c:Tx}{f:zc}(hp:f.Params.length≤10000):zni L m c f=some (zFi L c f):=by
 unfold zni zFi;rw [zBD h hm hL];simp only [Qa]
 cases (chN L c f.Name).2 with
 |false=>rfl
 |true =>
  simp only [Qp,cond_false,QD];obtain ⟨v,e1,e2⟩:∃v,zG L m (chN L c f.Name).1=some v∧v.1.Methods=zkV L (chN L c f.Name).1:=⟨_,zdu hm _,by unfold zkV;cases cl L (chN L c f.Name).1 <;> rfl⟩;rw [e1];simp only [Qa];rw [e2,zEi hp (zuM hD _).1];rfl
theorem zEx(h:zct l L)(hm:zaW L m)(hL:znd L)(hD:∀c∈L,zvk L c){c:za}{T:List zc}(hl:T.length≤10000000)(hT:∀f∈T,f.Params.length≤10000):
  zaj T L m c.Name c.Super c.Interface c.Impl c.Fields c.Methods=some (T.any fun f=>!zFi L c.Name f):=by
 unfold zaj zbV
 rw [show ((zr (fun z=>zaE T L m c.Name c.Super c.Interface c.Impl c.Fields c.Methods z) 0).bind fun o=>zQ o (fun b=>zc0) some)=_ from zaz (l:=T) (p:=fun f:zc=>!zFi L c.Name f) (by omega) (fun i x hx=>by
   unfold zaE zkQ;rw [ze8 hx,zw,hx];simp only [Qa,cond_true];rw [zGs h hm hL hD (hT x (Qc hx))]
   rfl) (by unfold zaE;rw [zfM];rfl)]
 rw [Qa,zem]
def zqP:List zc→List zc→Option (List zc)
 |acc,[]=>some acc
 |acc,f ::r=>cond (acc.any fun y=>zpL f y) none (zqP (acc++[f]) r)
theorem zws:∀(A acc B:List zc),zqP acc (A++B)=(zqP acc A).bind fun a=>zqP a B
 | [],acc,B=>rfl
 |f ::r,acc,B=>by
  show cond (acc.any fun y=>zpL f y) none (zqP (acc++[f]) (r++B))=(cond (acc.any fun y=>zpL f y) none (zqP (acc++[f]) r)).bind fun a=>zqP a B;rw [zws r (acc++[f]) B];cases (acc.any fun y=>zpL f y) <;> rfl
theorem zyR:∀(A acc a:List zc),zqP acc A=some a→a=acc++A
 | [],acc,a,h=>by
  have:a=acc:=by simpa [zqP] using h.symm
  rw [this];simp
 |f ::r,acc,a,h=>by
  have h:cond (acc.any fun y=>zpL f y) none (zqP (acc++[f]) r)=some a:=h
  cases hb:(acc.any fun y=>zpL f y) with
  |true=>rw [hb] at h;cases h
  |false =>
   rw [hb] at h;rw [zyR r (acc++[f]) a h];simp
theorem zBz{f y:zc}(h:zpL f y=true):zpL y f=true:=by
 unfold zpL at h ⊢;simp only [Qd,beq_iff_eq] at h ⊢;exact ⟨h.1.symm,by rw [zvt];exact h.2⟩
theorem zBA(f:zc):zpL f f=false:=by
 unfold zpL zl3;simp
theorem zt6:∀(A acc:List zc),(∃f∈A,∃y∈acc++A,zpL f y=true)→zqP acc A=none
 | [],acc,⟨f,hf,_⟩=>by cases hf
 |f ::r,acc,⟨g,hg,y,hy,hb⟩=>by
  show cond (acc.any fun y=>zpL f y) none (zqP (acc++[f]) r)=none
  cases ha:(acc.any fun y=>zpL f y) with
  |true=>rfl
  |false =>
   rw [Qq] at ha;show zqP (acc++[f]) r=none;refine zt6 r (acc++[f]) ?_
   have hy2:y∈(acc++[f])++r:=by simpa using hy
   rcases Qr.1 hg with e |e
   ·subst e
    rcases Qu.1 hy with k |k
    ·exact absurd hb (ha y k)
    ·rcases Qr.1 k with e |e
     ·subst e;rw [zBA] at hb;cases hb
     ·exact ⟨y,e,g,by simp,zBz hb⟩
   ·exact ⟨g,e,y,hy2,hb⟩
theorem zt7:∀(A acc:List zc),(∀f∈A,∀y∈acc++A,zpL f y=false)→zqP acc A=some (acc++A)
 | [],acc,_=>by simp [zqP]
 |f ::r,acc,h=>by
  show cond (acc.any fun y=>zpL f y) none (zqP (acc++[f]) r)=_
  have ha:(acc.any fun y=>zpL f y)=false:=by
   rw [Qq];intro y hy;rw [h f (by simp) y (by simp [hy])];simp
  rw [ha];show zqP (acc++[f]) r=_;rw [zt7 r (acc++[f]) fun g hg y hy=>h g (by simp [hg]) y (by simpa using hy)];simp
theorem zBu(A:List zc):zqP [] A=cond (A.any fun f=>A.any fun y=>zpL f y) none (some A):=by
 cases h:(A.any fun f=>A.any fun y=>zpL f y) with
 |true =>
  rw [QJ] at h;obtain ⟨f,hf,h⟩:=h;rw [QJ] at h;obtain ⟨y,hy,h⟩:=h;exact zt6 A [] ⟨f,hf,y,by simpa using hy,h⟩
 |false =>
  rw [Qq] at h
  have:=zt7 A [] fun f hf y hy=>by
   have h1:=h f hf;simp only [Bool.not_eq_true,Qq] at h1;simpa using h1 y (by simpa using hy)
  simpa using this
theorem zwV(x:za)(b:Bool)(hp:∀f∈x.Methods,f.Params.length≤10000)(hn:x.Methods.length≤10000):∀(r pre acc:List zc),x.Methods=pre++r→acc.length+r.length≤1000000 →
  zr (fun z=>zf6 (x,b) z.1 z.2) (acc,(pre.length:Int))=some (match zqP acc r with |some a=>.inl a |none=>.inr false)
 | [],pre,acc,e,hl=>by
  rw [Qz] at e;rw [zR];show (zf6 (x,b) acc (pre.length:Int)).bind _=_;unfold zf6;simp only;rw [←e,zfM];rfl
 |f ::r,pre,acc,e,hl=>by
  have hx:x.Methods[pre.length]?=some f:=by rw [e];simp
  have hlen:x.Methods.length=pre.length+(r.length+1):=by rw [e];simp
  simp only [Qx] at hl;rw [zR];show (zf6 (x,b) acc (pre.length:Int)).bind _=_;unfold zf6;simp only;rw [ze8 hx,zw,hx];simp only [cond_true,Qa];rw [zDK (hp f (Qc hx)) (by omega)];simp only [Qa]
  show _=some (match cond (acc.any fun y=>zpL f y) none (zqP (acc++[f]) r) with |some a=>Sum.inl a |none=>Sum.inr false)
  cases (acc.any fun y=>zpL f y) with
  |true=>rfl
  |false =>
   simp only [cond_false];rw [zbi (by simp;omega) (by simp;omega)];simp only [Qa];rw [zU (by omega)];have ih:=zwV x b hp hn r (pre++[f]) (acc++[f]) (by rw [e];simp) (by simp;omega);rw [show (pre++[f]).length=pre.length+1 by simp] at ih;exact ih
theorem zwW(h:zct l L)(hm:zaW L m)(hD:∀c∈L,zvk L c){T:List Tx}(hT:T.length≤52):∀(r pre:List Tx) (acc:List zc),T=pre++r→acc.length≤10000*pre.length →
  zr (fun z=>zf7 L m T z.1 z.2) (acc,(pre.length:Int))=some (match zqP acc (r.flatMap (zkV L)) with |some a=>.inl a |none=>.inr false)
 | [],pre,acc,e,hl=>by
  rw [Qz] at e;rw [zR];show (zf7 L m T acc (pre.length:Int)).bind _=_;unfold zf7;rw [←e,zfM];rfl
 |s ::r,pre,acc,e,hl=>by
  have hx:T[pre.length]?=some s:=by rw [e];simp
  have hlen:T.length=pre.length+(r.length+1):=by rw [e];simp
  have hd:=zuM hD s
  obtain ⟨x,b,e1,e2⟩:∃x b,zG L m s=some (x,b)∧x.Methods=zkV L s:=by
   rw [zdu hm];unfold zkV
   cases cl L s with
   |none=>exact ⟨_,_,rfl,rfl⟩
   |some x=>exact ⟨_,_,rfl,rfl⟩
  rw [zR];show (zf7 L m T acc (pre.length:Int)).bind _=_;unfold zf7;rw [ze8 hx,zw,hx];simp only [cond_true,Qa];rw [e1];simp only [Qa];have hin:=zwV x b (fun f hf=>by rw [e2] at hf;have:=(hd.2 f hf).pars.1;omega) (by rw [e2];exact hd.1) x.Methods [] acc rfl (by rw [e2];have:=hd.1;omega);rw [show (([]:List zc).length:Int)=0 from rfl] at hin;rw [hin,e2];rw [List.flatMap_cons,zws]
  cases ha:zqP acc (zkV L s) with
  |none=>rfl
  |some a =>
   simp only [Qa,zQ,Sum.elim];unfold zmz;rw [zU (by omega)]
   have hal:a.length≤10000*(pre++[s]).length:=by
    rw [zyR _ _ _ ha];simp only [Qt,Qx,Q5];have:=hd.1;omega
   have ih:=zwW h hm hD hT r (pre++[s]) a (by rw [e];simp) hal;rw [show (pre++[s]).length=pre.length+1 by simp] at ih;exact ih
theorem zD2(h:zct l L)(hm:zaW L m)(hL:znd L)(hD:∀c∈L,zvk L c){c:za}:zi8 L m c=some (zq1 L c):=by
 have h52:=zmE h c.Name;unfold zi8;rw [zq0 h hm];simp only [Qa];have ho:=zwW h hm hD h52 (zfs L c.Name) [] [] rfl (by simp);rw [show (([]:List Tx).length:Int)=0 from rfl] at ho;rw [ho]
 show (some (match zqP [] (zBi L c.Name) with |some a=>Sum.inl a |none=>Sum.inr false):Option (Sum (List zc) Bool)).bind _=_
 rw [zBu];unfold zq1
 cases hb:((zBi L c.Name).any fun f=>(zBi L c.Name).any fun y=>zpL f y) with
 |true=>rfl
 |false =>
  simp only [cond_false,Qa,zQ,QB,QD];unfold zmA
  have hlen:(zBi L c.Name).length≤10000*52:=by
   unfold zBi
   have:∀T:List Tx,(T.flatMap (zkV L)).length≤10000*T.length:=fun T=>by
    induction T with
    |nil=>simp
    |cons s T ih =>
     rw [List.flatMap_cons,Qt,Qx];have:=(zuM hD s).1;omega
   have:=this (zfs L c.Name);omega
  rw [zEx h hm hL hD (c:=c) (T:=zBi L c.Name) (by omega) (fun f hf=>by
   unfold zBi at hf;obtain ⟨s,hs,hf⟩:=Yg.1 hf;have:=((zuM hD s).2 f hf).pars.1
   omega)]
  cases c.Interface <;> rfl
end
section
variable {l L : List za} {m : List (Tx × Int)}
def zuD(L:List za):Int:=cond (L.any fun c=>!zod L c) 4 (cond (L.any fun c=>!(zv6 L c&&zq1 L c)) 1 0)
theorem zso(h:zct l L)(p:za→Bool):((L.map (·.Name)).any fun n=>p (zjZ L n))=L.any p:=by
 have hnd:Nd L:=h.nd;rw [List.any_map,Jd,QJ,QJ];constructor
 ·rintro ⟨c,hc,k⟩;refine ⟨c,hc,?_⟩
  have:zjZ L c.Name=c:=by unfold zjZ;rw [hnd.cl hc];rfl
  simpa [Function.comp,this] using k
 ·rintro ⟨c,hc,k⟩;refine ⟨c,hc,?_⟩
  have:zjZ L c.Name=c:=by unfold zjZ;rw [hnd.cl hc];rfl
  simpa [Function.comp,this] using k
theorem zqI(h:zct l L){i:Nat}{n:Tx}(hn:(L.map (·.Name))[i]?=some n):∃c,c∈L∧cl L n=some c∧c.Name=n∧zjZ L n=c:=by
 have hnd:Nd L:=h.nd;rw [Jc] at hn
 cases hc:L[i]? with
 |none=>rw [hc] at hn;cases hn
 |some c =>
  rw [hc] at hn
  have e:c.Name=n:=by simpa using hn
  have hcm:=Qc hc
  have h2:cl L n=some c:=by rw [←e];exact hnd.cl hcm
  exact ⟨c,hcm,h2,e,by unfold zjZ;rw [h2];rfl⟩
theorem zB3(h:zct l L)(hm:zaW L m)(hL:znd L)(hD:∀c∈L,zvk L c):zgt (some (zq.mk L m))=some (zuD L):=by
 have h26:=h.len;unfold zgt;simp only [zt1];rw [zpn (by omega)];simp only [Qa]
 rw [show zr (fun z=>zfi (zq.mk L m) (L.map (·.Name)) z) 0=some (zqf () ((L.map (·.Name)).findSome? (fun n=>cond (!zod L (zjZ L n)) (some 4) none))) from zeq (fun i n hn=>by
  have hi:=(Qb.1 hn).1;rw [QQ] at hi;obtain ⟨c,c1,c2,c3,c4⟩:=zqI h hn;have hs:=(hD c c1).small;show zfi (zq.mk L m) (L.map (·.Name)) (i:Int)=_;unfold zfi;rw [ze8 hn,zw,hn];simp only [cond_true,Qa];rw [zdu hm,c2];simp only [Qa];rw [zCT h hm hL hs.fields hs.methods,zU (by omega),c4]
  cases zod L c <;> rfl) (by
  show zfi (zq.mk L m) (L.map (·.Name)) ((L.map (·.Name)).length:Int)=_;unfold zfi
  rw [zfM];rfl),zcK,zso h (fun c=>!zod L c)]
 unfold zuD
 cases (L.any fun c=>!zod L c) with
 |true=>rfl
 |false =>
  simp only [cond_false,zqf,Qa,zQ];unfold zl5;simp only;rw [zpn (by omega)];simp only [Qa]
  rw [show zr (fun z=>zfj (zq.mk L m) (L.map (·.Name)) z) 0=some (zqf () ((L.map (·.Name)).findSome? (fun n=>cond (!(zv6 L (zjZ L n)&&zq1 L (zjZ L n))) (some 1) none))) from zeq (fun i n hn=>by
   have hi:=(Qb.1 hn).1;rw [QQ] at hi;obtain ⟨c,c1,c2,c3,c4⟩:=zqI h hn;have hs:=(hD c c1).small;show zfj (zq.mk L m) (L.map (·.Name)) (i:Int)=_;unfold zfj;rw [ze8 hn,zw,hn];simp only [cond_true,Qa];rw [zdu hm,c2];simp only [Qa];rw [zuW h hm (fun s=>(zuM hD s).1) (by rw [c3];exact zh4 c2) hs.methods,zD2 h hm hL hD,zU (by omega),c4]
   cases zv6 L c <;> cases zq1 L c <;> rfl) (by
   show zfj (zq.mk L m) (L.map (·.Name)) ((L.map (·.Name)).length:Int)=_;unfold zfj
   rw [zfM];rfl),zcK,zso h (fun c=>!(zv6 L c&&zq1 L c))]
  cases (L.any fun c=>!(zv6 L c&&zq1 L c)) <;> rfl
def vN(L:List za)(n:Tx)(k:Int):Bool:=(zjr (some (zbI.mk L)) n k).getD false
theorem zF1(h:zct l L)(hm:zaW L m)(hL:znd L)(n:Tx)(k:Int):zcj (some (zq.mk L m)) n k=some (vN L n k)∧zoP L n k=some (vN L n k):=by
 obtain ⟨v,v1,v2⟩:=zBa h hm hL n k
 have e:vN L n k=v:=by unfold vN;rw [v2];rfl
 rw [e];exact ⟨v1,v2⟩
def zGR(L:List za)(c:za)(k:Nat):Bool:=match c.Methods[k]? with |some f=>!f.Abstract&&!vN L c.Name (k:Int) |none=>false
def zE8(L:List za)(c:za):Bool:=(List.range c.Methods.length).any (zGR L c)
theorem zFb(h:zct l L)(hm:zaW L m)(hL:znd L){e:Int}{c:za}(hc:c.Methods.length≤10000):zr (fun z=>zf4 (some (zq.mk L m),e) c z) 0=some (zqf () (cond (zE8 L c) (some (none,5)) none)):=by
 unfold zE8;rw [←zcK]
 exact zsC (fun k hk=>by
  have hf:c.Methods[k]?=some c.Methods[k]:=Qe hk;show zf4 (some (zq.mk L m),e) c (k:Int)=_;unfold zf4 zGR;rw [ze8 hf,zw,hf];simp only [cond_true,Qa];rw [(zF1 h hm hL c.Name (k:Int)).1,zU (by omega)]
  cases (c.Methods[k]).Abstract <;> cases vN L c.Name (k:Int) <;> rfl) (by
  show zf4 (some (zq.mk L m),e) c (c.Methods.length:Int)=_;unfold zf4
  rw [zfM];rfl)
theorem zDS(h:zct l L)(hm:zaW L m)(hL:znd L)(hn:∀c∈l,c.Methods.length≤10000){e:Int}:zr (fun z=>zf5 l (some (zq.mk L m),e) z) 0=some (zqf () (cond (l.any (zE8 L)) (some (none,5)) none)):=by
 have h16:=h.few;rw [←zcK]
 exact zeq (fun i c hc=>by
  have hi:=(Qb.1 hc).1;show zf5 l (some (zq.mk L m),e) (i:Int)=_;unfold zf5;rw [ze8 hc,zw,hc];simp only [cond_true,Qa];rw [zFb h hm hL (hn c (Qc hc))];unfold zmy;rw [zU (by omega)]
  cases zE8 L c <;> rfl) (by
  show zf5 l (some (zq.mk L m),e) (l.length:Int)=_;unfold zf5
  rw [zfM];rfl)
theorem zuA(e:z8):zk7 e=some (z8.mk (e.C.take 12) (e.M.take 12)):=by
 unfold zk7;rw [show (12:Int)=((12:Nat):Int) from rfl,zen,zen];rfl
end
theorem zgF{α β S U R:Type}{body:S→Option (Sum S (Sum U R))}(mk:β→Int→S)(fi:β→U){l:List α}{f:β→α→β}{I:β→Nat→Prop}
  (hb:∀(i:Nat) x b,I b i→l[i]?=some x→body (mk b (i:Int))=some (.inl (mk (f b x) ((i+1:Nat):Int)))∧I (f b x) (i+1))
  (he:∀b,I b l.length→body (mk b (l.length:Int))=some (.inr (.inl (fi b)))) {b0:β} (h0:I b0 0):
  zr body (mk b0 0)=some (.inl (fi (l.foldl f b0)))∧I (l.foldl f b0) l.length:=by
 have key:∀(r pre:List α) (b:β),l=pre++r→I b pre.length→zr body (mk b (pre.length:Int))=some (.inl (fi (r.foldl f b)))∧I (r.foldl f b) l.length:=by
  intro r
  induction r with
  |nil =>
   intro pre b e hI;rw [Qz] at e;subst e;rw [zR,he b hI];exact ⟨rfl,hI⟩
  |cons x r ih =>
   intro pre b e hI
   have hx:l[pre.length]?=some x:=by rw [e];simp
   obtain ⟨h1,h2⟩:=hb pre.length x b hI hx;rw [zR,h1];have:=ih (pre++[x]) (f b x) (by rw [e];simp) (by rw [Qt];exact h2);rw [show (pre++[x]).length=pre.length+1 by simp] at this;exact this
 exact key l [] b0 rfl h0
theorem zxm:∀(d:Nat) (a x b:List Tx),x.length≤d→(a++x++b).length≤1000000 →
  zr (fun z=>zau z.1 z.2.1 z.2.2) (a++x++b,((a.length:Nat):Int),(a.length:Int)+(x.length:Int)-1)=some (.inl (a++x.reverse++b))
 |d,a,x,b,hd,hl=>by
  rw [zR];show (zau (a++x++b) (a.length:Int) ((a.length:Int)+(x.length:Int)-1)).bind _=_;unfold zau;by_cases h2:x.length<2
  ·rw [decide_eq_false (by omega)]
   have e:x.reverse=x:=by
    match x,h2 with
    | [],_=>rfl
    | [y],_=>rfl
   rw [e];rfl
  ·rw [decide_eq_true (by omega)]
   obtain ⟨p,q,y,e⟩:∃p q y,x=p ::(y++[q]):=by
    match x,h2 with
    |p ::r,h2 =>
     have hr:r≠[]:=fun e=>by subst e;simp at h2
     exact ⟨p,r.getLast hr,r.dropLast,by rw [List.dropLast_concat_getLast hr]⟩
   subst e
   have hx:(p ::(y++[q])).length=y.length+2:=by simp
   have hJ:(a.length:Int)+((p ::(y++[q])).length:Int)-1=((a.length+y.length+1:Nat):Int):=by rw [hx];omega
   rw [hJ,zw,zw]
   have g1:(a++p ::(y++[q])++b)[a.length+y.length+1]?=some q:=by
    rw [show a++p ::(y++[q])++b=(a++p ::y)++(q ::b) by simp,Qn (by simp;omega)];rw [show a.length+y.length+1-(a++p ::y).length=0 by simp;omega];rfl
   have g2:(a++p ::(y++[q])++b)[a.length]?=some p:=by
    rw [QX,Qn (Qg _),Nat.sub_self];rfl
   have s1:(a++p ::(y++[q])++b).set a.length q=(a++q ::y)++(q ::b):=by
    rw [QX,Yv _ _ (Qg _),Nat.sub_self];simp
   have s2:((a++q ::y)++(q ::b)).set (a.length+y.length+1) p=(a++[q])++y++(p ::b):=by
    rw [Yv _ _ (by simp;omega),show a.length+y.length+1-(a++q ::y).length=0 by simp;omega];simp
   have g3:((a++q ::y)++(q ::b))[a.length+y.length+1]?=some q:=by
    rw [Qn (by simp;omega),show a.length+y.length+1-(a++q ::y).length=0 by simp;omega];rfl
   rw [g1,g2];simp only [cond_true,Qa,JL];rw [s1,zw,g3];simp only [Qa];rw [s2];rw [Qt,Qt,hx] at hl
   cases d with
   |zero=>rw [hx] at hd;omega
   |succ d =>
    have ih:=zxm d (a++[q]) y (p ::b) (by rw [hx] at hd;omega) (by simp only [Qt,Qx,Q5];omega);rw [zU (by omega),znG (by omega) (by omega)]
    have e1:((a++[q]).length:Int)=((a.length+1:Nat):Int):=by simp
    have e2:((a++[q]).length:Int)+(y.length:Int)-1=((a.length+y.length+1:Nat):Int)-1:=by rw [e1];omega
    rw [e2,e1] at ih;show zr (fun z=>zau z.1 z.2.1 z.2.2) ((a++[q])++y++(p ::b),((a.length+1:Nat):Int),((a.length+y.length+1:Nat):Int)-1)=_;rw [ih];simp
theorem zyw{l:List Tx}(h:l.length≤1000000):zb4 l=some l.reverse:=by
 unfold zb4;rw [znG (by omega) (by omega)];have:=zxm l.length [] l [] (Qg _) (by simpa using h);simp only [Jx,Qz,Q5] at this;rw [show ((0:Nat):Int)+(l.length:Int)-1=(l.length:Int)-1 by omega] at this;rw [show (0:Int)=((0:Nat):Int) from rfl,this];rfl
def nmF(n x:Tx):Tx:=n++[46]++x
def wF(n:Tx)(a:List Tx)(f:zj):List Tx:=cond (!f.Static) (a++[nmF n f.Name]) a
def wC(a:List Tx)(c:za):List Tx:=c.Fields.foldl (wF c.Name) a
def zBd(cs:List za):List Tx:=cs.foldl wC []
def sF(a:List Tx)(f:zc):List Tx:=cond (((!f.Static)&&(!f.Abstract))&&!(a.any fun y=>f.Name == y)) (a++[f.Name]) a
def sC(a:List Tx)(c:za):List Tx:=c.Methods.foldl sF a
def zwm(cs:List za):List Tx:=cs.foldl sC []
theorem zwU{α β:Type}{f:List β→α→List β}(h:∀a x,∃t,f a x=a++t):∀(l:List α) (a:List β),∃t,l.foldl f a=a++t
 | [],a=>⟨[],by simp⟩
 |x ::r,a=>by
  obtain ⟨t,e⟩:=h a x;obtain ⟨u,k⟩:=zwU h r (f a x);exact ⟨t++u,by rw [Jl,k,e,QX]⟩
section
variable {l L : List za} {m : List (Tx × Int)} {t me st : List Tx}
def ziC(L:List za)(n:Tx):List za:=(zea L n).reverse.map (zjZ L)
theorem zuo(h:zct l L){n:Tx}{c:za}(hc:c∈ziC L n):c∈L∧c.Name∈zea L n:=by
 unfold ziC at hc;obtain ⟨x,hx,e⟩:=QS.1 hc;rw [List.mem_reverse] at hx;obtain ⟨d,hd⟩:=zgX (zjt h _ n x hx).1
 have:zjZ L x=d:=by unfold zjZ;rw [hd];rfl
 rw [this] at e;subst e;exact ⟨(zbK hd).1,by rw [(zbK hd).2];exact hx⟩
theorem zun(h:zct l L)(n:Tx):(ziC L n).length≤26:=by
 unfold ziC;rw [QQ,List.length_reverse];exact zfI h n
theorem zzo(h:zct l L)(hm:zaW L m)(n:Tx):zfx L m t me st n=some (ziC L n):=by
 have h26:=zfI h n;unfold zfx;rw [zis h hm];simp only [Qa];rw [zyw (by omega)];simp only [Qa]
 have hl:=(zgF (β:=List za) (S:=List za×Int) (U:=List za) (R:=List za) (body:=fun z=>zcb L m (zea L n).reverse z.1 z.2) (fun b i=>(b,i)) (fun b=>b)
  (l:=(zea L n).reverse) (f:=fun a x=>a++[zjZ L x]) (I:=fun b i=>b.length=i∧i≤(zea L n).length) (fun i x b hI hx=>by
   have hi:=(Qb.1 hx).1;rw [List.length_reverse] at hi;obtain ⟨c,hc⟩:=zgX (zjt h _ n x (List.mem_reverse.1 (Qc hx))).1
   have e:zjZ L x=c:=by unfold zjZ;rw [hc];rfl
   refine ⟨?_,by simp [hI.1],by omega⟩;show zcb L m (zea L n).reverse b (i:Int)=_;unfold zcb;rw [ze8 hx,zw,hx];simp only [cond_true,Qa];rw [zdu hm,hc];simp only [Qa];rw [zbi (by simp;omega) (by simp;omega),zU (by omega),e]
   rfl) (fun b hI=>by
   show zcb L m (zea L n).reverse b ((zea L n).reverse.length:Int)=_;unfold zcb
   rw [zfM];rfl) (b0:=[]) ⟨rfl,Qv _⟩).1
 rw [show zr (fun z=>zcb L m (zea L n).reverse z.1 z.2) ([],0)=_ from hl]
 have e:∀(r:List Tx) (a:List za),r.foldl (fun a x=>a++[zjZ L x]) a=a++r.map (zjZ L):=by
  intro r
  induction r with
  |nil=>intro a;simp
  |cons x r ih=>intro a;rw [Jl,ih];simp
 rw [e];rfl
theorem zCW{c:za}(hc:zdt c){k:Nat}{a:List Tx}(ha:a.length≤10000*k)(hk:k≤1000):
  zr (fun z=>zbP c z.1 z.2) (a,0)=some (.inl (wC a c))∧(wC a c).length≤10000*(k+1):=by
 have hF:=hc.fields.len
 have:=zgF (β:=List Tx) (S:=List Tx×Int) (U:=List Tx) (R:=List Tx) (body:=fun z=>zbP c z.1 z.2) (fun b i=>(b,i)) (fun b=>b)
  (l:=c.Fields) (f:=wF c.Name) (I:=fun b i=>b.length≤10000*k+i∧i≤c.Fields.length) (fun i x b hI hx=>by
   have hi:=(Qb.1 hx).1;have hn:=hc.name;have hxn:=(hc.fields.all x (Qc hx)).name;unfold FS at hn hxn;have hI1:=hI.1;constructor
   ·show zbP c b (i:Int)=_;unfold zbP zfb wF;rw [ze8 hx,zw,hx,zhx (by simp;omega)];simp only [cond_true,Qa];rw [zhx (by simp;omega)];simp only [Qa];rw [zbi (by simp;omega) (by simp;omega),zU (by omega)];cases x.Static <;> rfl
   ·refine ⟨?_,by omega⟩;unfold wF
    cases x.Static <;> simp <;> omega) (fun b hI=>by
   show zbP c b (c.Fields.length:Int)=_;unfold zbP
   rw [zfM];rfl) (b0:=a) ⟨ha,Qv _⟩
 refine ⟨this.1,?_⟩;have h2:=this.2.1;show (c.Fields.foldl (wF c.Name) a).length≤_;omega
theorem zCV(h:zct l L)(hm:zaW L m)(hF:∀c∈L,zdt c)(n:Tx):ze3 L m t me st n=some (zBd (ziC L n))∧(zBd (ziC L n)).length≤260000:=by
 have h26:=zun h n;unfold ze3;rw [zzo h hm];simp only [Qa]
 have:=zgF (β:=List Tx) (S:=List Tx×Int) (U:=List Tx) (R:=List Tx) (body:=fun z=>zbQ (ziC L n) z.1 z.2) (fun b i=>(b,i)) (fun b=>b)
  (l:=ziC L n) (f:=wC) (I:=fun b i=>b.length≤10000*i∧i≤(ziC L n).length) (fun i x b hI hx=>by
   have hi:=(Qb.1 hx).1;obtain ⟨w1,w2⟩:=zCW (hF x (zuo h (Qc hx)).1) hI.1 (by omega);refine ⟨?_,w2,by omega⟩;show zbQ (ziC L n) b (i:Int)=_;unfold zbQ;rw [ze8 hx,zw,hx];simp only [cond_true,Qa];rw [w1];show some (Sum.inl (wC b x,IntKind.i64.wrap ((i:Int)+1)))=_
   rw [zU (by omega)]) (fun b hI=>by
   show zbQ (ziC L n) b ((ziC L n).length:Int)=_;unfold zbQ
   rw [zfM];rfl) (b0:=[]) ⟨Qv _,Qv _⟩
 rw [show zr (fun z=>zbQ (ziC L n) z.1 z.2) ([],0)=_ from this.1];refine ⟨rfl,?_⟩;have h2:=this.2.1;show ((ziC L n).foldl wC []).length≤_;omega
theorem zCB{c:za}(hc:zdt c){k:Nat}{a:List Tx}(ha:a.length≤10000*k)(hk:k≤1000):
  zr (fun z=>zbN c z.1 z.2) (a,0)=some (.inl (sC a c))∧(sC a c).length≤10000*(k+1):=by
 have hF:=hc.methods.len
 have:=zgF (β:=List Tx) (S:=List Tx×Int) (U:=List Tx) (R:=List Tx) (body:=fun z=>zbN c z.1 z.2) (fun b i=>(b,i)) (fun b=>b)
  (l:=c.Methods) (f:=sF) (I:=fun b i=>b.length≤10000*k+i∧i≤c.Methods.length) (fun i x b hI hx=>by
   have hi:=(Qb.1 hx).1;have hI1:=hI.1;constructor
   ·show zbN c b (i:Int)=_;unfold zbN zfa sF;rw [ze8 hx,zw,hx];simp only [cond_true,Qa];rw [ztf (by unfold zlm;omega),zbi (by simp;omega) (by simp;omega),zU (by omega)];cases x.Static <;> cases x.Abstract <;> cases (b.any fun y=>x.Name == y) <;> rfl
   ·refine ⟨?_,by omega⟩;unfold sF
    cases (((!x.Static)&&(!x.Abstract))&&!(b.any fun y=>x.Name == y)) <;> simp <;> omega) (fun b hI=>by
   show zbN c b (c.Methods.length:Int)=_;unfold zbN
   rw [zfM];rfl) (b0:=a) ⟨ha,Qv _⟩
 refine ⟨this.1,?_⟩;have h2:=this.2.1;show (c.Methods.foldl sF a).length≤_;omega
theorem zCA(h:zct l L)(hm:zaW L m)(hF:∀c∈L,zdt c)(n:Tx):zgv L m t me st n=some (zwm (ziC L n))∧(zwm (ziC L n)).length≤260000:=by
 have h26:=zun h n;unfold zgv;rw [zzo h hm];simp only [Qa]
 have:=zgF (β:=List Tx) (S:=List Tx×Int) (U:=List Tx) (R:=List Tx) (body:=fun z=>zbO (ziC L n) z.1 z.2) (fun b i=>(b,i)) (fun b=>b)
  (l:=ziC L n) (f:=sC) (I:=fun b i=>b.length≤10000*i∧i≤(ziC L n).length) (fun i x b hI hx=>by
   have hi:=(Qb.1 hx).1;obtain ⟨w1,w2⟩:=zCB (hF x (zuo h (Qc hx)).1) hI.1 (by omega);refine ⟨?_,w2,by omega⟩;show zbO (ziC L n) b (i:Int)=_;unfold zbO;rw [ze8 hx,zw,hx];simp only [cond_true,Qa];rw [w1];show some (Sum.inl (sC b x,IntKind.i64.wrap ((i:Int)+1)))=_
   rw [zU (by omega)]) (fun b hI=>by
   show zbO (ziC L n) b ((ziC L n).length:Int)=_;unfold zbO
   rw [zfM];rfl) (b0:=[]) ⟨Qv _,Qv _⟩
 rw [show zr (fun z=>zbO (ziC L n) z.1 z.2) ([],0)=_ from this.1];refine ⟨rfl,?_⟩;have h2:=this.2.1;show ((ziC L n).foldl sC []).length≤_;omega
def zwz:Nat→List Tx→Tx→List Tx
 | 0,a,t=>a
 |d+1,a,t=>cond ((zfg t).2&&!(a.any fun y=>t == y)) (zwz d (a++[t]) (zfg t).1) a
def zC4(a:List Tx)(t:Tx):List Tx:=zwz t.length a t
theorem zss{t:Tx}(h:(zfg t).2=true):(zfg t).1.length+1=t.length∧zgm t=true:=by
 unfold zfg at h ⊢
 cases hc:(zgm t&&brk t) with
 |false=>rw [hc] at h;cases h
 |true =>
  rw [Qd] at hc;have:=(zkM hc.2).2
  have h2:0<t.length:=by rw [this];simp
  exact ⟨by simp;omega,hc.1⟩
theorem zsp:∀(d:Nat) (a:List Tx) (t:Tx),t.length=d→a.length+d≤1000000000000→Len t →
  zr (fun z=>zfc z.1 z.2.1 z.2.2.1 z.2.2.2) (a,t,(zfg t).1,(zfg t).2)=some (.inl (zwz d a t))
 |d,a,t,hd,ha,hl=>by
  rw [zR];show (zfc a t (zfg t).1 (zfg t).2).bind _=_;unfold zfc
  cases h2:(zfg t).2 with
  |false =>
   have e:zwz d a t=a:=by
    cases d with
    |zero=>rfl
    |succ d=>unfold zwz;rw [h2];rfl
   rw [e];rfl
  |true =>
   obtain ⟨k1,k2⟩:=zss h2
   cases d with
   |zero=>omega
   |succ d =>
    unfold zwz;rw [ztf (by unfold zlm;omega),h2]
    cases hh:(a.any fun y=>t == y) with
    |true=>rfl
    |false =>
     have hl2:Len (zfg t).1:=by unfold Len at *;omega
     simp only [cond_true,Qa,QB,QD];rw [zbi (by simp;omega) (by simp;omega),zgp hl2];exact zsp d (a++[t]) (zfg t).1 (by omega) (by simp;omega) hl2
theorem zwA:∀(d:Nat) (a:List Tx) (t:Tx),a.length≤(zwz d a t).length∧(zwz d a t).length≤a.length+d
 | 0,a,t=>⟨Qg _,Qg _⟩
 |d+1,a,t=>by
  unfold zwz
  cases ((zfg t).2&&!(a.any fun y=>t == y)) with
  |false=>simp
  |true =>
   have:=zwA d (a++[t]) (zfg t).1;simp only [Qt,Qx,Q5] at this;simp only [cond_true];omega
theorem zs2(a:List Tx)(t:Tx):(zC4 a t).length≤a.length+25:=by
 unfold zC4
 cases h:(zfg t).2 with
 |false =>
  have e:zwz t.length a t=a:=by
   cases t.length with
   |zero=>rfl
   |succ d=>unfold zwz;rw [h];rfl
  rw [e];omega
 |true =>
  have h1:=zmS (zss h).2;have h2:=zwA t.length a t;omega
theorem zrf{a:List Tx}{x:Tx}(ha:a.length≤900000000000)(hx:FS x):zdC L m a me st x=some (zC4 a x):=by
 unfold FS at hx;unfold zdC
 have hl:Len x:=by unfold Len;omega
 rw [zgp hl];simp only [Qa];rw [zsp x.length a x rfl (by omega) hl];rfl
def zBn(a:List Tx)(x:zn):List Tx:=cond (x.Op == (50:Int)) (zC4 a (zvx x.C)) (cond ((x.Op == (56:Int))||(x.Op == (57:Int))) (zC4 a x.C) a)
theorem zBZ(a:List Tx)(x:zn):(zBn a x).length≤a.length+25:=by
 unfold zBn;have h1:=zs2 a (zvx x.C);have h2:=zs2 a x.C
 cases (x.Op == (50:Int)) <;> cases ((x.Op == (56:Int))||(x.Op == (57:Int))) <;> simp only [cond_true,cond_false] <;> omega
theorem zBy{C:Tx}(h:C.length≤1000):(zvx C).length≤1001:=by
 unfold zvx;cases zgm (91 ::C) <;> simp <;> omega
theorem zto{a:List Tx}{x:zn}(ha:a.length≤900000000000)(hx:x.C.length≤25):zhs L m a me st x=some (zBn a x):=by
 have h1:=zBy (C:=x.C) (by omega);unfold zhs zfY zBn;rw [zlH (by omega),zrf ha (by unfold FS;omega)];simp only [Qa];rw [zrf ha (by unfold FS;omega)];cases (x.Op == (50:Int)) <;> cases (x.Op == (56:Int)) <;> cases (x.Op == (57:Int)) <;> rfl
def nF(n:Tx)(p:List Tx×List Tx)(f:zj):List Tx×List Tx:=(zC4 p.1 f.Type_,cond f.Static (p.2++[nmF n f.Name]) p.2)
def nM(n:Tx)(p:List Tx×List Tx)(f:zc):List Tx×List Tx:=(f.Code.foldl zBn p.1,p.2++[nmF n f.Name])
def nC(p:List Tx×List Tx×List Tx)(c:za):List Tx×List Tx×List Tx:=
 let q:=c.Fields.foldl (nF c.Name) (p.1,p.2.2)
 let r:=c.Methods.foldl (nM c.Name) (q.1,p.2.1)
 (r.1,r.2,q.2)
def zmc(L:List za):List Tx×List Tx×List Tx:=L.foldl nC (L.map (·.Name)++[[91,73]],[],[])
theorem ar1{A B D i K1 K2 K:Nat}(hK:K1+K2≤K)(h1:A≤B+K1+K2)(h2:B≤D+K*i):A≤D+K*(i+1):=
 QI h1 (by rw [Nat.mul_succ,←QN,QN B];exact Nat.add_le_add h2 hK)
theorem ar2{A B i:Nat}(h1:A≤B+10000)(h2:B≤10000*i):A≤10000*(i+1):=by omega
theorem ar3{A B C i K:Nat}(h1:A≤B+K)(h2:B≤C+K*i):A≤C+K*(i+1):=
 QI h1 (by rw [Nat.mul_succ,←QN];exact Nat.add_le_add_right h2 K)
theorem zCd{x:zq}{f:zc}(hf:zBr f){a:List Tx}(ha:a.length≤800000000000):
  zr (fun z=>zeH x st f me z.1 z.2) (a,0)=some (.inl (f.Code.foldl zBn a))∧(f.Code.foldl zBn a).length≤a.length+250000:=by
 have hF:=hf.code.1
 have:=zgF (β:=List Tx) (S:=List Tx×Int) (U:=List Tx) (R:=List za×List (Tx×Int)×List Tx×List Tx×List Tx) (body:=fun z=>zeH x st f me z.1 z.2) (fun b i=>(b,i)) (fun b=>b)
  (l:=f.Code) (f:=zBn) (I:=fun b i=>b.length≤a.length+25*i∧i≤f.Code.length) (fun i y b hI hx=>by
   have hi:=(Qb.1 hx).1;have hI1:=hI.1;have hl:=zBZ b y;refine ⟨?_,by omega,by omega⟩;show zeH x st f me b (i:Int)=_;unfold zeH;rw [ze8 hx,zw,hx];simp only [cond_true,Qa];rw [zto (by omega) (hf.code.2 y (Qc hx)),zU (by omega)]
   rfl) (fun b hI=>by
   show zeH x st f me b (f.Code.length:Int)=_;unfold zeH
   rw [zfM];rfl) (b0:=a) ⟨Qg _,Qv _⟩
 refine ⟨this.1,?_⟩;have h2:=this.2.1;omega
theorem zyh{x:zq}{n:Tx}{c:za}{b:Bool}(hn:FS n)(hc:zdt c){a:List Tx×List Tx}(ha:a.1.length≤700000000000)(ha2:a.2.length≤1000000):
  zr (fun z=>zeG x me n (c,b) z.1 z.2.1 z.2.2) (a.1,a.2,0)=some (.inl (c.Fields.foldl (nF n) a))∧(c.Fields.foldl (nF n) a).1.length≤a.1.length+250000∧(c.Fields.foldl (nF n) a).2.length≤a.2.length+10000:=by
 have hF:=hc.fields.len
 have:=zgF (β:=List Tx×List Tx) (S:=List Tx×List Tx×Int) (U:=List Tx×List Tx) (R:=List za×List (Tx×Int)×List Tx×List Tx×List Tx) (body:=fun z=>zeG x me n (c,b) z.1 z.2.1 z.2.2) (fun b i=>(b.1,b.2,i)) (fun b=>b)
  (l:=c.Fields) (f:=nF n) (I:=fun b i=>b.1.length≤a.1.length+25*i∧b.2.length≤a.2.length+i∧i≤c.Fields.length) (fun i y b hI hx=>by
   have hi:=(Qb.1 hx).1;have hI1:=hI.1;have hI2:=hI.2.1;have hy:=hc.fields.all y (Qc hx);have hyn:=hy.name;unfold FS at hn hyn;have hl:=zs2 b.1 y.Type_;refine ⟨?_,?_,?_,by omega⟩
   ·show zeG x me n (c,_) b.1 b.2 (i:Int)=_;unfold zeG zi1;simp only;rw [ze8 hx,zw,hx];simp only [cond_true,Qa];rw [zrf (by omega) hy.type,zhx (by simp;omega)];simp only [Qa];rw [zhx (by simp;omega)];simp only [Qa];rw [zbi (by simp;omega) (by simp;omega),zU (by omega)];unfold nF;cases y.Static <;> rfl
   ·show (zC4 b.1 y.Type_).length≤_;omega
   ·show (cond y.Static (b.2++[nmF n y.Name]) b.2).length≤_
    cases y.Static <;> simp <;> omega) (fun b hI=>by
   show zeG x me n (c,_) b.1 b.2 (c.Fields.length:Int)=_;unfold zeG;simp only
   rw [zfM];rfl) (b0:=a) ⟨Qg _,Qg _,Qv _⟩
 refine ⟨this.1,?_,?_⟩
 ·have h2:=this.2.1;omega
 ·have h2:=this.2.2.1;omega
theorem zv3{x:zq}{n:Tx}{c:za}{b:Bool}(hn:FS n)(hc:zdt c)(hs:∀f∈c.Methods,zBr f){a:List Tx×List Tx}(ha:a.1.length≤700000000000)(ha2:a.2.length≤1000000):
  zr (fun z=>zeI x n (c,b) st z.1 z.2.1 z.2.2) (a.1,a.2,0)=some (.inl (c.Methods.foldl (nM n) a))∧(c.Methods.foldl (nM n) a).1.length≤a.1.length+2500000000∧(c.Methods.foldl (nM n) a).2.length≤a.2.length+10000:=by
 have hF:=hc.methods.len
 have:=zgF (β:=List Tx×List Tx) (S:=List Tx×List Tx×Int) (U:=List Tx×List Tx) (R:=List za×List (Tx×Int)×List Tx×List Tx×List Tx) (body:=fun z=>zeI x n (c,b) st z.1 z.2.1 z.2.2) (fun b i=>(b.1,b.2,i)) (fun b=>b)
  (l:=c.Methods) (f:=nM n) (I:=fun b i=>b.1.length≤a.1.length+250000*i∧b.2.length≤a.2.length+i∧i≤c.Methods.length) (fun i y b hI hx=>by
   have hi:=(Qb.1 hx).1;have hI1:=hI.1;have hI2:=hI.2.1;have hy:=hc.methods.all y (Qc hx);have hyn:=hy.name;unfold FS at hn hyn;obtain ⟨l1,l2⟩:=zCd (x:=x) (st:=st) (me:=b.2++[nmF n y.Name]) (hs y (Qc hx)) (a:=b.1) (by omega);refine ⟨?_,ar3 l2 hI1,?_,Nat.succ_le_of_lt hi⟩
   ·clear l2;show zeI x n (c,_) st b.1 b.2 (i:Int)=_;unfold zeI;simp only;rw [ze8 hx,zw,hx,zhx (by simp;omega)];simp only [cond_true,Qa];rw [zhx (by simp;omega)];simp only [Qa];rw [zbi (by simp;omega) (by simp;omega)];simp only [Qa];rw [show zr (fun z=>zeH x st y (b.2++[n++[46]++y.Name]) z.1 z.2) (b.1,0)=_ from l1];show some (Sum.inl (_,_,IntKind.i64.wrap ((i:Int)+1)))=_;rw [zU (by omega)];rfl
   ·show (b.2++[nmF n y.Name]).length≤_;clear l1 l2
    simp;omega) (fun b hI=>by
   show zeI x n (c,_) st b.1 b.2 (c.Methods.length:Int)=_;unfold zeI;simp only
   rw [zfM];rfl) (b0:=a) ⟨Qg _,Qg _,Qv _⟩
 refine ⟨this.1,?_,?_⟩
 ·have h2:=this.2.1;omega
 ·have h2:=this.2.2.1;omega
theorem zlM(h:zct l L)(hm:zaW L m)(hF:∀c∈L,zdt c)(hD:∀c∈L,zvk L c):
  zh7 (some (zq.mk L m))=some (L,m,zmc L)∧(zmc L).1.length≤70000000000∧(zmc L).2.1.length≤260000∧(zmc L).2.2.length≤260000:=by
 have h26:=h.len;unfold zh7;simp only [zt1];rw [zpn (by omega)];simp only [Qa];rw [zbi (by simp;omega) (by simp;omega)];simp only [Qa];have hlen:(L.map (·.Name)).length=L.length:=QQ ..
 have:=zgF (β:=List Tx×List Tx×List Tx) (S:=List Tx×List Tx×List Tx×Int) (U:=List Tx×List Tx×List Tx) (R:=List za×List (Tx×Int)×List Tx×List Tx×List Tx) (body:=fun z=>zfP (zq.mk L m) (L.map (·.Name)) z.1 z.2.1 z.2.2.1 z.2.2.2) (fun b i=>(b.1,b.2.1,b.2.2,i)) (fun b=>b)
  (l:=L.map (·.Name)) (f:=fun p n=>nC p (zjZ L n)) (I:=fun b i=>b.1.length≤27+2600000000*i∧b.2.1.length≤10000*i∧b.2.2.length≤10000*i∧i≤L.length) (fun i n b hI hx=>by
   have hi:=(Qb.1 hx).1;rw [hlen] at hi;obtain ⟨c,c1,c2,c3,c4⟩:=zqI h hx;subst c3;obtain ⟨i1,i2,i3,i4⟩:=hI;have hc:=hF c c1;have hs:=(hD c c1).small;obtain ⟨f1,f2,f3⟩:=zyh (x:=zq.mk L m) (me:=b.2.1) (b:=true) hc.name hc (a:=(b.1,b.2.2)) (by show b.1.length≤_;omega) (by show b.2.2.length≤_;omega);have g2:(c.Fields.foldl (nF c.Name) (b.1,b.2.2)).1.length≤b.1.length+250000:=f2;have g3:(c.Fields.foldl (nF c.Name) (b.1,b.2.2)).2.length≤b.2.2.length+10000:=f3;obtain ⟨m1,m2,m3⟩:=zv3 (x:=zq.mk L m) (st:=(c.Fields.foldl (nF c.Name) (b.1,b.2.2)).2) (b:=true) hc.name hc hs.methods.2 (a:=((c.Fields.foldl (nF c.Name) (b.1,b.2.2)).1,b.2.1)) (by show (c.Fields.foldl (nF c.Name) (b.1,b.2.2)).1.length≤_;omega) (by show b.2.1.length≤_;omega);rw [c4];refine ⟨?_,ar1 (by decide) (QI m2 (Nat.add_le_add_right g2 _)) i1,ar2 m3 i2,ar2 f3 i3,Nat.succ_le_of_lt hi⟩;clear m2 m3 f2 f3 g2 g3;show zfP (zq.mk L m) (L.map (·.Name)) b.1 b.2.1 b.2.2 (i:Int)=_;unfold zfP;rw [ze8 hx,zw,hx];simp only [cond_true,Qa];rw [zdu hm,c2];simp only [Qa];rw [show zr (fun z=>zeG (zq.mk L m) b.2.1 c.Name (c,true) z.1 z.2.1 z.2.2) (b.1,b.2.2,0)=_ from f1];simp only [Qa,zQ];unfold zn0;rw [show zr (fun z=>zeI (zq.mk L m) c.Name (c,true) (c.Fields.foldl (nF c.Name) (b.1,b.2.2)).2 z.1 z.2.1 z.2.2) ((c.Fields.foldl (nF c.Name) (b.1,b.2.2)).1,b.2.1,0)=_ from m1];show some (Sum.inl (_,_,_,IntKind.i64.wrap ((i:Int)+1)))=_;rw [zU (by omega)]
   rfl) (fun b hI=>by
   show zfP (zq.mk L m) (L.map (·.Name)) b.1 b.2.1 b.2.2 ((L.map (·.Name)).length:Int)=_;unfold zfP
   rw [zfM];rfl) (b0:=(L.map (·.Name)++[[91,73]],[],[])) ⟨by simp;omega,Qv _,Qv _,Qv _⟩
 have e:(L.map (·.Name)).foldl (fun p n=>nC p (zjZ L n)) (L.map (·.Name)++[[91,73]],[],[])=zmc L:=by
  unfold zmc;rw [List.foldl_map];have hnd:Nd L:=h.nd
  have:∀(r:List za) p,(∀c∈r,c∈L)→r.foldl (fun p c=>nC p (zjZ L c.Name)) p=r.foldl nC p:=by
   intro r
   induction r with
   |nil=>intro p _;rfl
   |cons c r ih =>
    intro p hr;rw [Jl,Jl]
    have:zjZ L c.Name=c:=by unfold zjZ;rw [hnd.cl (hr c (by simp))];rfl
    rw [this];exact ih _ (fun d hd=>hr d (by simp [hd]))
  exact this L _ (fun c hc=>hc)
 rw [e] at this;rw [show zr (fun z=>zfP (zq.mk L m) (L.map (·.Name)) z.1 z.2.1 z.2.2.1 z.2.2.2) (L.map (·.Name)++[[91,73]],[],[],0)=_ from this.1];obtain ⟨i1,i2,i3,i4⟩:=this.2;rw [hlen] at i1 i2 i3;exact ⟨rfl,by omega,by omega,by omega⟩
end
section
variable {l L : List za} {m : List (Tx × Int)}
theorem zzc(hf:∀c∈l,zdt c)(e:z8):∃(r:Int) (m:List (Tx×Int)) (o:Option (List za)),zdR l e=some (o.map (fun L=>zq.mk L m),r)∧(∀L,o=some L→zct l L∧zaW L m∧zuD L=0)∧(o=none→r≠0):=by
 have hc:∀c∈l,zE1 c:=fun c hc=>(hf c hc).cg;obtain ⟨m,hm,he⟩:=zvJ hc;unfold zdR;rw [he];simp only [Qa]
 cases hE:(zyf l).1 with
 |none =>
  have h0:=zz6 hE;refine ⟨(zyf l).2,m,none,?_,(fun L h=>by cases h),fun _=>h0⟩;have:((zyf l).2 == (0:Int))=false:=beq_eq_false_iff_ne.2 h0;rw [this];rfl
 |some L =>
  obtain ⟨hM,hz⟩:=zz5 hE;have hmp:=hm L hE;have hF:=zvX hM hf;have hL:znd L:=zpU hF;have hD:∀c∈L,zvk L c:=fun c hc=>zDT hM hF hc;rw [hz];simp only [QG,beq_self_eq_true,Qp,cond_false];rw [zB3 hM hmp hL hD];simp only [Qa]
  cases h0:(zuD L == (0:Int)) with
  |false=>exact ⟨zuD L,m,none,rfl,(fun L h=>by cases h),fun _=>beq_eq_false_iff_ne.1 h0⟩
  |true =>
   simp only [Qp,cond_false];rw [show zj8 (some (zq.mk L m)) e.C e.M=zfR L m e.C e.M from rfl,zmT hM hmp hL];simp only [Qa];generalize ((zea L e.C).findSome? (znp L za2 e.M)).getD ([],zM,false)=V
   cases ((((!V.2.2)||(!V.2.1.Static))||(decide (0<(List.length V.2.1.Params:Int))))||(!(V.2.1.Ret == [86]))) with
   |true=>exact ⟨4,m,none,rfl,(fun L h=>by cases h),(fun _=>by decide)⟩
   |false =>
    simp only [cond_false];rw [zDS hM hmp hL (fun c hc=>(hf c hc).methods.len)]
    cases l.any (zE8 L) with
    |true=>exact ⟨5,m,none,rfl,(fun L h=>by cases h),(fun _=>by decide)⟩
    |false=>exact ⟨0,m,some L,rfl,fun L' h=>by cases h;exact ⟨hM,hmp,eq_of_beq h0⟩,fun h=>by cases h⟩
end
theorem zFe(l:List za)(e:z8):zj4 (zav.mk l e [] 0)=some (zav.mk (zqy l) (z8.mk (e.C.take 12) (e.M.take 12)) [] 0):=by
 unfold zj4;simp only;have h1:(zkS ([]:List Int) 0 (if 30<((([]:List Int).length:Nat):Int) then 30 else ((([]:List Int).length:Nat):Int)))=some []:=rfl;have h2:zhj 4 ([]:List Int) []=some []:=zbi (by simp) (by simp);have h3:zFX 0 600=some 0:=rfl;have h4:zFX (IntKind.i64.wrap (0+600)) 600=some 0:=rfl;rw [h1];simp only [Qa];rw [h2,h3];simp only [Qa];rw [h4,zvP,zuA];rfl
section
variable {l L L2 : List za} {m m2 d : List (Tx × Int)} {t me st s : List Tx} {v : List (Tx × zu)}
theorem zhH{l:List (List UInt8)}(hl:zlm l)(n:List UInt8):z6 l n=some (ixF (fun y=>n == y) 0 l):=by
 unfold z6;exact zaz (p:=fun y:List UInt8=>n == y) hl (fun i x hx=>by unfold za0;rw [ze8 hx,zw,hx];rfl) (by unfold za0;rw [zfM];rfl)
theorem zri{x:List Tx}(h:x.length≤8000000000000):zkx x=some x:=by
 unfold zkx;rw [zbi (by simp;omega) (by simp;omega)];simp
theorem zoZ(ht:t.length≤70000000000)(n:Tx):zas L m t me st n=some (ixF (fun y=>n == y) 0 t):=by
 unfold zas zgx;rw [zri (by omega)];simp only [Qa];rw [zhH (by omega)];rfl
theorem zsz(hm:me.length≤1000000){c n:Tx}(hc:c.length≤1000000)(hn:n.length≤1000000):zcm L m t me st c n=some (ixF (fun y=>nmF c n == y) 0 me):=by
 unfold zcm zfv;rw [zri (by omega)];simp only [Qa];rw [zhx (by simp;omega)];simp only [Qa];rw [zhx (by simp;omega)];simp only [Qa];rw [zhH (by omega)];rfl
theorem zya(hm:st.length≤1000000){c n:Tx}(hc:c.length≤1000000)(hn:n.length≤1000000):zdk L m t me st c n=some (ixF (fun y=>nmF c n == y) 0 st):=by
 unfold zdk zhd;rw [zri (by omega)];simp only [Qa];rw [zhx (by simp;omega)];simp only [Qa];rw [zhx (by simp;omega)];simp only [Qa];rw [zhH (by omega)];rfl
theorem zB6(h:zct l L)(hm:zaW L m)(hF:∀c∈L,zdt c)(c n:Tx):zc4 L m t me st c n=some (ixF (fun y=>n == y) 0 (zwm (ziC L c))):=by
 obtain ⟨s1,s2⟩:=zCA (t:=t) (me:=me) (st:=st) h hm hF c;unfold zc4;rw [s1];simp only [Qa];rw [zhH (by omega)];rfl
def zDc(L:List za)(c n:Tx):FR:=((zea L c).findSome? (zvn L n)).getD ([],zF,false)
theorem zzy(hF:∀c∈L,zdt c)(c n:Tx):FS (zDc L c n).1∧FS (zDc L c n).2.1.Type_:=by
 unfold zDc
 cases hh:(zea L c).findSome? (zvn L n) with
 |none=>exact ⟨Qv _,Qv _⟩
 |some r =>
  obtain ⟨x,hx,e⟩:=Q2 hh;unfold zvn at e
  cases hc:cl L x with
  |none=>rw [hc] at e;cases e
  |some k =>
   rw [hc] at e;simp only at e;obtain ⟨k1,k2⟩:=zbK hc
   cases hf:k.Fields.find? (fun y=>y.Name == n) with
   |none=>rw [hf] at e;cases e
   |some f =>
    rw [hf] at e;simp only [Option.some.injEq] at e;subst e;exact ⟨by show FS x;rw [←k2];exact (hF k k1).name,((hF k k1).fields.all f (QY hf)).type⟩
theorem zzW(hF:∀c∈L,zdt c){q:zc→Bool}{n:Tx}{T:List Tx}:FS ((T.findSome? (znp L q n)).getD ([],zM,false)).1:=by
 cases hh:T.findSome? (znp L q n) with
 |none=>exact Qv _
 |some r =>
  obtain ⟨x,hx,e⟩:=Q2 hh;unfold znp at e
  cases hc:cl L x with
  |none=>rw [hc] at e;cases e
  |some k =>
   rw [hc] at e;simp only at e;obtain ⟨k1,k2⟩:=zbK hc
   cases hf:k.Methods.find? (fun y=>y.Name == n) with
   |none=>rw [hf] at e;cases e
   |some f =>
    rw [hf] at e;simp only at e
    cases hq:q f with
    |false=>rw [hq] at e;cases e
    |true =>
     rw [hq] at e;simp only [cond_true,Option.some.injEq] at e;subst e;show FS x;rw [←k2];exact (hF k k1).name
theorem zD1(hF:∀c∈L,zdt c)(c n:Tx):FS (zoo L c n).1:=by
 unfold zoo
 cases isF L c with
 |false=>exact Qv _
 |true=>exact zzW hF
theorem zB7(h:zct l L)(hm:zaW L m)(hF:∀c∈L,zdt c){c n:Tx}(hn:n.length≤1000000):zed L m t me st c n=some (ixF (fun y=>nmF (zDc L c n).1 n == y) 0 (zBd (ziC L c))):=by
 obtain ⟨s1,s2⟩:=zCV (t:=t) (me:=me) (st:=st) h hm hF c;have hf:=(zzy hF c n).1;unfold FS at hf;unfold zed;rw [zpc h hm (zpU hF)];simp only [Qa];rw [s1];simp only [Qa];have e:(((zea L c).findSome? (zvn L n)).getD ([],zF,false)).1=(zDc L c n).1:=rfl;rw [e,zhx (by simp;omega)];simp only [Qa];rw [zhx (by simp;omega)];simp only [Qa];rw [zhH (by omega)];rfl
def zDg(L:List za)(d:List (Tx×Int))(n:Tx):Bool:=decide (0≤ixF (fun y:zc=>y.Name == [36,105,110,105,116]) 0 (match cl L n with |some c=>c.Methods |none=>[]))&&!((zcl n d).getD 0 == (2:Int))
theorem zEe(hm:zaW L m)(hF:∀c∈L,zdt c)(n:Tx):zkA n L m L2 m2 d v s=some (zDg L d n):=by
 unfold zkA zDg zgk;rw [zdu hm]
 cases hc:cl L n with
 |none=>rfl
 |some c =>
  simp only [Qa];rw [zmw (hF c (zbK hc).1).methods.le];rfl
theorem zEf(hm:zaW L m)(hF:∀c∈L,zdt c){T:List Tx}(hT:T.length≤1000):zaq T L m L2 m2 d v s=some (T.any (zDg L d)):=by
 unfold zaq zde
 rw [show ((zr (fun z=>zbv T L m L2 m2 d v s z) 0).bind fun o=>zQ o (fun b=>zeT) some)=_ from zaz (p:=zDg L d) (l:=T) (by omega)
  (fun i x hx=>by
   unfold zbv;rw [ze8 hx,zw,hx];simp only [Qa,cond_true];rw [zEe hm hF]
   rfl) (by unfold zbv;rw [zfM];rfl)]
 rw [Qa,zem]
def zBT(L:List za)(d:List (Tx×Int))(t:List Tx)(n:Tx):Int:=cond (!((zea L n).any (zDg L d))) (-1) (ixF (fun y=>n == y) 0 t)
theorem zBV(h:zct l L)(hm:zaW L m)(hF:∀c∈L,zdt c)(ht:t.length≤70000000000)(n:Tx):znj L m L m t me st L2 m2 d v s n=some (zBT L d t n):=by
 have:=zfI h n;unfold znj zBT;rw [zis h hm];simp only [Qa];rw [zEf hm hF (by omega)];simp only [Qa];rw [zoZ ht];cases (zea L n).any (zDg L d) <;> rfl
theorem zrO(h:zct l L)(hm:zaW L m)(hF:∀c∈L,zdt c)(ht:t.length≤70000000000)(n:Tx):zeU L m L m t me st L2 m2 d v s n=some (zBT L d t n):=by
 unfold zeU;rw [zBV h hm hF ht];rfl
structure zCZ(t me st:List Tx):Prop where
 t:t.length≤70000000000
 me:me.length≤1000000
 st:st.length≤1000000
def OkI(L:List za)(d:List (Tx×Int))(t:List Tx)(x:zn)(r:Option zew):Prop:=
 ∃a c,r=some (zew.mk x.Op x.A a c)∧((∀n,zBT L d t n=-1)→(x.Op=37∨x.Op=40∨x.Op=41∨x.Op=42)→c=-1)
theorem zsF{x:zn}{a c:Int}(h:¬(x.Op=37∨x.Op=40∨x.Op=41∨x.Op=42)):OkI L d t x (zaN x a c):=⟨a,c,rfl,fun _ h2=>absurd h2 h⟩
theorem zAa{x:zn}{a c:Int}(h:(∀n,zBT L d t n=-1)→c=-1):OkI L d t x (zaN x a c):=⟨a,c,rfl,fun g _=>h g⟩
theorem zDO(h:zct l L)(hm:zaW L m)(hF:∀c∈L,zdt c)(hl:zCZ t me st){x:zn}(hc:x.C.length≤25)(hM:FS x.M):
  ∃a c,zhK L m L m t me st L2 m2 d v s x=some (a,c)∧((∀n,zBT L d t n=-1)→x.Op=42→c=-1):=by
 unfold FS at hM;unfold zhK zgu;rw [zmT h hm (zpU hF)];have hV:=zzW (L:=L) hF (q:=za2) (n:=x.M) (T:=zea L x.C);have hW:=zD1 hF x.C x.M;unfold FS at hV hW;simp only [Qa];rw [zsz hl.me (by omega) (by omega),zrO h hm hF hl.t,zB6 h hm hF,zvC h hm (zpU hF)];simp only [Qa];rw [zsz hl.me (by omega) (by omega)]
 cases h42:(x.Op == (42:Int)) with
 |true=>exact ⟨_,_,rfl,fun g _=>g _⟩
 |false =>
  have hn:¬x.Op=42:=fun e=>by rw [e] at h42;cases h42
  cases h43:(x.Op == (43:Int)) with
  |true=>exact ⟨_,_,rfl,fun _ e=>absurd e hn⟩
  |false =>
   cases h45:(x.Op == (45:Int)) with
   |true=>exact ⟨_,_,rfl,fun _ e=>absurd e hn⟩
   |false=>exact ⟨_,_,rfl,fun _ e=>absurd e hn⟩
theorem zFm(hl:zCZ t me st){x:zn}{b:Bool}(hn:¬(x.Op=37∨x.Op=40∨x.Op=41∨x.Op=42)):OkI L d t x (zfr L m t me st x b):=by
 unfold zfr;rw [zoZ hl.t]
 cases b with
 |true=>exact zsF hn
 |false=>exact zsF hn
theorem zB2(h:zct l L)(hm:zaW L m)(hF:∀c∈L,zdt c)(hl:zCZ t me st){x:zn}(hc:x.C.length≤25)(hM:FS x.M){b:Bool}(hb:x.Op=42→b=true)(hn:¬(x.Op=37∨x.Op=40∨x.Op=41)):
  OkI L d t x (zc3 L m L m t me st L2 m2 d v s x b):=by
 unfold zc3;obtain ⟨a,c,e,g⟩:=zDO (d:=d) (v:=v) (s:=s) (L2:=L2) (m2:=m2) h hm hF hl hc hM;rw [e,zoZ hl.t,zlH (by omega)];simp only [Qa];rw [zoZ hl.t]
 cases b with
 |true=>exact ⟨a,c,rfl,fun g1 g2=>g g1 (by
   rcases g2 with e |e |e |e
   ·exact absurd (.inl e) hn
   ·exact absurd (.inr (.inl e)) hn
   ·exact absurd (.inr (.inr e)) hn
   ·exact e)⟩
 |false =>
  have hn':¬(x.Op=37∨x.Op=40∨x.Op=41∨x.Op=42):=fun g2=>by
   rcases g2 with e |e |e |e
   ·exact hn (.inl e)
   ·exact hn (.inr (.inl e))
   ·exact hn (.inr (.inr e))
   ·cases hb e
  cases (x.Op == (49:Int)) with
  |true=>exact zsF hn'
  |false =>
   cases (x.Op == (50:Int)) with
   |true=>exact zsF hn'
   |false =>
    cases (x.Op == (56:Int)) with
    |true=>simp only [cond_true,cond_false];exact zFm hl hn'
    |false=>simp only [cond_true,cond_false];exact zFm hl hn'
theorem zFl(h:zct l L)(hm:zaW L m)(hF:∀c∈L,zdt c)(hl:zCZ t me st){x:zn}(hc:x.C.length≤25)(hM:FS x.M){b:Bool}(hb:x.Op=40∨x.Op=41→b=true)(hn:¬x.Op=37):
  OkI L d t x (zfq L m L m t me st L2 m2 d v s x b):=by
 unfold zfq;rw [zpc h hm (zpU hF)];have hf:=(zzy hF x.C x.M).1;unfold FS at hf hM;simp only [Qa];have e:(((zea L x.C).findSome? (zvn L x.M)).getD ([],zF,false)).1=(zDc L x.C x.M).1:=rfl;rw [e,zya hl.st (by omega) (by omega),zrO h hm hF hl.t]
 cases b with
 |true=>exact zAa (fun g=>g _)
 |false =>
  have hn':¬(x.Op=37∨x.Op=40∨x.Op=41):=fun g2=>by
   rcases g2 with e |e |e
   ·exact hn e
   ·cases hb (.inl e)
   ·cases hb (.inr e)
  cases h42:(x.Op == (42:Int)) with
  |true=>simp only [cond_true,cond_false];exact zB2 h hm hF hl hc hM (fun _=>rfl) hn'
  |false =>
   have h42':∀{b:Bool},x.Op=42→b=true:=fun e=>by rw [e] at h42;cases h42
   cases (x.Op == (43:Int)) with
   |true=>simp only [cond_true,cond_false];exact zB2 h hm hF hl hc hM h42' hn'
   |false =>
    cases (x.Op == (44:Int)) with
    |true=>simp only [cond_true,cond_false];exact zB2 h hm hF hl hc hM h42' hn'
    |false=>simp only [cond_true,cond_false];exact zB2 h hm hF hl hc hM h42' hn'
theorem zFk(h:zct l L)(hm:zaW L m)(hF:∀c∈L,zdt c)(hl:zCZ t me st){x:zn}(hc:x.C.length≤25)(hM:FS x.M){b:Bool}(hb:b=true→x.Op=38∨x.Op=39)(hn:¬x.Op=37):
  OkI L d t x (zfp L m L m t me st L2 m2 d v s x b):=by
 unfold zfp;rw [zpc h hm (zpU hF)];have hf:=(zzy hF x.C x.M).2;have hM':=hM;unfold FS at hf hM';simp only [Qa];have e:(((zea L x.C).findSome? (zvn L x.M)).getD ([],zF,false)).2.1=(zDc L x.C x.M).2.1:=rfl;rw [e,zB7 h hm hF (by omega),ziF (by unfold Len;omega)]
 cases b with
 |true =>
  have hn':¬(x.Op=37∨x.Op=40∨x.Op=41∨x.Op=42):=fun g2=>by
   rcases hb rfl with e |e <;> rw [e] at g2 <;> omega
  simp only [cond_true,Qa]
  cases zsf (zDc L x.C x.M).2.1.Type_ with
  |true=>exact zsF hn'
  |false=>exact zsF hn'
 |false =>
  cases h40:(x.Op == (40:Int)) with
  |true=>simp only [cond_true,cond_false];exact zFl h hm hF hl hc hM (fun _=>rfl) hn
  |false =>
   simp only [cond_true,cond_false];refine zFl h hm hF hl hc hM (fun e=>?_) hn
   rcases e with e |e
   ·rw [e] at h40;cases h40
   ·rw [e];rfl
theorem zFL(h:zct l L)(hm:zaW L m)(hF:∀c∈L,zdt c)(hl:zCZ t me st){x:zn}(hc:x.C.length≤25)(hM:FS x.M):
  OkI L d t x (ze1 L m L m t me st L2 m2 d v s x):=by
 unfold ze1;rw [zoZ hl.t,zrO h hm hF hl.t]
 cases h37:(x.Op == (37:Int)) with
 |true=>exact zAa (fun g=>g _)
 |false =>
  have hn:¬x.Op=37:=fun e=>by rw [e] at h37;cases h37
  cases h38:(x.Op == (38:Int)) with
  |true=>simp only [cond_true,cond_false];exact zFk h hm hF hl hc hM (fun _=>.inl (eq_of_beq h38)) hn
  |false=>simp only [cond_true,cond_false];exact zFk h hm hF hl hc hM (fun e=>.inr (eq_of_beq e)) hn
def zrK(t:List Tx)(y:zT):zfX:=zfX.mk y.From y.To y.At (cond (!(y.C == [])) (ixF (fun z=>y.C == z) 0 t) (-1))
theorem zte{α β:Type}(g:α→β):∀(r:List α) (a:List β),r.foldl (fun a x=>a++[g x]) a=a++r.map g
 | [],a=>by simp
 |x ::r,a=>by rw [Jl,zte g r];simp
theorem zzY(h:zct l L)(hm:zaW L m)(hF:∀c∈L,zdt c)(hD:∀c∈L,zvk L c)(hl:zCZ t me st){c:za}(hc:c∈L){k:Nat}{f:zc}(hf:c.Methods[k]?=some f):
  ∃g:zn→zew,zhT (some (zq.mk L m)) L m t me st L2 m2 d v s c.Name (k:Int)=some (zbh.mk (zb0 f) f.Locals f.Stack (!(f.Ret == [86])) (f.Code.map g) (f.Traps.map (zrK t))) ∧
   ∀x∈f.Code,OkI L d t x (some (g x)):=by
 have hk:=(Qb.1 hf).1;have hfm:=Qc hf;have hM:=(hF c hc).methods.all f hfm;have hml:=(hF c hc).methods.len;have hS:=((hD c hc).small.methods.2 f hfm);have hcl:cl L c.Name=some c:=(show Nd L from h.nd).cl hc;have one:∀x∈f.Code,OkI L d t x (ze1 L m L m t me st L2 m2 d v s x):=fun x hx=>zFL h hm hF hl (hS.code.2 x hx) (hM.code.all x hx).m;refine ⟨fun x=>(ze1 L m L m t me st L2 m2 d v s x).getD (zew.mk 0 0 0 0),?_,fun x hx=>?_⟩
 ·unfold zhT;simp only [zt1];rw [zdu hm,hcl];simp only [Qa];rw [decide_eq_false (by omega),decide_eq_false (by omega),zw,hf];simp only [Qa,Bool.or_self,cond_false];have hcl:=hM.code.len
  have hl1:=(zgF (β:=List zew) (S:=List zew×Int) (U:=List zew) (R:=zbh) (body:=fun z=>zfN L m t me st L2 m2 d v s (zq.mk L m) f z.1 z.2) (fun b i=>(b,i)) (fun b=>b)
   (l:=f.Code) (f:=fun a x=>a++[(ze1 L m L m t me st L2 m2 d v s x).getD (zew.mk 0 0 0 0)]) (I:=fun b i=>b.length=i∧i≤f.Code.length) (fun i x b hI hx=>by
    have hi:=(Qb.1 hx).1;obtain ⟨a,y,e,_⟩:=one x (Qc hx);refine ⟨?_,by simp [hI.1],by omega⟩;show zfN L m t me st L2 m2 d v s (zq.mk L m) f b (i:Int)=_;unfold zfN;rw [ze8 hx,zw,hx];simp only [cond_true,Qa];rw [e];simp only [Qa,Jo];rw [zbi (by simp;omega) (by simp;omega),zU (by omega)]
    rfl) (fun b hI=>by
    show zfN L m t me st L2 m2 d v s (zq.mk L m) f b (f.Code.length:Int)=_;unfold zfN
    rw [zfM];rfl) (b0:=[]) ⟨rfl,Qv _⟩).1
  rw [show zr (fun z=>zfN L m t me st L2 m2 d v s (zq.mk L m) f z.1 z.2) ([],0)=_ from hl1];simp only [Qa,zQ];unfold znP;have htl:=hM.traps.len
  have hl2:=(zgF (β:=List zfX) (S:=List zfX×Int) (U:=List zfX) (R:=zbh) (body:=fun z=>zfO L m t me st f z.1 z.2) (fun b i=>(b,i)) (fun b=>b)
   (l:=f.Traps) (f:=fun a x=>a++[zrK t x]) (I:=fun b i=>b.length=i∧i≤f.Traps.length) (fun i x b hI hx=>by
    have hi:=(Qb.1 hx).1;refine ⟨?_,by simp [hI.1],by omega⟩;show zfO L m t me st f b (i:Int)=_;unfold zfO ziZ zrK;rw [ze8 hx,zw,hx];simp only [cond_true,Qa];rw [zoZ hl.t];simp only [Qa];rw [zbi (by simp;omega) (by simp;omega),zbi (by simp;omega) (by simp;omega),zU (by omega)]
    cases (x.C == []) <;> rfl) (fun b hI=>by
    show zfO L m t me st f b (f.Traps.length:Int)=_;unfold zfO
    rw [zfM];rfl) (b0:=[]) ⟨rfl,Qv _⟩).1
  rw [show zr (fun z=>zfO L m t me st f z.1 z.2) ([],0)=_ from hl2];rw [zte,zte];rfl
 ·obtain ⟨a,y,e,g⟩:=one x hx;exact ⟨a,y,by simp only [];rw [e];rfl,g⟩
def StD(L:List za)(i k:Nat)(d:List (Tx×Int)):Prop:=∀(j:Nat) n,j<i→(L.map (·.Name))[j]?=some n→∃x,zcl n d=some x∧(j<k→x=2)
theorem zFZ{i k:Nat}{n:Tx}{x:Int}(h:zct l L)(hn:(L.map (·.Name))[i]?=some n)(hk:i<k→x=2)(hd:StD L i k d):StD L (i+1) k (zch n x d):=by
 intro j n' hj hn';rw [zjQ];by_cases e:n'=n
 ·subst e;rw [if_pos rfl];refine ⟨x,rfl,fun hjk=>hk ?_⟩
  have:j=i:=by
   rw [Jc] at hn hn'
   cases h1:L[i]? with
   |none=>rw [h1] at hn;cases hn
   |some c1 =>
    cases h2:L[j]? with
    |none=>rw [h2] at hn';cases hn'
    |some c2 =>
     rw [h1] at hn;rw [h2] at hn'
     exact h.nd j i c2 c1 h2 h1 (by
      have e1:c1.Name=n':=by simpa using hn
      have e2:c2.Name=n':=by simpa using hn'
      rw [e1,e2])
  omega
 ·rw [if_neg e];refine hd j n' ?_ hn'
  have:j≠i:=fun e2=>by subst e2;rw [hn] at hn';cases hn';exact e rfl
  omega
theorem zFn{a b:Tx}(ha:a.length≤1000000)(hb:b.length≤1000000):zki a b=some (nmF a b):=by
 unfold zki;rw [zhx (by simp;omega)];simp only [Qa];rw [zhx (by simp;omega)];rfl
theorem zFG{c:za}{b:Bool}{n:Tx}(hn:FS n)(hc:zdt c){a:List (Tx×zu)×List Tx}(ha:a.2.length≤1000000):
  ∃z,zr (fun z=>zgq n (c,b) z.1 z.2.1 z.2.2) (a.1,a.2,0)=some (.inl z)∧z.2.length≤a.2.length+10000:=by
 have hF:=hc.fields.len
 have:=zgF (β:=List (Tx×zu)×List Tx) (S:=List (Tx×zu)×List Tx×Int) (U:=List (Tx×zu)×List Tx) (R:=List za×List (Tx×Int)×List (Tx×Int)×List (Tx×zu)×List Tx) (body:=fun z=>zgq n (c,b) z.1 z.2.1 z.2.2) (fun b i=>(b.1,b.2,i)) (fun b=>b)
  (l:=c.Fields) (f:=fun a f=>cond f.Static (zch (nmF n f.Name) (zu.mk (zsf f.Type_) 0) a.1,a.2++[nmF n f.Name]) a) (I:=fun b i=>b.2.length≤a.2.length+i∧i≤c.Fields.length) (fun i y b hI hx=>by
   have hi:=(Qb.1 hx).1;have hI1:=hI.1;have hy:=hc.fields.all y (Qc hx);have hyn:=hy.name;have hyt:=hy.type;unfold FS at hn hyn hyt;refine ⟨?_,?_,by omega⟩
   ·show zgq n (c,_) b.1 b.2 (i:Int)=_;unfold zgq zkJ;simp only;rw [ze8 hx,zw,hx];simp only [cond_true,Qa];rw [zFn (by omega) (by omega),ziF (by unfold Len;omega)];simp only [Qa];rw [zbi (by simp;omega) (by simp;omega),zU (by omega)];cases y.Static <;> rfl
   ·show (cond y.Static (_,_) b).2.length≤_
    cases y.Static <;> simp <;> omega) (fun b hI=>by
   show zgq n (c,_) b.1 b.2 (c.Fields.length:Int)=_;unfold zgq;simp only
   rw [zfM];rfl) (b0:=a) ⟨Qg _,Qv _⟩
 exact ⟨_,this.1,by have:=this.2.1;omega⟩
theorem zEb:((zby.length:Nat):Int)=10:=by decide +kernel
theorem zye{i:Nat}(h:zct l L){n:Tx}(hn:(L.map (·.Name))[i]?=some n)(hd:StD L i 10 d):StD L (i+1) 10 (cond (decide ((i:Int)<10)) (zch n 2 (zch n 0 d)) (zch n 0 d)):=by
 by_cases hi:i<10
 ·rw [decide_eq_true (by omega)];intro j n' hj hn';show ∃x,zcl n' (zch n 2 (zch n 0 d))=some x∧(j<10→x=2);rw [zjQ];by_cases e:n'=n
  ·rw [if_pos e];exact ⟨2,rfl,fun _=>rfl⟩
  ·rw [if_neg e,zjQ,if_neg e];refine hd j n' ?_ hn'
   have:j≠i:=fun e2=>by subst e2;rw [hn] at hn';cases hn';exact e rfl
   omega
 ·rw [decide_eq_false (by omega)];exact zFZ h hn (fun e=>absurd e hi) hd
theorem zrE(h:zct l L)(hm:zaW L m)(hF:∀c∈L,zdt c):∃d v s,zjf (some (zq.mk L m))=some (L,m,d,v,s)∧StD L L.length 10 d:=by
 have h26:=h.len;unfold zjf;simp only [zt1];rw [zpn (by omega)];simp only [Qa];have hlen:(L.map (·.Name)).length=L.length:=QQ ..
 have key:∀(r pre:List Tx) (d:List (Tx×Int)) (v:List (Tx×zu)) (s:List Tx),L.map (·.Name)=pre++r→s.length≤10000*pre.length→StD L pre.length 10 d →
   ∃d' v' s',zr (fun z=>zgz (zq.mk L m) (L.map (·.Name)) z.1 z.2.1 z.2.2.1 z.2.2.2) (d,v,s,(pre.length:Int))=some (.inl (d',v',s'))∧StD L L.length 10 d':=by
  intro r
  induction r with
  |nil =>
   intro pre d v s e hs hd;rw [Qz] at e;refine ⟨d,v,s,?_,by rw [←hlen,e];exact hd⟩;rw [zR];show (zgz (zq.mk L m) (L.map (·.Name)) d v s (pre.length:Int)).bind _=_;unfold zgz;rw [e,zfM];rfl
  |cons n r ih =>
   intro pre d v s e hs hd
   have hx:(L.map (·.Name))[pre.length]?=some n:=by rw [e];simp
   have hpl:pre.length+(r.length+1)=L.length:=by rw [←hlen,e];simp
   obtain ⟨c,c1,c2,c3,c4⟩:=zqI h hx;have hc:=hF c c1;obtain ⟨z,z1,z2⟩:=zFG (b:=true) (n:=n) (by rw [←c3];exact hc.name) hc (a:=(v,s)) (by show s.length≤_;omega);have hz:z.2.length≤s.length+10000:=z2;obtain ⟨d',v',s',k1,k2⟩:=ih (pre++[n]) _ z.1 z.2 (by rw [e];simp) (by simp;omega) (by rw [Qt];exact zye h hx hd);refine ⟨d',v',s',?_,k2⟩;rw [zR];show (zgz (zq.mk L m) (L.map (·.Name)) d v s (pre.length:Int)).bind _=_;unfold zgz zkI;rw [ze8 hx,zw,hx,zEb];simp only [cond_true,Qa];rw [zdu hm,c2];simp only [Qa];rw [show zr (fun z=>zgq n (c,true) z.1 z.2.1 z.2.2) (v,s,0)=_ from z1];rw [show (pre++[n]).length=pre.length+1 by simp] at k1;rw [←k1]
   cases decide ((pre.length:Int)<10) with
   |true =>
    show zr _ (_,_,_,IntKind.i64.wrap ((pre.length:Int)+1))=_;rw [zU (by omega)];rfl
   |false =>
    show zr _ (_,_,_,IntKind.i64.wrap ((pre.length:Int)+1))=_;rw [zU (by omega)];rfl
 obtain ⟨d',v',s',k1,k2⟩:=key (L.map (·.Name)) [] [] [] [] rfl (Qv _) (fun j n hj=>by simp at hj);rw [show zr (fun z=>zgz (zq.mk L m) (L.map (·.Name)) z.1 z.2.1 z.2.2.1 z.2.2.2) ([],[],[],0)=_ from k1];exact ⟨d',v',s',rfl,k2⟩
end
section
variable {l L L2 : List za} {m m2 d : List (Tx × Int)} {t me st s : List Tx} {v : List (Tx × zu)}
theorem zBL{α β γ:Type}{f:β→α→β}{g:β→List γ}(h:∀a x,∃t,g (f a x)=g a++t):∀(l:List α) (a:β),∃t,g (l.foldl f a)=g a++t
 | [],a=>⟨[],by simp⟩
 |x ::r,a=>by
  obtain ⟨t,e⟩:=h a x;obtain ⟨u,k⟩:=zBL h r (f a x);exact ⟨t++u,by rw [Jl,k,e,QX]⟩
theorem zqA:∀(d:Nat) (a:List Tx) (t:Tx),∃u,zwz d a t=a++u
 | 0,a,t=>⟨[],by simp [zwz]⟩
 |d+1,a,t=>by
  unfold zwz
  cases ((zfg t).2&&!(a.any fun y=>t == y)) with
  |false=>exact ⟨[],by simp⟩
  |true =>
   obtain ⟨u,e⟩:=zqA d (a++[t]) (zfg t).1;exact ⟨t ::u,by simp only [cond_true];rw [e];simp⟩
theorem zBY(a:List Tx)(x:zn):∃u,zBn a x=a++u:=by
 unfold zBn zC4
 cases (x.Op == (50:Int)) with
 |true=>exact zqA _ _ _
 |false =>
  cases ((x.Op == (56:Int))||(x.Op == (57:Int))) with
  |true=>exact zqA _ _ _
  |false=>exact ⟨[],by simp⟩
theorem zFE(p:List Tx×List Tx×List Tx)(c:za):∃u,(nC p c).1=p.1++u:=by
 obtain ⟨u,e⟩:=zBL (f:=nF c.Name) (g:=fun q:List Tx×List Tx=>q.1) (fun a x=>zqA _ _ _) c.Fields (p.1,p.2.2);obtain ⟨w,k⟩:=zBL (f:=nM c.Name) (g:=fun q:List Tx×List Tx=>q.1) (fun a x=>zwU zBY x.Code a.1) c.Methods ((c.Fields.foldl (nF c.Name) (p.1,p.2.2)).1,p.2.1);refine ⟨u++w,?_⟩;show (c.Methods.foldl (nM c.Name) ((c.Fields.foldl (nF c.Name) (p.1,p.2.2)).1,p.2.1)).1=_;have k':(c.Methods.foldl (nM c.Name) ((c.Fields.foldl (nF c.Name) (p.1,p.2.2)).1,p.2.1)).1=(c.Fields.foldl (nF c.Name) (p.1,p.2.2)).1++w:=k;have e':(c.Fields.foldl (nF c.Name) (p.1,p.2.2)).1=p.1++u:=e;rw [k',e',QX]
theorem zx8(L:List za):∃u,(zmc L).1=L.map (·.Name)++u:=by
 obtain ⟨u,e⟩:=zBL (f:=nC) (g:=fun q:List Tx×List Tx×List Tx=>q.1) zFE L (L.map (·.Name)++[[91,73]],[],[]);have e':(zmc L).1=(L.map (·.Name)++[[91,73]])++u:=e;exact ⟨[91,73]::u,by rw [e'];simp⟩
theorem zFj{α:Type}{p:α→Bool}:∀{l:List α} {x:α},x∈l→p x=true→0≤ixF p 0 l:=by
 intro l x hx hp;have h:=zlG p l;have:(l.find? p).isSome=true:=Ya.2 ⟨x,hx,hp⟩;rw [this] at h;exact of_decide_eq_true h
theorem zCU(h:zuD L=0):∀c∈L,zod L c=true:=by
 unfold zuD at h
 cases hh:(L.any fun c=>!zod L c) with
 |true=>rw [hh] at h;cases h
 |false =>
  intro c hc;have:=Qq.1 hh c hc;simpa using this
theorem zFo(h:zct l L)(hm:zaW L m)(hF:∀c∈L,zdt c)(hD:∀c∈L,zvk L c):zCZ (zmc L).1 (zmc L).2.1 (zmc L).2.2:=by
 obtain ⟨_,h1,h2,h3⟩:=zlM h hm hF hD;exact ⟨h1,by omega,by omega⟩
theorem zEN(hD:∀c∈L,zvk L c)(hw:zuD L=0){c:za}(hc:c∈L){f:zc}(hf:f∈c.Methods){y:zT}(hy:y∈f.Traps)(hn:(y.C == [])=false):0≤ixF (fun z=>y.C == z) 0 (zmc L).1:=by
 have h1:=zCU hw c hc;unfold zod at h1;rw [Qd] at h1
 have h2:(c.Methods.any fun x=>zoF L x)=false:=by simpa using h1.2
 have h3:=Qq.1 h2 f hf;unfold zoF at h3;simp only [Qw,not_or] at h3;have h4:=h3.1.2
 have h5:zkq L y.C=false:=by
  have:(f.Traps.any fun x=>zkq L x.C)=false:=by simpa using h4
  simpa using Qq.1 this y hy
 rw [zzH ((((hD c hc).methods.2 f hf).traps).2 y hy),hn] at h5
 have h6:zeb L y.C=true:=by simpa using h5
 obtain ⟨u,e⟩:=zx8 L;refine zFj (x:=y.C) ?_ (by simp);rw [e];exact Ja _ (zj2.1 h6)
theorem znX:zj7=some true:=by kernel_rfl
theorem zCy{l:List za}(h:∀c∈l,zji c)(e:z8):zii l e=some true:=by
 unfold zii;rw [znX,zFe];simp only [Qa,Qp,cond_false];have hf:∀c∈zqy l,zdt c:=fun c hc=>(zsm h c hc).fc;obtain ⟨r,m,o,h1,h3,h4⟩:=zzc hf (z8.mk (e.C.take 12) (e.M.take 12));rw [h1];simp only [Qa]
 cases hr:(r == (0:Int)) with
 |false=>rfl
 |true =>
  simp only [Qp,cond_false]
  cases o with
  |none=>exact absurd (eq_of_beq hr) (h4 rfl)
  |some L =>
   obtain ⟨hM,hm,hlk⟩:=h3 L rfl;have hF:=zvX hM hf;have hD:∀c∈L,zvk L c:=fun c hc=>zDT hM hF hc;have h16:=hM.few;have hl:=zFo hM hm hF hD;obtain ⟨d,v,s,hs,_⟩:=zrE hM hm hF;simp only [QG];rw [(zlM hM hm hF hD).1,hs];simp only [Qa]
   rw [show zr (fun z=>zca (zav.mk (zqy l) (z8.mk (e.C.take 12) (e.M.take 12)) [] 0) (some (zq.mk L m),r) (L,m,zmc L) (L,m,d,v,s) z) 0=_ from zk9 (bad:=fun _=>false) (l:=zqy l) (by omega) (fun i c hc=>by
    have hi:=(Qb.1 hc).1;have hcm:=Qc hc
    have hcL:c∈L:=by rw [hM.app];exact Jy _ hcm
    have hml:=(hf c hcm).methods.len;show zca (zav.mk (zqy l) (z8.mk (e.C.take 12) (e.M.take 12)) [] 0) (some (zq.mk L m),r) (L,m,zmc L) (L,m,d,v,s) (i:Int)=_;unfold zca;simp only;rw [ze8 hc];simp only [cond_true,Qa]
    rw [show zr (fun z=>zb9 (zav.mk (zqy l) (z8.mk (e.C.take 12) (e.M.take 12)) [] 0) (some (zq.mk L m),r) (L,m,zmc L) (L,m,d,v,s) (i:Int) z) 0=_ from zk9 (bad:=fun _=>false) (l:=c.Methods) (by omega) (fun k f hk=>by
     have hkl:=(Qb.1 hk).1;have hfm:=Qc hk;obtain ⟨g,g1,g2⟩:=zzY (d:=d) (v:=v) (s:=s) (L2:=L) (m2:=m) hM hm hF hD hl hcL hk;have htl:=((hF c hcL).methods.all f hfm).traps.len;show zb9 (zav.mk (zqy l) (z8.mk (e.C.take 12) (e.M.take 12)) [] 0) (some (zq.mk L m),r) (L,m,zmc L) (L,m,d,v,s) (i:Int) (k:Int)=_;unfold zb9;simp only;rw [zw,hc];simp only [Qa];rw [ze8 hk,g1,zw,hk];simp only [cond_true,Qa]
     have tr:zr (fun z=>zb8 (L,m,zmc L) f (zbh.mk (zb0 f) f.Locals f.Stack (!(f.Ret == [86])) (f.Code.map g) (f.Traps.map (zrK (zmc L).1))) z) 0=_:=zk9 (bad:=fun _=>false) (l:=f.Traps) (by omega) (fun j y hy=>by
      have hjl:=(Qb.1 hy).1;show zb8 (L,m,zmc L) f (zbh.mk (zb0 f) f.Locals f.Stack (!(f.Ret == [86])) (f.Code.map g) (f.Traps.map (zrK (zmc L).1))) (j:Int)=_;unfold zb8 za5;simp only;rw [ze8 hy,zw,zw,Jc,hy];simp only [cond_true,Qa,QG];rw [zoZ hl.t];unfold zrK;simp only [beq_self_eq_true,Qp,cond_false,Qa]
      cases hn:(y.C == []) with
      |true=>rfl
      |false =>
       have hp:=zEN hD hlk hcL hfm (Qc hy) hn;simp only [QB,cond_true];have e1:(ixF (fun z=>y.C == z) 0 (zmc L).1 == (-1:Int))=false:=beq_eq_false_iff_ne.2 (by omega);rw [e1,decide_eq_true hp]
       simp only [beq_self_eq_true,Qp,cond_false,cond_true]) (by
      show zb8 (L,m,zmc L) f (zbh.mk (zb0 f) f.Locals f.Stack (!(f.Ret == [86])) (f.Code.map g) (f.Traps.map (zrK (zmc L).1))) (f.Traps.length:Int)=_;unfold zb8
      rw [zfM];rfl)
     rw [show f.Traps.any (fun _=>false)=false from Qq.2 (fun _ _=>Q7)] at tr
     have j18:∀n,n=zb0 f→zcG (L,m,zmc L) (k:Int) f (zbh.mk (zb0 f) f.Locals f.Stack (!(f.Ret == [86])) (f.Code.map g) (f.Traps.map (zrK (zmc L).1))) n=some (.inl (IntKind.i64.wrap ((k:Int)+1))):=by
      rintro n rfl;unfold zcG;rw [tr];simp only [QQ,beq_self_eq_true,Qp,Bool.or_self,cond_false];rfl
     have ea:zb0 f=cond f.Static ((f.Params.length:Nat):Int) (IntKind.i64.wrap (((f.Params.length:Nat):Int)+1)):=rfl
     cases hst:f.Static with
     |true =>
      rw [hst] at ea;simp only [Qp,cond_false];exact j18 _ ea.symm
     |false =>
      rw [hst] at ea;simp only [QB,cond_true,cond_false]
      exact j18 _ ea.symm) (by
     show zb9 (zav.mk (zqy l) (z8.mk (e.C.take 12) (e.M.take 12)) [] 0) (some (zq.mk L m),r) (L,m,zmc L) (L,m,d,v,s) (i:Int) (c.Methods.length:Int)=_;unfold zb9;simp only;rw [zw,hc];simp only [Qa]
     rw [zfM];rfl)]
    rw [show c.Methods.any (fun _=>false)=false from Qq.2 (fun _ _=>Q7)]
    rfl) (by
    show zca (zav.mk (zqy l) (z8.mk (e.C.take 12) (e.M.take 12)) [] 0) (some (zq.mk L m),r) (L,m,zmc L) (L,m,d,v,s) ((zqy l).length:Int)=_;unfold zca;simp only
    rw [zfM];rfl)]
   rw [show (zqy l).any (fun _=>false)=false from Qq.2 (fun _ _=>Q7)];rfl
theorem zBm(l:List za)(e:z8)(h:wL zji l)(_:zrN e):zan Tryz.prog 14 [.isl 6 (List.map zb l),.agg (zfA e)] (bA true):=zpj l e (zCy h.2 e)
end
section
variable {l L L2 : List za} {m m2 d : List (Tx × Int)} {t me st s : List Tx} {v : List (Tx × zu)}
theorem zBU(h:zct l L){k:Nat}(hd:StD L L.length k d)(hk:L.length≤k)(n:Tx):zBT L d t n=-1:=by
 have e:((zea L n).any (zDg L d))=false:=by
  rw [Qq];intro x hx;obtain ⟨i,hi⟩:=List.mem_iff_getElem?.1 (zwp h hx);have hlen:=(Qb.1 hi).1;rw [QQ] at hlen;obtain ⟨y,y1,y2⟩:=hd i x hlen hi;unfold zDg;rw [y1,y2 (by omega)];simp
 unfold zBT;rw [e];rfl
theorem zED{n:Tx}{y:Int}(h:zcl n d=some y):ze L2 m2 d v s n 2=zch n 2 d:=by
 unfold ze;rw [h];rfl
theorem zzn(h:zct l L){e:z8}(hd:StD L L.length 10 d):∃d',zr (fun z=>zcF (zav.mk l e [] 0) (L,m,d,v,s) z.1 z.2) (d,0)=some (.inl d')∧StD L L.length L.length d':=by
 have h16:=h.few
 have hL:L.length=10+l.length:=by rw [h.app,Qt];have:giv.length=10:=rfl;omega
 have key:∀(r pre:List za) (d1:List (Tx×Int)),l=pre++r→StD L L.length (10+pre.length) d1→∃d',zr (fun z=>zcF (zav.mk l e [] 0) (L,m,d,v,s) z.1 z.2) (d1,(pre.length:Int))=some (.inl d')∧StD L L.length L.length d':=by
  intro r
  induction r with
  |nil =>
   intro pre d1 ee hd1;rw [Qz] at ee;refine ⟨d1,?_,by rw [←ee,←hL] at hd1;exact hd1⟩;rw [zR];show (zcF (zav.mk l e [] 0) (L,m,d,v,s) d1 (pre.length:Int)).bind _=_;unfold zcF;simp only;rw [ee,zfM];rfl
  |cons c r ih =>
   intro pre d1 ee hd1
   have hx:l[pre.length]?=some c:=by rw [ee];simp
   have hpl:pre.length+(r.length+1)=l.length:=by rw [ee];simp
   have hL2:L[10+pre.length]?=some c:=by
    rw [h.app,Qn (by have:giv.length=10:=rfl;omega)];rw [show 10+pre.length-giv.length=pre.length by have:giv.length=10:=rfl;omega];exact hx
   have hnm:(L.map (·.Name))[10+pre.length]?=some c.Name:=by rw [Jc,hL2];rfl
   obtain ⟨y,y1,_⟩:=hd1 (10+pre.length) c.Name (by omega) hnm
   have hd2:StD L L.length (10+(pre++[c]).length) (zch c.Name 2 d1):=by
    intro j n' hj hn';rw [zjQ];by_cases e2:n'=c.Name
    ·rw [if_pos e2];exact ⟨2,rfl,fun _=>rfl⟩
    ·rw [if_neg e2];obtain ⟨z,z1,z2⟩:=hd1 j n' hj hn';refine ⟨z,z1,fun hlt=>z2 ?_⟩;rw [Qt] at hlt
     have:j≠10+pre.length:=fun e3=>by subst e3;rw [hnm] at hn';cases hn';exact e2 rfl
     have h1:[c].length=1:=rfl;omega
   obtain ⟨d',k1,k2⟩:=ih (pre++[c]) (zch c.Name 2 d1) (by rw [ee];simp) hd2;refine ⟨d',?_,k2⟩;rw [zR];show (zcF (zav.mk l e [] 0) (L,m,d,v,s) d1 (pre.length:Int)).bind _=_;unfold zcF;simp only;rw [ze8 hx,zw,hx];simp only [cond_true,Qa];rw [zED y1,zU (by omega)];rw [show (pre++[c]).length=pre.length+1 by simp] at k1;exact k1
 exact key l [] d rfl (by simpa using hd)
theorem zzI{l:List za}(h:∀c∈l,zji c)(e:z8):zhM l e=some true:=by
 unfold zhM;rw [znX,zFe];simp only [Qa,Qp,cond_false];have hf:∀c∈zqy l,zdt c:=fun c hc=>(zsm h c hc).fc;obtain ⟨r,m,o,h1,h3,h4⟩:=zzc hf (z8.mk (e.C.take 12) (e.M.take 12));rw [h1];simp only [Qa]
 cases hr:(r == (0:Int)) with
 |false=>rfl
 |true =>
  simp only [Qp,cond_false]
  cases o with
  |none=>exact absurd (eq_of_beq hr) (h4 rfl)
  |some L =>
   obtain ⟨hM,hm,hlk⟩:=h3 L rfl;have hF:=zvX hM hf;have hD:∀c∈L,zvk L c:=fun c hc=>zDT hM hF hc;have h16:=hM.few;have hl:=zFo hM hm hF hD;obtain ⟨d,v,s,hs,hd⟩:=zrE hM hm hF;obtain ⟨d',hd1,hd2⟩:=zzn (m:=m) (v:=v) (s:=s) (e:=z8.mk (e.C.take 12) (e.M.take 12)) hM hd;simp only [QG];rw [(zlM hM hm hF hD).1,hs];simp only [Qa];rw [hd1];simp only [Qa,zQ];unfold zj5
   rw [show zr (fun z=>zdj (zav.mk (zqy l) (z8.mk (e.C.take 12) (e.M.take 12)) [] 0) (some (zq.mk L m),r) (L,m,zmc L) (L,m,d,v,s) d' z) 0=_ from zk9 (bad:=fun _=>false) (l:=zqy l) (by omega) (fun i c hc=>by
    have hi:=(Qb.1 hc).1;have hcm:=Qc hc
    have hcL:c∈L:=by rw [hM.app];exact Jy _ hcm
    have hml:=(hf c hcm).methods.len;show zdj (zav.mk (zqy l) (z8.mk (e.C.take 12) (e.M.take 12)) [] 0) (some (zq.mk L m),r) (L,m,zmc L) (L,m,d,v,s) d' (i:Int)=_;unfold zdj;simp only;rw [ze8 hc];simp only [cond_true,Qa]
    rw [show zr (fun z=>zdi (zav.mk (zqy l) (z8.mk (e.C.take 12) (e.M.take 12)) [] 0) (some (zq.mk L m),r) (L,m,zmc L) (L,m,d,v,s) d' (i:Int) z) 0=_ from zk9 (bad:=fun _=>false) (l:=c.Methods) (by omega) (fun k f hk=>by
     have hkl:=(Qb.1 hk).1;have hfm:=Qc hk;obtain ⟨g,g1,g2⟩:=zzY (d:=d') (v:=v) (s:=s) (L2:=L) (m2:=m) hM hm hF hD hl hcL hk;have hcl:=((hF c hcL).methods.all f hfm).code.len;show zdi (zav.mk (zqy l) (z8.mk (e.C.take 12) (e.M.take 12)) [] 0) (some (zq.mk L m),r) (L,m,zmc L) (L,m,d,v,s) d' (i:Int) (k:Int)=_;unfold zdi;simp only;rw [zw,hc];simp only [Qa];rw [ze8 hk,g1,zw,hk];simp only [cond_true,Qa,QQ,beq_self_eq_true,Qp,cond_false]
     rw [show zr (fun z=>zdh f (zbh.mk (zb0 f) f.Locals f.Stack (!(f.Ret == [86])) (f.Code.map g) (f.Traps.map (zrK (zmc L).1))) z) 0=_ from zk9 (bad:=fun _=>false) (l:=f.Code) (by omega) (fun j x hx=>by
      have hjl:=(Qb.1 hx).1;obtain ⟨a,y,ey,gy⟩:=g2 x (Qc hx);have hg:g x=zew.mk x.Op x.A a y:=Option.some.inj ey;have gn:∀n,zBT L d' (zmc L).1 n=-1:=fun n=>zBU hM hd2 (Qg _) n;show zdh f (zbh.mk (zb0 f) f.Locals f.Stack (!(f.Ret == [86])) (f.Code.map g) (f.Traps.map (zrK (zmc L).1))) (j:Int)=_;unfold zdh zdg;simp only;rw [ze8 hx,zw,zw,Jc,hx];simp only [cond_true,Qa,QG];rw [hg];simp only [beq_self_eq_true,Qp,cond_false,Qa]
      cases hop:((((x.Op == (37:Int))||(x.Op == (40:Int)))||(x.Op == (41:Int)))||(x.Op == (42:Int))) with
      |false=>rfl
      |true =>
       have hy:y=-1:=gy gn (by
        simp only [Qw,beq_iff_eq] at hop
        rcases hop with ((e |e) |e) |e
        ·exact .inl e
        ·exact .inr (.inl e)
        ·exact .inr (.inr (.inl e))
        ·exact .inr (.inr (.inr e)))
       rw [hy]
       rfl) (by
      show zdh f (zbh.mk (zb0 f) f.Locals f.Stack (!(f.Ret == [86])) (f.Code.map g) (f.Traps.map (zrK (zmc L).1))) (f.Code.length:Int)=_;unfold zdh
      rw [zfM];rfl)]
     rw [show f.Code.any (fun _=>false)=false from Qq.2 (fun _ _=>Q7)]
     rfl) (by
     show zdi (zav.mk (zqy l) (z8.mk (e.C.take 12) (e.M.take 12)) [] 0) (some (zq.mk L m),r) (L,m,zmc L) (L,m,d,v,s) d' (i:Int) (c.Methods.length:Int)=_;unfold zdi;simp only;rw [zw,hc];simp only [Qa]
     rw [zfM];rfl)]
    rw [show c.Methods.any (fun _=>false)=false from Qq.2 (fun _ _=>Q7)]
    rfl) (by
    show zdj (zav.mk (zqy l) (z8.mk (e.C.take 12) (e.M.take 12)) [] 0) (some (zq.mk L m),r) (L,m,zmc L) (L,m,d,v,s) d' ((zqy l).length:Int)=_;unfold zdj;simp only
    rw [zfM];rfl)]
   rw [show (zqy l).any (fun _=>false)=false from Qq.2 (fun _ _=>Q7)];rfl
theorem zzh(l:List za)(e:z8)(h:wL zji l)(_:zrN e):zan Tryz.prog 13 [.isl 6 (List.map zb l),.agg (zfA e)] (bA true):=zj6 l e (zzI h.2 e)
end

end
end Go.Proofs.YthmnlfenkhmmhaaGreat
