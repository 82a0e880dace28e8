/- LayoutBelow: for every input the law returns true, and each argument reads as it read before. No further condition. Part 3 of 7. -/
import Derived.Test.YthmnlfenkhmmhaaGreatTb2
namespace Go.Proofs.YthmnlfenkhmmhaaGreat
noncomputable section
open List (length map)
set_option linter.unusedVariables false
set_option linter.unusedSectionVars false
set_option linter.unusedSimpArgs false
set_option maxRecDepth 100000
set_option maxHeartbeats 4000000
structure Zz(q:Prop):Prop where
 z:q
inductive LsE:List AV→List AV→Prop
 |nil:LsE [] []
 |cons {x:AV} {l l':List AV}:LsE l l'→LsE (x ::l) (x ::l')
theorem LsE.eq{l l':List AV}(h:LsE l l'):l=l':=by
 induction h with
 |nil=>rfl
 |cons _ ih=>rw [ih]
section
variable {P : Program} {env : Ev} {st : St} {d : Nat} {ty : TypeId} {pos : String} {aft : Array Edge} {gu : Option (Nat × Bool)} {K : Ev → St → Prop}
theorem ldR{t:TypeId}{x:Operand}{ti:TI}{p:AV}{r:List AV}(ht:zbP P t=some ti)(hx:ev env x=some p)(hr:zpT st p=some (r,0))(hv:zun ti r 0=some (.agg r))(k:K ((d,.agg r)::env) st):SOp P ⟨some d,.load t x,ty,pos,aft,gu⟩ env st K:=ld ht hx ((zo9 hr).trans hv) k
theorem ldJ{α:Type}{t:TypeId}{x:Operand}{ti:TI}{sz i:Nat}{l:List α}{f:α→List AV}{c:α}(ht:zbP P t=some ti)(hx:ev env x=some (.ipt sz (l.map f) i 0))(h:l[i]?=some c)(hv:zun ti (f c) 0=some (.agg (f c)))(k:K ((d,.agg (f c))::env) st):SOp P ⟨some d,.load t x,ty,pos,aft,gu⟩ env st K:=ldI ht hx h hv k
theorem ldQ{α:Type}{t:TypeId}{x:Operand}{ti:TI}{sz b i:Nat}{l:List α}{f:α→List AV}{c:α}(ht:zbP P t=some ti)(hx:ev env x=some (.mpt b i 0))(hb:st[b]?=some (some (sz,l.map f)))(h:l[i]?=some c)(hv:zun ti (f c) 0=some (.agg (f c)))(k:K ((d,.agg (f c))::env) st):SOp P ⟨some d,.load t x,ty,pos,aft,gu⟩ env st K:=ldM ht hx hb h hv k
theorem gLd{t:TypeId}{x:Operand}(h:SOp P ⟨some d,.load t x,ty,pos,aft,gu⟩ env st K):SOp P ⟨some d,.load t x,ty,pos,aft,gu⟩ env st K:=h
theorem zER{o:BinOp}{t u':TypeId}{x y:Operand}(h:SOp P ⟨some d,.binOp o t x y u',ty,pos,aft,gu⟩ env st K):SOp P ⟨some d,.binOp o t x y u',ty,pos,aft,gu⟩ env st K:=h
theorem zD6{c:Call}(h:SOp P ⟨some d,.call c,ty,pos,aft,gu⟩ env st K):SOp P ⟨some d,.call c,ty,pos,aft,gu⟩ env st K:=h
theorem gPk{c x y:Operand}(h:SOp P ⟨some d,.pick c x y,ty,pos,aft,gu⟩ env st K):SOp P ⟨some d,.pick c x y,ty,pos,aft,gu⟩ env st K:=h
theorem gIx{t:TypeId}{x y:Operand}(h:SOp P ⟨some d,.indexAddr t x y,ty,pos,aft,gu⟩ env st K):SOp P ⟨some d,.indexAddr t x y,ty,pos,aft,gu⟩ env st K:=h
end
class PF(P:Program)(f:FuncId)(args:List AV){R:outParam Type}(m:outParam (Option R))(enc:outParam (R→AV)):Prop where
 ok:∀r,m=some r→zaj P f args (enc r)
theorem PF.of{P:Program}{f:FuncId}{args:List AV}{R:Type}{x:R}{enc:R→AV}(h:∀r,x=r→zaj P f args (enc r)):PF P f args (some x) enc:=⟨fun r e=>h r (Option.some.inj e)⟩
theorem pcI{P:Program}{env:Ev}{st:St}{d:Nat}{ty:TypeId}{pos:String}{aft:Array Edge}{gu:Option (Nat×Bool)}{K:Ev→St→Prop}{c:Call}{g:FuncId}{args args':List AV}{R:Type}{m:Option R}{enc:R→AV}{r:R}(hc:zgQ (.call c)=true)(hg:znq env (.call c)=some (g,args))(he:LsE args args')(hi:zhy args'=true)(pf:PF P g args' m enc)(q:m=some r)
  (k:K ((d,enc r)::env) st):SOp P ⟨some d,.call c,ty,pos,aft,gu⟩ env st K:=by
 have e:=he.eq
 subst e
 exact pc (pf.ok r q) hc hg hi k
theorem opS{p q:Prop}(z:q)(h:Zz q→p:=by (intro z;(first |((with_reducible apply mv);exact rfl) |((with_reducible apply fa);exact ti;exact rfl;exact rfl;exact rfl) |((with_reducible apply gLd);(first |((with_reducible apply ldR);exact ti;exact rfl;exact rfl;exact rfl) |((with_reducible apply ldJ);exact ti;exact rfl;exact (zbI (by assumption)).2.2;exact rfl) |((with_reducible apply ldQ);exact ti;exact rfl;exact rfl;exact (zbI (by assumption)).2.2;exact rfl) |((with_reducible apply ld);exact ti;exact rfl;exact rfl) |((with_reducible apply ldI);exact ti;exact rfl;exact (zbI (by assumption)).2.2;exact rfl) |((with_reducible apply ldM);exact ti;exact rfl;exact rfl;exact (zbI (by assumption)).2.2;exact rfl))) |((with_reducible apply asg);exact rfl) |((with_reducible apply zER);(first |((with_reducible apply eql);exact ti;exact rfl;exact rfl) |((with_reducible apply lss);exact ti;exact rfl;exact rfl) |((with_reducible apply geq);exact ti;exact rfl;exact rfl) |((with_reducible apply seq);exact ti;exact rfl;exact rfl) |((with_reducible apply add);exact ti;exact rfl;exact rfl) |((with_reducible apply leq);exact ti;exact rfl;exact rfl) |((with_reducible apply sne);exact ti;exact rfl;exact rfl) |((with_reducible apply gtr);exact ti;exact rfl;exact rfl) |((with_reducible apply neq);exact ti;exact rfl;exact rfl) |((with_reducible apply sub);exact ti;exact rfl;exact rfl) |((with_reducible apply mul);exact ti;exact rfl;exact rfl) |((with_reducible apply beq);exact ti;exact rfl;exact rfl;exact rfl) |((with_reducible apply bne);exact ti;exact rfl;exact rfl;exact rfl) |((with_reducible apply slt);exact ti;exact rfl;exact rfl) |((with_reducible apply quo);exact ti;exact rfl;exact rfl;exact (by assumption)) |((with_reducible apply rem);exact ti;exact rfl;exact rfl;exact (by assumption)) |((with_reducible apply zE0);exact ti;exact rfl;exact rfl;exact (by assumption)) |((with_reducible apply shl);exact ti;exact rfl;exact rfl;exact (by assumption)) |((with_reducible apply shr);exact ti;exact rfl;exact rfl;exact (by assumption)) |((with_reducible apply nep);exact ti;exact rfl;exact rfl;exact rfl;exact rfl;exact rfl;exact rfl) |((with_reducible apply eqp);exact ti;exact rfl;exact rfl;exact rfl;exact rfl;exact rfl;exact rfl))) |((with_reducible apply zD6);(first |((with_reducible apply lnI);exact ti;exact rfl;exact rfl) |((with_reducible apply lnS);exact ti;exact rfl;exact rfl) |((with_reducible apply lnM);exact ti;exact rfl;exact rfl;exact rfl) |((with_reducible apply lnN);exact ti;exact rfl;exact rfl) |((with_reducible apply pcI);exact rfl;exact rfl;(repeat (first |exact LsE.nil |apply LsE.cons));exact rfl;exact inferInstance;(first |with_reducible exact rfl |assumption)))) |((with_reducible apply nc);exact rfl;exact rfl) |((with_reducible apply ex);exact rfl;exact rfl) |((with_reducible apply nt);exact rfl) |((with_reducible apply sto);exact ti;exact rfl;exact rfl;exact rfl) |((with_reducible apply gIx);(first |((with_reducible apply ixI);exact ti;exact rfl;exact ti;exact rfl;exact rfl;exact rfl;exact (by assumption)) |((with_reducible apply ixM);exact ti;exact rfl;exact ti;exact rfl;exact rfl;exact rfl;exact rfl;exact (by assumption)))) |((with_reducible apply ixS);exact ti;exact rfl;exact rfl;exact rfl;exact (by assumption)) |((with_reducible apply bd);exact ti;exact rfl;exact rfl;exact rfl) |((with_reducible apply mf);exact rfl;exact rfl) |((with_reducible apply fdV);exact rfl;exact rfl) |((with_reducible apply al);exact ti;(first |exact (rfl:_=0) |exact (rfl:_=1) |exact (rfl:_=2) |exact (rfl:_=3) |exact (rfl:_=4) |exact (rfl:_=5) |exact (rfl:_=6) |exact (rfl:_=7) |exact (rfl:_=8))) |((with_reducible apply bx);exact rfl;exact rfl;(first |exact (rfl:_=1) |exact (rfl:_=2) |exact (rfl:_=3) |exact (rfl:_=4) |exact (rfl:_=5) |exact (rfl:_=6) |exact (rfl:_=7) |exact (rfl:_=8) |exact (rfl:_=9) |exact (rfl:_=10) |exact (rfl:_=11) |exact (rfl:_=12) |exact (rfl:_=13) |exact (rfl:_=14) |exact (rfl:_=15) |exact (rfl:_=16));(first |exact (rfl:_=0) |exact (rfl:_=1) |exact (rfl:_=2) |exact (rfl:_=3) |exact (rfl:_=4) |exact (rfl:_=5) |exact (rfl:_=6) |exact (rfl:_=7) |exact (rfl:_=8))) |((with_reducible apply bl);exact ti;exact rfl;exact ti;(first |exact (rfl:_=1) |exact (rfl:_=2) |exact (rfl:_=3) |exact (rfl:_=4) |exact (rfl:_=5) |exact (rfl:_=6) |exact (rfl:_=7) |exact (rfl:_=8) |exact (rfl:_=9) |exact (rfl:_=10) |exact (rfl:_=11) |exact (rfl:_=12) |exact (rfl:_=13) |exact (rfl:_=14) |exact (rfl:_=15) |exact (rfl:_=16));decide;decide;exact rfl;exact rfl;(first |exact (rfl:_=0) |exact (rfl:_=1) |exact (rfl:_=2) |exact (rfl:_=3) |exact (rfl:_=4) |exact (rfl:_=5) |exact (rfl:_=6) |exact (rfl:_=7) |exact (rfl:_=8))) |((with_reducible apply ng);exact rfl) |((with_reducible apply gPk);(first |((with_reducible apply pk (b:=true));exact rfl;exact rfl) |((with_reducible apply pk (b:=false));exact rfl;exact rfl) |((with_reducible apply pkb);exact rfl;exact (by assumption);exact rfl))));exact z.1)):p:=h ⟨z⟩
def zu5(w:Bool):List Oper→Option Nat
 | []=>none
 |o :: _=>match o.guard with |some (j,x)=>(match x == w with |true=>some j |false=>none) |none=>none
inductive Ext:List Nat→Ev→Ev→Prop
 |z (e:Ev):Ext [] e e
 |s {a:Nat} {x:AV} {ds:List Nat} {e' e:Ev}:Ext ds e' e→Ext (a ::ds) ((a,x)::e') e
theorem Ext.look'{ds:List Nat}{e' e:Ev}(h:Ext ds e' e){t:Nat}{v:AV}(hl:look e t=some v):t ∉ ds→look e' t=some v:=by
 induction h with
 |z e=>exact fun _=>hl
 | @s a x ds e' e h ih =>
  intro hn
  have h1:=ih hl (fun hm=>hn (List.mem_cons_of_mem _ hm))
  have h2:a≠t:=fun e=>hn (e ▸ List.mem_cons_self)
  simpa [look,h2] using h1
theorem Ext.look{ds:List Nat}{e' e:Ev}(h:Ext ds e' e)(hk:zdq ds e=true):∀t v,look e t=some v→look e' t=some v:=fun t v hl=>h.look' hl (zd0 hk hl)
inductive Spl:List Oper→List Oper→List Oper→Prop
 |z (l:List Oper):Spl [] l l
 |s {o:Oper} {a l r:List Oper}:Spl a l r→Spl (o ::a) (o ::l) r
theorem Spl.eq{a l r:List Oper}(h:Spl a l r):l.take a.length=a∧l.drop a.length=r:=by
 induction h with
 |z l=>exact ⟨by simp,by simp⟩
 |s _ ih=>exact ⟨by simp [ih.1],by simp [ih.2]⟩
section
variable {P : Program} {n nb0 : Nat} {all l1 l2 lk : List Oper} {K : Ev → St → Prop} {env env' : Ev} {st : St}
theorem egB{ds:List Nat}{y:Operand}{b v:Bool}(hb:b=true)(h1:Ext ds env' env)(h2:zdq ds env=true)(h4:ev env' y=some (.lit (.bool v))):zwV env st y (b&&v) env' st:=⟨rfl,h1.look h2,by rw [hb];exact h4⟩
theorem egC{ds:List Nat}{y:Operand}{b v:Bool}(hb:b=false)(h1:Ext ds env' env)(h2:zdq ds env=true)(h4:ev env' y=some (.lit (.bool v))):zwV env st y (b||v) env' st:=⟨rfl,h1.look h2,by rw [hb];exact h4⟩
theorem hAA{p:Prop}(h:p:=by (intro hb;refine A ?_;apply egB hb;(repeat (first |exact Ext.z _ |apply Ext.s));exact rfl;exact rfl)):p:=h
theorem hOA{p:Prop}(h:p:=by (intro hb;refine A ?_;apply egC hb;(repeat (first |exact Ext.z _ |apply Ext.s));exact rfl;exact rfl)):p:=h
theorem aA{dp c:Nat}{y:Operand}{ty':TypeId}{pos':String}{aft':Array Edge}{gp:Option (Nat×Bool)}{j:Nat}{b v:Bool}{l:List Oper}(hj0:zu5 true l1=some j)(hj:(all[j]?).bind (·.dst)=some c)
  (hs:Spl lk l1 (⟨some dp,.pick (.tmp c) y (.const (.bool false)),ty',pos',aft',gp⟩::l)) (hc:look env c=some (.lit (.bool b))) (hg:zzv all j true [] lk=true) (hk:zdq (zmQ lk) env=true)
  (hgp:∀env':Ev,(∀t v,look env t=some v→look env' t=some v)→zgd all env' ⟨some dp,.pick (.tmp c) y (.const (.bool false)),ty',pos',aft',gp⟩=some true)
  (hT:b=true→SR P n nb0 all lk ((⟨some dp,.pick (.tmp c) y (.const (.bool false)),ty',pos',aft',gp⟩::l)++l2) (zwV env st y (b&&v)) env st)
  (h:SR P n nb0 all l l2 K ((dp,.lit (.bool (b&&v)))::env) st):SR P n nb0 all l1 l2 K env st:=
 zik lk.length hs.eq.2 hj hc (hs.eq.1.symm ▸ hg) (hs.eq.1.symm ▸ hk) hgp (hs.eq.1.symm ▸ hs.eq.2.symm ▸ hT) zEx h
theorem oA{dp c:Nat}{y:Operand}{ty':TypeId}{pos':String}{aft':Array Edge}{gp:Option (Nat×Bool)}{j:Nat}{b v:Bool}{l:List Oper}(hj0:zu5 false l1=some j)(hj:(all[j]?).bind (·.dst)=some c)
  (hs:Spl lk l1 (⟨some dp,.pick (.tmp c) (.const (.bool true)) y,ty',pos',aft',gp⟩::l)) (hc:look env c=some (.lit (.bool b))) (hg:zzv all j false [] lk=true) (hk:zdq (zmQ lk) env=true)
  (hgp:∀env':Ev,(∀t v,look env t=some v→look env' t=some v)→zgd all env' ⟨some dp,.pick (.tmp c) (.const (.bool true)) y,ty',pos',aft',gp⟩=some true)
  (hF:b=false→SR P n nb0 all lk ((⟨some dp,.pick (.tmp c) (.const (.bool true)) y,ty',pos',aft',gp⟩::l)++l2) (zwV env st y (b||v)) env st)
  (h:SR P n nb0 all l l2 K ((dp,.lit (.bool (b||v)))::env) st):SR P n nb0 all l1 l2 K env st:=
 zwC lk.length hs.eq.2 hj hc (hs.eq.1.symm ▸ hg) (hs.eq.1.symm ▸ hk) hgp (hs.eq.1.symm ▸ hs.eq.2.symm ▸ hF) orT h
end
section
variable {P : Program} {n nb0 : Nat} {all l1 l2 lk : List Oper} {K : Ev → St → Prop} {env env' : Ev} {st : St}
theorem egD{ds:List Nat}{y:Operand}{e x:Bool}(he:e=x)(h1:Ext ds env' env)(h2:zdq ds env=true)(h4:ev env' y=some (.lit (.bool e))):zwV env st y x env' st:=⟨rfl,h1.look h2,by rw [←he];exact h4⟩
def Imp(a p:Prop):Prop:=a→p
theorem bI{α β:Type}{p:Prop}{m:Option α}{k:α→Option β}{r:β}(f:∀x,m=some x→Imp (k x=some r) p):Imp (m.bind k=some r) p:=fun h=>by
 obtain ⟨x,h1,h2⟩:=bs h
 exact f x h1 h2
theorem sI{β:Type}{p:Prop}{a r:β}(f:a=r→p):Imp (some a=some r) p:=fun h=>f (sm h)
theorem hQA{p:Prop}(h:p:=by (intro hb;(repeat ((with_reducible apply bI);intro _ _));(with_reducible apply sI);intro hq;refine A ?_;apply egD hq;(repeat (first |exact Ext.z _ |apply Ext.s));exact rfl;exact rfl)):p:=h
theorem aQ{dp c:Nat}{y:Operand}{ty':TypeId}{pos':String}{aft':Array Edge}{gp:Option (Nat×Bool)}{j:Nat}{b x:Bool}{m:Option Bool}{l:List Oper}(hj0:zu5 true l1=some j)(hj:(all[j]?).bind (·.dst)=some c)(hc:look env c=some (.lit (.bool b)))(q:cond b m (some false)=some x)
  (hs:Spl lk l1 (⟨some dp,.pick (.tmp c) y (.const (.bool false)),ty',pos',aft',gp⟩::l)) (hg:zzv all j true [] lk=true) (hk:zdq (zmQ lk) env=true)
  (hgp:∀env':Ev,(∀t v,look env t=some v→look env' t=some v)→zgd all env' ⟨some dp,.pick (.tmp c) y (.const (.bool false)),ty',pos',aft',gp⟩=some true)
  (hT:b=true→Imp (m=some x) (SR P n nb0 all lk ((⟨some dp,.pick (.tmp c) y (.const (.bool false)),ty',pos',aft',gp⟩::l)++l2) (zwV env st y x) env st))
  (h:SR P n nb0 all l l2 K ((dp,.lit (.bool x))::env) st):SR P n nb0 all l1 l2 K env st:=
 zik lk.length hs.eq.2 hj hc (hs.eq.1.symm ▸ hg) (hs.eq.1.symm ▸ hk) hgp (hs.eq.1.symm ▸ hs.eq.2.symm ▸ fun e=>hT e (bT e q)) (fun e=>(sm (bF e q)).symm) h
theorem oQ{dp c:Nat}{y:Operand}{ty':TypeId}{pos':String}{aft':Array Edge}{gp:Option (Nat×Bool)}{j:Nat}{b x:Bool}{m:Option Bool}{l:List Oper}(hj0:zu5 false l1=some j)(hj:(all[j]?).bind (·.dst)=some c)(hc:look env c=some (.lit (.bool b)))(q:cond b (some true) m=some x)
  (hs:Spl lk l1 (⟨some dp,.pick (.tmp c) (.const (.bool true)) y,ty',pos',aft',gp⟩::l)) (hg:zzv all j false [] lk=true) (hk:zdq (zmQ lk) env=true)
  (hgp:∀env':Ev,(∀t v,look env t=some v→look env' t=some v)→zgd all env' ⟨some dp,.pick (.tmp c) (.const (.bool true)) y,ty',pos',aft',gp⟩=some true)
  (hF:b=false→Imp (m=some x) (SR P n nb0 all lk ((⟨some dp,.pick (.tmp c) (.const (.bool true)) y,ty',pos',aft',gp⟩::l)++l2) (zwV env st y x) env st))
  (h:SR P n nb0 all l l2 K ((dp,.lit (.bool x))::env) st):SR P n nb0 all l1 l2 K env st:=
 zwC lk.length hs.eq.2 hj hc (hs.eq.1.symm ▸ hg) (hs.eq.1.symm ▸ hk) hgp (hs.eq.1.symm ▸ hs.eq.2.symm ▸ fun e=>hF e (bF e q)) (fun e=>(sm (bT e q)).symm) h
end
theorem A{p q:Prop}(z:q)(h:Zz q→p:=by (intro z;(first |(apply rg;exact rfl) |(apply rl;exact rfl) |skip);(repeat (first |((first |(with_reducible apply u) |((with_reducible apply g);exact rfl;(first |assumption |exact rfl)));refine opS ?_) |(apply aQ;exact rfl;exact rfl;exact rfl;assumption;(repeat (first |exact Spl.z _ |apply Spl.s));exact rfl;exact rfl;(first |exact gpn |exact gps rfl rfl (by assumption));exact hQA) |(apply oQ;exact rfl;exact rfl;exact rfl;assumption;(repeat (first |exact Spl.z _ |apply Spl.s));exact rfl;exact rfl;(first |exact gpn |exact gps rfl rfl (by assumption));exact hQA) |(apply aA;exact rfl;exact rfl;(repeat (first |exact Spl.z _ |apply Spl.s));exact rfl;exact rfl;exact rfl;(first |exact gpn |exact gps rfl rfl (by assumption));exact hAA) |(apply oA;exact rfl;exact rfl;(repeat (first |exact Spl.z _ |apply Spl.s));exact rfl;exact rfl;exact rfl;(first |exact gpn |exact gps rfl rfl (by assumption));exact hOA)));(first |exact zJ z.1 |exact z.1))):p:=h ⟨z⟩
theorem zDO{st:St}{L:zfF}{l i j:Nat}(h:zfI L l=some l):Rs st L (.mpt l i j) (.mpt l i j):=.mpt h
theorem zDR{st:St}{L:zfF}{l i n:Nat}(h:zfI L l=some l):Rs st L (.msl l i n) (.msl l i n):=.msl h
section
variable {P : Program} {n nb0 : Nat} {env env0 : Ev} {st st0 : St}
theorem zcs(L:zfF)(h1:zkc st L env0 env:=by repeat' (first |exact True.intro |exact cn |exact ci rfl |exact zDO rfl |exact zDR rfl |exact .msl rfl |exact .mpt rfl |exact .nil |exact zP fun _=>rfl |refine cv rfl ?_ ?_ |exact zhD rfl rfl fun _=>rfl |refine zgq rfl rfl ?_ |exact ci (zp6 fun _=>rfl) |exact .mmp rfl |refine zzz rfl ?_ |refine zbV ?_ |refine zmG ?_ |refine ⟨_,rfl,?_⟩ |refine And.intro ?_ ?_ |refine znk ?_ |refine zr5 ?_ |exact rfl))(h2:zlF L=true:=by exact rfl)(h3:ziE st L L st0:=by repeat' (first |exact True.intro |exact cn |exact ci rfl |exact zDO rfl |exact zDR rfl |exact .msl rfl |exact .mpt rfl |exact .nil |exact zP fun _=>rfl |refine cv rfl ?_ ?_ |exact zhD rfl rfl fun _=>rfl |refine zgq rfl rfl ?_ |exact ci (zp6 fun _=>rfl) |exact .mmp rfl |refine zzz rfl ?_ |refine zbV ?_ |refine zmG ?_ |refine ⟨_,rfl,?_⟩ |refine And.intro ?_ ?_ |refine znk ?_ |refine zr5 ?_ |exact rfl))(h4:zxW nb0 L=true:=by exact rfl)(h5:nb0≤st0.length:=by exact Nat.le_of_ble_eq_true rfl):Can nb0 env0 st0 env st:=⟨L,h1,h2,h3,h4,h5⟩
end
section
variable {P : Program} {all : List Oper} {env0 F env : Ev} {st : St} {ss p en : List Nat} {K : Ev → St → Prop}
theorem peC{i:Nat}{G:Prop}(h:G→zh7 P all env0 F st i:=by first |exact nz |(intro _;refine pa rfl rfl rfl rfl ?_;refine opS ?_;exact ⟨rfl,rfl⟩) |exact fun _=>pau rfl rfl rfl rfl rfl |(intro _;refine pas rfl rfl rfl rfl ?_ rfl;(first |exact rfl |assumption)) |(intro _;refine pag rfl rfl rfl rfl ?_ rfl ?_;(first |exact rfl |assumption);refine opS ?_;exact ⟨rfl,rfl⟩)):G→zh7 P all env0 F st i:=h
theorem zgE{n:Nat}(h1:ztw P all env0 F st p en:=by repeat' (first |exact True.intro |refine And.intro ?_ ?_ |first |exact nz |(intro _;refine pa rfl rfl rfl rfl ?_;refine opS ?_;exact ⟨rfl,rfl⟩) |exact fun _=>pau rfl rfl rfl rfl rfl |(intro _;refine pas rfl rfl rfl rfl ?_ rfl;(first |exact rfl |assumption)) |(intro _;refine pag rfl rfl rfl rfl ?_ rfl ?_;(first |exact rfl |assumption);refine opS ?_;exact ⟨rfl,rfl⟩)))(z:zsi P all ss env0 K n p en F st ss)(h2:zg2 all ss p en=true:=by kernel_rfl)(h3:zkd p ss=false:=by exact rfl):DT P all ss env0 K (n+1) p en F st:=dtS h1 h2 h3 z
theorem zhx(h1:ztw P all env0 F st p en:=by repeat' (first |exact True.intro |refine And.intro ?_ ?_ |first |exact nz |(intro _;refine pa rfl rfl rfl rfl ?_;refine opS ?_;exact ⟨rfl,rfl⟩) |exact fun _=>pau rfl rfl rfl rfl rfl |(intro _;refine pas rfl rfl rfl rfl ?_ rfl;(first |exact rfl |assumption)) |(intro _;refine pag rfl rfl rfl rfl ?_ rfl ?_;(first |exact rfl |assumption);refine opS ?_;exact ⟨rfl,rfl⟩)))(z:K (F++znw (zuS all) env0) st)(h2:zg2 all ss p en=true:=by kernel_rfl)(h3:zkd p ss=true:=by exact rfl):DT P all ss env0 K 0 p en F st:=dt0 h1 h2 h3 z
end
theorem rdQ{P:Program}{n nb0:Nat}{Q:Exit→Ev→St→Prop}{env:Ev}{st:St}{id:Nat}{ops:Array Oper}(ss en:List Nat)(F:Ev)(k:Nat)
  (h:DT P ops.toList ss env (Q .normal) k [] en F st) (hm:P.follows .mixedOrders=true:=by kernel_rfl) (hok:zrf n ops.toList=true:=by kernel_rfl) (hss:zqr ops.size ss=true:=by exact rfl) (hks:ziF ops.toList en (zdh F)=true:=by kernel_rfl):
  SW P n nb0 (.region id ops true) Q env st:=zfy ss en F k hm hok hss hks h
section
variable {P : Program} {n nb0 : Nat} {env : Ev} {st st0 : St}
theorem zeh{Q:Exit→Ev→St→Prop}{c:Operand}{x y:Code}{b:Bool}{α:Type}{m1 m2 r:α}(h:cond b m1 m2=r)(hc:ev env c=some (.lit (.bool b)))(ht:b=true→m1=r→SW P n nb0 x Q env st)(hf:b=false→m2=r→SW P n nb0 y Q env st):SW P n nb0 (.cond c x y) Q env st:=
 zhY hc (fun e=>ht e (bT e h)) (fun e=>hf e (bF e h))
theorem zzA{av0 av:AV}(L:zfF)(h1:Rs st L av0 av:=by repeat' (first |exact True.intro |exact cn |exact ci rfl |exact zDO rfl |exact zDR rfl |exact .msl rfl |exact .mpt rfl |exact .nil |exact zP fun _=>rfl |refine cv rfl ?_ ?_ |exact zhD rfl rfl fun _=>rfl |refine zgq rfl rfl ?_ |exact ci (zp6 fun _=>rfl) |exact .mmp rfl |refine zzz rfl ?_ |refine zbV ?_ |refine zmG ?_ |refine ⟨_,rfl,?_⟩ |refine And.intro ?_ ?_ |refine znk ?_ |refine zr5 ?_ |exact rfl))(h2:zlF L=true:=by exact rfl)(h3:ziE st L L st0:=by repeat' (first |exact True.intro |exact cn |exact ci rfl |exact zDO rfl |exact zDR rfl |exact .msl rfl |exact .mpt rfl |exact .nil |exact zP fun _=>rfl |refine cv rfl ?_ ?_ |exact zhD rfl rfl fun _=>rfl |refine zgq rfl rfl ?_ |exact ci (zp6 fun _=>rfl) |exact .mmp rfl |refine zzz rfl ?_ |refine zbV ?_ |refine zmG ?_ |refine ⟨_,rfl,?_⟩ |refine And.intro ?_ ?_ |refine znk ?_ |refine zr5 ?_ |exact rfl))(h4:zxW nb0 L=true:=by exact rfl)(h5:nb0≤st0.length:=by exact Nat.le_of_ble_eq_true rfl):zC2 nb0 av0 st0 av st:=⟨L,h1,h2,h3,h4,h5⟩
end
theorem RT0{p:Prop}(z:p:=by (refine zK ?_;obtain rfl:=sm h;exact ⟨_,rfl,zzA []⟩)):p:=z
theorem RT1{p:Prop}(z:p:=by (refine zK ?_;obtain rfl:=sm h;exact ⟨_,rfl,zzA [.old 0]⟩)):p:=z
theorem RT3{p:Prop}(z:p:=by (refine zK ?_;obtain rfl:=sm h;exact ⟨_,rfl,zzA [.old 0,.old 1,.old 2]⟩)):p:=z
theorem RT4{p:Prop}(z:p:=by (refine zK ?_;obtain rfl:=sm h;exact ⟨_,rfl,zzA [.old 0,.old 1,.old 2,.old 3]⟩)):p:=z
theorem bs2{α β γ:Type}{a:Option α}{b:α→Option β}{k:α→β→Option γ}{r:γ}(h:(a.bind fun x=>(b x).bind (k x))=some r):∃x,a=some x∧∃y,b x=some y∧k x y=some r:=by
 obtain ⟨x,h1,h⟩:=bs h
 obtain ⟨y,h2,h⟩:=bs h
 exact ⟨x,h1,y,h2,h⟩
theorem bs3{α β γ δ:Type}{a:Option α}{b:α→Option β}{c:α→β→Option γ}{k:α→β→γ→Option δ}{r:δ}(h:(a.bind fun x=>(b x).bind fun y=>(c x y).bind (k x y))=some r):∃x,a=some x∧∃y,b x=some y∧∃z,c x y=some z∧k x y z=some r:=by
 obtain ⟨x,h1,h⟩:=bs h
 exact ⟨x,h1,bs2 h⟩
theorem bs4{α β γ δ ε:Type}{a:Option α}{b:α→Option β}{c:α→β→Option γ}{d:α→β→γ→Option δ}{k:α→β→γ→δ→Option ε}{r:ε}(h:(a.bind fun x=>(b x).bind fun y=>(c x y).bind fun z=>(d x y z).bind (k x y z))=some r):∃x,a=some x∧∃y,b x=some y∧∃z,c x y=some z∧∃u,d x y z=some u∧k x y z u=some r:=by
 obtain ⟨x,h1,h⟩:=bs h
 exact ⟨x,h1,bs3 h⟩
abbrev pG{R:Type}(fn:Func)(e:R→AV):R→Ev→St→Prop:=fun r env st=>zq9 Tryz.prog fn 0 (e r) [] env st
abbrev pF{R:Type}(fn:Func)(e:R→AV)(s:R→St):R→Ev→St→Prop:=fun r env st=>zq9 Tryz.prog fn 0 (e r) (s r) env st
section
variable {P : Program} {n nb0 : Nat} {env : Ev} {st : St} {id : Nat} {c y : Code} {Q : Exit → Ev → St → Prop} {X B R : Type} {body : X → Option (Sum X (Sum B R))} {z0 : X} {o : Sum B R}
theorem lpA(ho:zm body z0=some o)(E:X→Ev)(S:X→St)(E':B→Ev)(S':B→St)(post:R→Ev→St→Prop)(hc:Can nb0 (E z0) (S z0) env st)(round:∀z r,body z=some r→SW P n nb0 c (LQ id nb0 E S E' S' post r) (E z) (S z))
  (hb:∀b,o=.inl b→SW P n nb0 y Q (E' b) (S' b)) (hr:∀r,o=.inr r→∀env st,post r env st→Q .ret env st:=by (rintro r' rfl env st hp;obtain rfl:=sm h;exact hp)):SW P n nb0 (.seq (.block id (.loop c)) y) Q env st:=zEr E S E' S' post ho hc round hb hr
theorem lpS(ho:zm body z0=some o)(E:X→Ev)(S:X→St)(E':B→Ev)(S':B→St)(post:R→Ev→St→Prop)(hc:Can nb0 (E z0) (S z0) env st)(round:∀z r,body z=some r→SW P n nb0 c (LQ id nb0 E S E' S' post r) (E z) (S z))(hb:∀b,o=.inl b→OW n nb0 (Q .normal) (E' b) (S' b))(hr:∀r,o=.inr r→∀env st,post r env st→Q .ret env st):SW P n nb0 (.block id (.loop c)) Q env st:=zBu E S E' S' post ho hc round hb hr
theorem lpB(ho:zm body z0=some o)(E:X→Ev)(S:X→St)(E':B→Ev)(S':B→St)(post:R→Ev→St→Prop)(hc:Can nb0 (E z0) (S z0) env st)(round:∀z r,body z=some r→SW P n nb0 c (LQ id nb0 E S E' S' post r) (E z) (S z))(hb:∀b,o=.inl b→OW n nb0 (Q .normal) (E' b) (S' b))(hr:∀r,o=.inr r→∀env st,post r env st→Q .ret env st:=by (rintro r' rfl env st hp;obtain rfl:=sm h;exact hp)):SW P n nb0 (.block id (.loop c)) Q env st:=zBu E S E' S' post ho hc round hb hr
end
section
open Go.ChangeShapes Go.WideShapes Go.ChangeAt Go.RowKit Go.WideMaps Go.WideElems
open Go.ChangeMaps (open_string shut_string)
theorem zme.below{w w':World}(h:zme w w'):Below w.heap.size w w':=⟨h.os,h.tape,h.output,h.size,h.heap⟩
theorem Tryz.ownNot:ownKnob Tryz.prog.godebug=none:=by kernel_rfl
theorem Tryz.laidOut:laidOutB Tryz.prog=true:=by kernel_rfl
section
variable {H : Type} {enc : TypeId × Value → H} {P : Program}
theorem zsw(hl:laidOutB P=true){W W':World}(hg:zme W W'){sp:Nat→Bool}:∀{ts:List TypeId} {vs:List Value} {ds:List (DataW H)} {ps:List MemPlace},
  ts.all (fun t=>P.readableRec t&&decide (t<P.types.size))=true→DataW.TrodAll enc P W 0 (fun _=>true) true ts vs ds ps→(∀p∈ps,p.block<W.heap.size)→(∀p∈ps,sp p.block=true)→DataW.TrodAll enc P W' 0 sp true ts vs ds ps
 | [],[],[],ps,_,h,_,_=>h
 |t ::ts,v ::vs,d ::ds,ps,ht,h,hlt,hs=>by
  obtain ⟨p,q,h1,h2,rfl⟩:=h
  simp only [List.all_cons,Bool.and_eq_true,decide_eq_true_eq] at ht
  exact ⟨p,q,WideElems.Trod_stays hl ht.1.1 ht.1.2 h1 (fun x hx=>hg.below.same (hlt x (by simp [hx]))) (fun x hx=>hs x (by simp [hx])),
   zsw hl hg ht.2 h2 (fun x hx=>hlt x (by simp [hx])) (fun x hx=>hs x (by simp [hx])),rfl⟩
 | [],_ :: _,_,_,_,h,_,_=>h.elim
 | [],[],_ :: _,_,_,h,_,_=>h.elim
 |_ :: _,[],_,_,_,h,_,_=>h.elim
 |_ :: _,_ :: _,[],_,_,h,_,_=>h.elim
theorem zyC{f:Func}{s:ChangeSpec}{apart fresh handsOn again:Bool}{W W':World}{args:Array Value}{ds gs:List (DataW H)}{before:List MemPlace}{tb:TypeId}
  (hl:laidOutB P=true) (hW:DataW.Whole enc P f.params.toList s.vars apart W args.toList ds gs before) (hg:zme W W')
  (hts:f.params.toList.all (fun t=>P.readableRec t&&decide (t<P.types.size))=true) (hvars:s.vars=[]) (hr:f.resultTypes=#[tb]) (hb:P.underlying tb=some .bool)
  (hfn:s.fn H (ds++gs)={ results:=[.lit (.bool true)],args:=ds }):
  s.post enc P f apart fresh handsOn again W args (.bool true) W':=by
 have hlt:=hW.lt
 have hW':=hW
 obtain ⟨p,q,hA,hV,hpq,hz,hn⟩:=hW'
 rw [hvars] at hV
 obtain ⟨rfl,rfl⟩:=trodVars_none hV
 simp only [List.append_nil] at hpq
 subst hpq
 have hargs:∀sp:Nat→Bool,(∀x∈before,sp x.block=true)→DataW.TrodAll enc P W' 0 sp true f.params.toList args.toList ds before:=fun sp hsp=>zsw hl hg hts hA hlt hsp
 have hres:∀(b:Nat) (sp:Nat→Bool) (hd:Bool),DataW.TrodAll enc P W' b sp hd f.resultTypes.toList ((Value.bool true).resultList f.resultTypes.size) [.lit (.bool true)] []:=fun b sp hd=>by
  rw [hr];exact trodAll_mk1 (shut_bool hb true)
 have hvs:∀sp:Nat→Bool,DataW.TrodVars enc P W' sp s.vars ([]:List (DataW H)) []:=fun sp=>by rw [hvars];rfl
 refine ⟨ds,[],before,[],before,[],hW,by rw [hfn];exact hres _ _ _,by rw [hfn];exact hargs _ (fun x hx=>by simpa using hlt x hx),by rw [hfn];exact hvs _,hg.below.frame _,fun _=>⟨?_,_,_,([]++before)++[],⟨[]++before,[],trodAll_append (hargs _ (fun _ _=>rfl)) (hres _ _ _),hvs _,rfl,?_,?_⟩,?_⟩⟩
 ·exact ok_one hr rfl (okWide_bool_mk hb _)
 ·intro b off hp
  have hp':MemPlace.cell b off∈before:=by simpa using hp
  rw [hg.below.frozen (p:=⟨b,off,none⟩) (hlt _ hp')]
  exact hz b off hp'
 ·intro ha
  simpa using hn ha
 ·intro x hx _
  simpa using hx
theorem zaj.truly{f:FuncId}{args:List AV}(h:zaj P f args (.lit (.bool true))){W:World}{vals:Array Value}(hv:VIL (fun B=>B<W.heap.size) W args vals):
  Calls P f vals W fun e w'=>e=.returned (.bool true)∧zme W w':=
 (h.2 _ W vals (fun _ h=>h) hv).mono fun e w' ⟨v,he,hg,hvi⟩=>by
  cases hvi
  exact ⟨he,hg⟩
theorem zCS{A w}:VIL A w [] #[]:=⟨rfl,fun i h=>by simp at h⟩
theorem zvL{A w}{c:AV}{v:Value}{cs:List AV}{vs:List Value}(h:VI A w c v)(t:VIL A w cs vs.toArray):VIL A w (c ::cs) (v ::vs).toArray:=by
 obtain ⟨h1,h2⟩:=t
 refine ⟨by simpa using h1,fun i hi=>?_⟩
 cases i with
 |zero=>simpa using h
 |succ i =>
  have:=h2 i (by simpa using hi)
  simpa [Array.getD] using this
end
end
section
open Go.ChangeShapes Go.WideShapes Go.ChangeAt Go.RowKit Go.WideMaps Go.WideElems
def zsN(P:Program):Nat→List Field→Option Nat
 |o,[]=>some o
 |o,f ::r=>if f.offset=o then zsN P (o+P.cellsOf f.type) r else none
def ztb(P:Program):Nat→TypeId→Bool
 | 0,_=>false
 |n+1,t =>
  match P.underlying t with
  |some .bool=>true
  |some (.int _)=>true
  |some .string=>true
  |some (.slice e)=>Nat.blt 0 (P.cellsOf e)&&ztb P n e
  |some (.struct fs)=>(zsN P 0 fs.toList == some (P.cellsOf t))&&fs.toList.all fun f=>ztb P n f.type
  |_=>false
def zn2(P:Program):Nat→TypeId→List AV→Prop
 | 0,_,_=>False
 |n+1,t,avs =>
  match P.underlying t with
  |some .bool=>∃b,avs=[.lit (.bool b)]
  |some (.int k)=>∃m,avs=[.lit (.int k m)]∧(Lit.int k m).wf=true
  |some .string=>∃s:List UInt8,avs=[.lit (.string (B s))]∧s.length≤9223372036854775807
  |some (.slice e)=>∃els,avs=[.isl (P.cellsOf e) els]∧els.length≤9223372036854775807∧∀r∈els,zn2 P n e r
  |some (.struct fs)=>∃parts:List (List AV),avs=parts.flatten∧parts.length=fs.size∧∀(i:Nat) f p,fs[i]?=some f→parts[i]?=some p→zn2 P n f.type p
  |_=>False
section
variable {H : Type} {enc : TypeId × Value → H} {P : Program} {W : World}
abbrev zp8(W:World)(avs:List AV)(cs:List Value):Prop:=avs.length=cs.length∧∀(i:Nat) av v,avs[i]?=some av→cs[i]?=some v→VI (fun B=>B<W.heap.size) W av v
theorem ztj{a b:List AV}{cs ds:List Value}(h:zp8 W a cs)(k:zp8 W b ds):zp8 W (a++b) (cs++ds):=by
 refine ⟨by simp [h.1,k.1],fun i av v h1 h2=>?_⟩
 by_cases hi:i<a.length
 ·rw [List.getElem?_append_left hi] at h1
  rw [List.getElem?_append_left (by rw [←h.1];exact hi)] at h2
  exact h.2 i av v h1 h2
 ·rw [List.getElem?_append_right (by omega)] at h1
  rw [List.getElem?_append_right (by rw [←h.1];omega),←h.1] at h2
  exact k.2 _ av v h1 h2
theorem zj7{av:AV}{v:Value}(h:VI (fun B=>B<W.heap.size) W av v):zp8 W [av] [v]:=
 ⟨rfl,fun i a u h1 h2=>by
  cases i with
  |zero=>cases h1;cases h2;exact h
  |succ i=>simp at h1⟩
theorem zxo{w:World}{base:Nat}{a:Addr}{n:Nat}{cs:List Value}(h:w.cells? base a n=some cs):cs.length=n∧∀j,j<n→w.cell? (a.add j)=cs[j]?:=by
 unfold World.cells? at h
 split at h
 ·have key:∀(l:List Nat) (r:List Value),l.mapM (fun i=>w.cell? (a.add i))=some r→r.length=l.length∧∀(j:Nat) x,l[j]?=some x→w.cell? (a.add x)=r[j]?:=by
   intro l
   induction l with
   |nil=>intro r hr;simp at hr;subst hr;exact ⟨rfl,fun j x hx=>by simp at hx⟩
   |cons y l ih =>
    intro r hr
    simp only [List.mapM_cons,Option.bind_eq_bind,Option.pure_def] at hr
    cases h1:w.cell? (a.add y) with
    |none=>simp [h1] at hr
    |some b =>
     cases h2:l.mapM (fun i=>w.cell? (a.add i)) with
     |none=>simp [h1,h2] at hr
     |some r' =>
      simp [h1,h2] at hr
      subst hr
      obtain ⟨k1,k2⟩:=ih r' h2
      refine ⟨by simp [k1],fun j x hx=>?_⟩
      cases j with
      |zero=>simp at hx;subst hx;simpa using h1
      |succ j=>simpa using k2 j x (by simpa using hx)
  obtain ⟨h1,h2⟩:=key _ _ h
  refine ⟨by simpa using h1,fun j hj=>h2 j j (by simp [hj])⟩
 ·cases h
theorem zrW:∀(n fuel:Nat) (t:TypeId) (cs:List Value) (x:DataW H×List MemPlace),ztb P n t=true→DataW.trod enc P W 0 (fun _=>true) true fuel t cs=some x→(∀p∈x.2,p.block<W.heap.size)→∃avs,zn2 P n t avs∧zp8 W avs cs
 | 0,_,_,_,_,h,_,_=>by cases h
 |n+1,fuel,t,cs,x,hp,hx,hlt=>by
  have hmax:maxLen=9223372036854775807:=by unfold maxLen;decide
  unfold ztb at hp
  unfold zn2
  cases hu:P.underlying t with
  |none=>rw [hu] at hp;cases hp
  |some d =>
   rw [hu] at hp
   cases d with
   |bool =>
    obtain ⟨b,rfl,_⟩:=DataW.trod_bool hu hx
    exact ⟨_,⟨b,rfl⟩,zj7 (.lit _)⟩
   |int k =>
    obtain ⟨m,rfl,_,hw⟩:=DataW.trod_int hu hx
    exact ⟨_,⟨m,rfl,hw⟩,zj7 (.lit _)⟩
   |string =>
    obtain ⟨s,rfl,_,hl⟩:=DataW.trod_string hu hx
    exact ⟨_,⟨s.data.toList,rfl,by rw [←hmax];exact hl⟩,zj7 (.lit _)⟩
   |slice e =>
    simp only [Bool.and_eq_true] at hp
    have hk:0<P.cellsOf e:=Nat.le_of_ble_eq_true hp.1
    rcases DataW.trod_slice hu hx with ⟨rfl,rfl⟩ |⟨a,len,cap,elems,rest,n',rfl,rfl,rfl,hb,hl,hm,hlen,hel,hsp,hns⟩
    ·exact ⟨_,⟨[],rfl,by simp,fun r hr=>by cases hr⟩,zj7 (.inil _ _ _)⟩
    rcases Nat.eq_zero_or_pos len with h0 |h0
    ·subst h0
     exact ⟨_,⟨[],rfl,by simp,fun r hr=>by cases hr⟩,zj7 (.inil _ _ _)⟩
    have hrow:∀i,∃r,i<len→zn2 P n e r∧r.length=P.cellsOf e∧∃cl:List Value,cl.length=P.cellsOf e∧(∀j,j<P.cellsOf e→W.cell? ((a.add (i*P.cellsOf e)).add j)=cl[j]?)∧zp8 W r cl:=fun i=>by
     by_cases hi:i<len
     ·have h1:=hel i hi
      have h2:elems[i]?=some elems[i]:=List.getElem?_eq_getElem (by omega)
      rw [h2] at h1
      cases hc:W.cells? 0 (a.add (i*P.cellsOf e)) (P.cellsOf e) with
      |none=>rw [hc] at h1;cases h1
      |some cl =>
       rw [hc] at h1
       obtain ⟨k1,k2⟩:=zxo hc
       obtain ⟨r,g1,g2⟩:=zrW n n' e cl elems[i] hp.2 h1 (fun p hpp=>hlt p (by
        simp only [List.mem_append,List.mem_flatMap]
        exact .inr ⟨elems[i],.inl (List.getElem_mem _),hpp⟩))
       exact ⟨r,fun _=>⟨g1,by rw [g2.1,k1],cl,k1,k2,g2⟩⟩
     ·exact ⟨[],fun h=>absurd h hi⟩
    obtain ⟨f,hf⟩:=Classical.axiomOfChoice hrow
    have hspot:a.spot=none:=by
     obtain ⟨_,_,cl,k1,k2,_⟩:=hf 0 h0
     have h2:=k2 0 hk
     rw [List.getElem?_eq_getElem (by omega)] at h2
     simp only [Nat.zero_mul,Addr.add,if_true] at h2
     cases hs:a.spot with
     |none=>rfl
     |some q =>
      rw [World.cell?] at h2
      split at h2
      ·rw [hs] at h2;simp at h2
      ·cases h2
    obtain ⟨B,o,p⟩:=a
    simp only at hspot
    subst hspot
    have hB:B<W.heap.size:=hlt (.cell B (o+0)) (by
     refine List.mem_append.2 (.inl (List.mem_map.2 ⟨0,List.mem_range.2 ?_,rfl⟩))
     exact Nat.mul_pos (by omega) hk)
    have hadd:∀i j,(((⟨B,o,none⟩:Addr).add (i*P.cellsOf e)).add j)=⟨B,o+i*P.cellsOf e+j,none⟩:=fun i j=>by rw [zh1,zh1]
    refine ⟨_,⟨(List.range len).map f,rfl,by simp;omega,fun r hr=>?_⟩,zj7 ?_⟩
    ·obtain ⟨i,hi,rfl⟩:=List.mem_map.1 hr
     exact (hf i (List.mem_range.1 hi)).1
    ·have hl2:((List.range len).map f).length=len:=by simp
     have:=VI.isl (A:=fun B=>B<W.heap.size) (w:=W) (P.cellsOf e) ((List.range len).map f) B o cap (fun i j=>(W.cell? ⟨B,o+i*P.cellsOf e+j,none⟩).getD undef) hB (by rw [hl2];exact hl)
      (fun i hi=>by simp at hi;simpa using (hf i hi).2.1)
      (fun i j hi hj=>by
       rw [hl2] at hi
       obtain ⟨_,_,cl,k1,k2,_⟩:=hf i hi
       have:=k2 j hj
       rw [hadd,List.getElem?_eq_getElem (by omega)] at this
       rw [this];rfl)
      (fun i hi j hj=>by
       have hi':i<len:=by rw [hl2] at hi;exact hi
       obtain ⟨_,g,cl,k1,k2,g2⟩:=hf i hi'
       have e1:((List.range len).map f)[i]=f i:=by simp
       have hj':j<(f i).length:=by rw [e1] at hj;exact hj
       have h3:=k2 j (by omega)
       rw [hadd] at h3
       show VI _ W _ ((W.cell? _).getD undef)
       rw [h3,List.getElem?_eq_getElem (by omega)]
       have h4:=g2.2 j (f i)[j] cl[j] (List.getElem?_eq_getElem hj') (List.getElem?_eq_getElem (by omega))
       have e2:((List.range len).map f)[i][j]=(f i)[j]:=by simp
       rw [e2]
       exact h4)
     rw [hl2] at this
     exact this
   |struct fs =>
    simp only [Bool.and_eq_true,beq_iff_eq,List.all_eq_true] at hp
    obtain ⟨xs,n',rfl,rfl,hcl,hxl,hfs⟩:=DataW.trod_struct hu hx
    have hfs':∀(i:Nat) (f:Field),fs.toList[i]?=some f→DataW.trod enc P W 0 (fun _=>true) true n' f.type ((cs.drop f.offset).take (P.cellsOf f.type))=xs[i]?:=fun i f h=>hfs i f (by simpa using h)
    have key:∀(l:List Field) (k o e:Nat),fs.toList.drop k=l→zsN P o l=some e→∃parts:List (List AV),parts.length=l.length∧(∀(i:Nat) f p,l[i]?=some f→parts[i]?=some p→zn2 P n f.type p)∧zp8 W parts.flatten ((cs.drop o).take (e-o))∧o≤e:=by
     intro l
     induction l with
     |nil =>
      intro k o e _ hl
      simp only [zsN,Option.some.injEq] at hl
      subst hl
      exact ⟨[],rfl,fun i f p h=>by simp at h,⟨by simp,fun i av v h=>by simp at h⟩,Nat.le_refl _⟩
     |cons f l ih =>
      intro k o e hd hl
      unfold zsN at hl
      split at hl
      ·rename_i hoff
       have hk:fs.toList[k]?=some f:=by
        have:(fs.toList.drop k)[0]?=some f:=by rw [hd];rfl
        simpa using this
       have hd':fs.toList.drop (k+1)=l:=by
        have:=congrArg List.tail hd
        simpa [List.tail_drop] using this
       obtain ⟨parts,p1,p2,p3,p4⟩:=ih (k+1) _ e hd' hl
       have hr:=hfs' k f hk
       have hkl:k<xs.length:=by
        have:=(List.getElem?_eq_some_iff.1 hk).1
        simp at this;omega
       rw [List.getElem?_eq_getElem hkl,hoff] at hr
       obtain ⟨r,g1,g2⟩:=zrW n n' f.type _ xs[k] (hp.2 f (List.mem_of_getElem? hk)) hr (fun p hpp=>hlt p (List.mem_flatMap.2 ⟨xs[k],List.getElem_mem _,hpp⟩))
       refine ⟨r ::parts,by simp [p1],fun i f' p h1 h2=>?_,?_,by omega⟩
       ·cases i with
        |zero=>simp at h1 h2;subst h1 h2;exact g1
        |succ i=>exact p2 i f' p (by simpa using h1) (by simpa using h2)
       ·have e1:(cs.drop o).take (e-o)=(cs.drop o).take (P.cellsOf f.type)++(cs.drop (o+P.cellsOf f.type)).take (e-(o+P.cellsOf f.type)):=by
         have:e-o=P.cellsOf f.type+(e-(o+P.cellsOf f.type)):=by omega
         rw [this,List.take_add,List.drop_drop]
        rw [e1,List.flatten_cons]
        exact ztj g2 p3
      ·cases hl
    obtain ⟨parts,p1,p2,p3,_⟩:=key fs.toList 0 0 _ rfl hp.1
    refine ⟨parts.flatten,⟨parts,rfl,by simpa using p1,fun i f p h1 h2=>p2 i f p (by simpa using h1) h2⟩,?_⟩
    rwa [List.drop_zero,Nat.sub_zero,List.take_of_length_le (by omega)] at p3
   |_=>cases hp
theorem zvq{n:Nat}{t:TypeId}{v:Value}{d:DataW H}{ps:List MemPlace}(hp:ztb P n t=true)(h:DataW.Trod enc P W 0 (fun _=>true) true t v d ps)(hlt:∀p∈ps,p.block<W.heap.size):∃avs,zn2 P n t avs∧zp8 W avs v.cells.toList:=by
 obtain ⟨fuel,hf⟩:=h
 exact zrW n fuel t _ _ hp hf hlt
end
section
variable {P : Program} {n : Nat} {t : TypeId} {avs : List AV}
abbrev wI(k:IntKind)(x:Int):Prop:=(Lit.int k x).wf=true
abbrev wS(s:List UInt8):Prop:=s.length≤9223372036854775807
abbrev wT{α:Type}(_:α):Prop:=True
abbrev wL{α:Type}(w:α→Prop)(l:List α):Prop:=l.length≤9223372036854775807∧∀y∈l,w y
theorem gdB(hu:P.underlying t=some .bool)(h:zn2 P (n+1) t avs):∃x:Bool,avs=rB x∧wT x:=by
 unfold zn2 at h;rw [hu] at h;obtain ⟨b,rfl⟩:=h;exact ⟨b,rfl,trivial⟩
theorem gdI{k:IntKind}(hu:P.underlying t=some (.int k))(h:zn2 P (n+1) t avs):∃x:Int,avs=rI k x∧wI k x:=by
 unfold zn2 at h;rw [hu] at h;obtain ⟨m,rfl,hw⟩:=h;exact ⟨m,rfl,hw⟩
theorem gdS(hu:P.underlying t=some .string)(h:zn2 P (n+1) t avs):∃x:List UInt8,avs=zn x∧wS x:=by
 unfold zn2 at h;rw [hu] at h;obtain ⟨s,rfl,hw⟩:=h;exact ⟨s,rfl,hw⟩
theorem gdL{α:Type}{e:TypeId}{k:Nat}{f:α→List AV}{w:α→Prop}(hu:P.underlying t=some (.slice e))(hc:P.cellsOf e=k)(he:∀{r},zn2 P n e r→∃x:α,r=f x∧w x)(h:zn2 P (n+1) t avs):∃x:List α,avs=rL k f x∧wL w x:=by
 unfold zn2 at h;rw [hu] at h;obtain ⟨els,rfl,hl,hg⟩:=h
 subst hc
 have key:∀els:List (List AV),(∀r∈els,zn2 P n e r)→∃x:List α,els=x.map f∧∀y∈x,w y:=by
  intro els
  induction els with
  |nil=>intro _;exact ⟨[],rfl,fun y hy=>by cases hy⟩
  |cons r els ih =>
   intro h
   obtain ⟨x,rfl,hx⟩:=he (h r (by simp))
   obtain ⟨xs,rfl,hxs⟩:=ih fun r hr=>h r (by simp [hr])
   exact ⟨x ::xs,rfl,fun y hy=>by
    rcases List.mem_cons.1 hy with rfl |hy
    ·exact hx
    ·exact hxs y hy⟩
 obtain ⟨x,rfl,hx⟩:=key els hg
 exact ⟨x,rfl,by simpa using hl,hx⟩
theorem gdF{fs:Array Field}(hu:P.underlying t=some (.struct fs))(h:zn2 P (n+1) t avs):∃parts:List (List AV),avs=parts.flatten∧parts.length=fs.size∧∀(i:Nat) f p,fs[i]?=some f→parts[i]?=some p→zn2 P n f.type p:=by
 unfold zn2 at h;rw [hu] at h;exact h
variable {W : World}
theorem zBL{av:AV}{v:Value}(h:zp8 W [av] v.cells.toList)(hv:v.cells.toList=[v]):VI (fun B=>B<W.heap.size) W av v:=by
 rw [hv] at h
 exact h.2 0 av v rfl rfl
theorem zBK{cs:Array Value}(h:zp8 W avs (Value.agg cs).cells.toList):VI (fun B=>B<W.heap.size) W (.agg avs) (.agg cs):=by
 have h1:(Value.agg cs).cells.toList=cs.toList:=rfl
 rw [h1] at h
 refine .agg _ _ (by simpa using h.1.symm) fun i hi=>?_
 have hi':i<cs.size:=by have:=h.1;simp at this;omega
 have:=h.2 i avs[i] cs[i] (List.getElem?_eq_getElem hi) (by simp [hi'])
 simpa [Array.getD_eq_getD_getElem?,hi'] using this
theorem zrR{r:Reach}{base:Nat}{v:Value}{fs:Array Field}(hu:P.underlying t=some (.struct fs))(h:Value.okWide P W r base t v):∃cs,v=.agg cs:=by
 unfold Value.okWide at h
 rw [hu] at h
 obtain ⟨cs,h1,_⟩:=h
 exact ⟨cs,h1⟩
end
end
theorem zE5:zaj Tryz.prog 355 [] (.lit (.bool true)):=ziP [] 90 (by kernel_rfl) (fun g h=>by cases h) (by kernel_rfl)
theorem zE6:zaj Tryz.prog 232 [] (.lit (.bool true)):=ziP [355] 90 (by kernel_rfl) (kn1 zE5) (by kernel_rfl)
theorem zE7:zaj Tryz.prog 69 [] (.lit (.bool true)):=ziP [232] 90 (by kernel_rfl) (kn1 zE6) (by kernel_rfl)
theorem zE8:zaj Tryz.prog 364 [] (.lit (.bool true)):=ziP [69] 90 (by kernel_rfl) (kn1 zE7) (by kernel_rfl)
theorem zqk:zaj Tryz.prog 331 [] (.lit (.bool true)):=ziP [364] 90 (by kernel_rfl) (kn1 zE8) (by kernel_rfl)
theorem zE9:zaj Tryz.prog 254 [] (.lit (.bool true)):=ziP [331] 90 (by kernel_rfl) (kn1 zqk) (by kernel_rfl)
theorem zql:zaj Tryz.prog 179 [] (.lit (.bool true)):=ziP [254] 90 (by kernel_rfl) (kn1 zE9) (by kernel_rfl)
theorem zFa:zaj Tryz.prog 95 [] (.lit (.bool true)):=ziP [179] 90 (by kernel_rfl) (kn1 zql) (by kernel_rfl)
theorem zqm:zaj Tryz.prog 191 [] (.lit (.bool true)):=ziP [95] 90 (by kernel_rfl) (kn1 zFa) (by kernel_rfl)
theorem zrA{r:Bool}(_:true=r):zaj Tryz.prog 191 [] (bA true):=zqm
end
end Go.Proofs.YthmnlfenkhmmhaaGreat
namespace Go.Proofs
open Go.Shelf
def Tryz.lays190_ren:Go.Shelf.Ren:=⟨fun | 190=>338 | 125=>369 | 258=>368 | 128=>390 | 129=>391 | 302=>381 | 303=>382 | 304=>383 | 305=>384 | 306=>385 | 307=>386 | 308=>387 | 309=>388 | 310=>389 | 333=>392 | 329=>393 | 330=>394 | 334=>395 | 335=>396 | 336=>397 | 344=>398 |n=>n,fun | 31=>22 | 9=>9 | 3=>3 | 46=>211 | 0=>0 | 51=>319 | 53=>210 | 4=>4 | 183=>313 | 182=>312 | 131=>157 | 5=>5 | 218=>321 | 222=>325 | 228=>327 | 229=>248 |n=>n,fun |n=>n⟩
theorem Tryz.lays190:Go.Proofs.Lays.n190 Tryz.prog Tryz.lays190_ren:={
 mixed:=by kernel_rfl
 f125:=Tryz.func369.trans (congrArg some (by kernel_rfl))
 f128:=Tryz.func390.trans (congrArg some (by kernel_rfl))
 f129:=Tryz.func391.trans (congrArg some (by kernel_rfl))
 f190:=Tryz.func338.trans (congrArg some (by kernel_rfl))
 f258:=Tryz.func368.trans (congrArg some (by kernel_rfl))
 f302:=Tryz.func381.trans (congrArg some (by kernel_rfl))
 f303:=Tryz.func382.trans (congrArg some (by kernel_rfl))
 f304:=Tryz.func383.trans (congrArg some (by kernel_rfl))
 f305:=Tryz.func384.trans (congrArg some (by kernel_rfl))
 f306:=Tryz.func385.trans (congrArg some (by kernel_rfl))
 f307:=Tryz.func386.trans (congrArg some (by kernel_rfl))
 f308:=Tryz.func387.trans (congrArg some (by kernel_rfl))
 f309:=Tryz.func388.trans (congrArg some (by kernel_rfl))
 f310:=Tryz.func389.trans (congrArg some (by kernel_rfl))
 f329:=Tryz.func393.trans (congrArg some (by kernel_rfl))
 f330:=Tryz.func394.trans (congrArg some (by kernel_rfl))
 f333:=Tryz.func392.trans (congrArg some (by kernel_rfl))
 f334:=Tryz.func395.trans (congrArg some (by kernel_rfl))
 f335:=Tryz.func396.trans (congrArg some (by kernel_rfl))
 f336:=Tryz.func397.trans (congrArg some (by kernel_rfl))
 f344:=Tryz.func398.trans (congrArg some (by kernel_rfl))
 t0:=Tryz.underlying0
 a0:=Tryz.isAgg0
 z0:=Tryz.sizeOf0
 v0:=Tryz.zeroValue0
 t3:=Tryz.underlying3
 a3:=Tryz.isAgg3
 z3:=Tryz.sizeOf3
 v3:=Tryz.zeroValue3
 t4:=Tryz.underlying4
 a4:=Tryz.isAgg4
 z4:=Tryz.sizeOf4
 v4:=Tryz.zeroValue4
 t5:=Tryz.underlying5
 a5:=Tryz.isAgg5
 z5:=Tryz.sizeOf5
 v5:=Tryz.zeroValue5
 t9:=Tryz.underlying9
 a9:=Tryz.isAgg9
 z9:=Tryz.sizeOf9
 v9:=Tryz.zeroValue9
 t31:=Tryz.underlying22
 a31:=Tryz.isAgg22
 z31:=Tryz.sizeOf22
 v31:=Tryz.zeroValue22
 t46:=Tryz.underlying211
 a46:=Tryz.isAgg211
 z46:=Tryz.sizeOf211
 v46:=Tryz.zeroValue211
 t51:=Tryz.underlying319
 a51:=Tryz.isAgg319
 z51:=Tryz.sizeOf319
 v51:=Tryz.zeroValue319
 t53:=Tryz.underlying210
 a53:=Tryz.isAgg210
 z53:=Tryz.sizeOf210
 v53:=Tryz.zeroValue210
 t131:=Tryz.underlying157
 a131:=Tryz.isAgg157
 z131:=Tryz.sizeOf157
 v131:=Tryz.zeroValue157
 t182:=Tryz.underlying312
 a182:=Tryz.isAgg312
 z182:=Tryz.sizeOf312
 v182:=Tryz.zeroValue312
 t183:=Tryz.underlying313
 a183:=Tryz.isAgg313
 z183:=Tryz.sizeOf313
 v183:=Tryz.zeroValue313
 t218:=Tryz.underlying321
 a218:=Tryz.isAgg321
 z218:=Tryz.sizeOf321
 v218:=Tryz.zeroValue321
 t222:=Tryz.underlying325
 a222:=Tryz.isAgg325
 z222:=Tryz.sizeOf325
 v222:=Tryz.zeroValue325
 t228:=Tryz.underlying327
 a228:=Tryz.isAgg327
 z228:=Tryz.sizeOf327
 v228:=Tryz.zeroValue327
 t229:=Tryz.underlying248
 a229:=Tryz.isAgg248
 z229:=Tryz.sizeOf248
 v229:=Tryz.zeroValue248 }
end Go.Proofs
namespace Go.Proofs.YthmnlfenkhmmhaaGreat
noncomputable section
open List (length map)
set_option linter.unusedVariables false
set_option linter.unusedSectionVars false
set_option linter.unusedSimpArgs false
set_option maxRecDepth 100000
set_option maxHeartbeats 4000000
section
open Go.Sort Go.RowKit
theorem R.redo{A:Nat→Prop}{m:BM}{w w':World}{st:St}(hR:R A m w st){l k:Nat}{els els':List (List AV)}(hl:st[l]?=some (some (k,els))){b:Blk}(hb:m l=some b)(hh:b.has=true)(hm:b.mp=false)
  (hsize:w.heap.size≤w'.heap.size) (hos:w'.os=w.os) (htape:w'.tape=w.tape) (hout:w'.output=w.output) (hother:∀B,B<w.heap.size→B≠b.B→w'.heap[B]?=w.heap[B]?)
  (hlen:els'.length=els.length) (hthere:∀off,off<b.top→∃v,w'.cell? ⟨b.B,off,none⟩=some v) (hfree:∀off,off<b.top→fz w' ⟨b.B,off,none⟩=false) (hw:∀i (h:i<els'.length),els'[i].length=b.k)
  (hv:∀i (h:i<els'.length) j (h':j<els'[i].length),∃v,w'.cell? ⟨b.B,b.o+i*b.k+j,none⟩=some v∧V A m st.length w els'[i][j] v):
  R A m w' (st.set l (some (k,els')))∧zel A m st.length w A m st.length w':=by
 obtain ⟨hbk,hok,_⟩:=hR.at hb hl
 replace hok:=hok hh
 have hS:zel A m st.length w A m st.length w':=
  ⟨Nat.le_refl _,hsize,fun _ h=>h,fun _ h=>.inl h,fun _ _=>.inl rfl,fun l b h hh=>.inr ⟨l,b,h,hh,rfl⟩,fun B hB ho=>hother B hB (fun e=>ho l b hb hh e.symm),hos,htape,hout⟩
 have hV:∀av v,V A m st.length w av v→V A m st.length w' av v:=fun av v h=>h.step hR hS
 have hlt:l<st.length:=hR.lt hb
 refine ⟨⟨fun B hB=>Nat.lt_of_lt_of_le (hR.aLow B hB) hsize,hR.aOwn,hR.inj,fun l' b' h=>?_,fun l' k' els1 he=>?_⟩,hS⟩
 ·obtain ⟨els1,he⟩:=hR.live l' b' h
  by_cases e:l'=l
  ·subst e
   have:b'=b:=Option.some.inj (h.symm.trans hb)
   subst this
   exact ⟨els',by simp [hlt,hbk]⟩
  ·exact ⟨els1,by rw [List.getElem?_set_ne (Ne.symm e)];exact he⟩
 ·rw [List.length_set]
  by_cases e:l'=l
  ·subst e
   rw [List.getElem?_set_self hlt] at he
   simp at he
   obtain ⟨rfl,rfl⟩:=he
   refine ⟨b,hb,hbk,fun _=>zo7.blk ⟨Nat.lt_of_lt_of_le hok.low hsize,hthere,hfree,by rw [hlen];exact hok.fit hm,hw,fun i hi j hj=>?_⟩ hm,fun h=>by rw [hh] at h;cases h⟩
   obtain ⟨v,h1,h2⟩:=hv i hi j hj
   exact ⟨v,h1,hV _ _ h2⟩
  ·rw [List.getElem?_set_ne (Ne.symm e)] at he
   obtain ⟨b',h1,h2,h3,h4⟩:=hR.blk l' k' els1 he
   refine ⟨b',h1,h2,fun hh'=>(h3 hh').keep hsize (hother _ (h3 hh').low (fun e'=>e (hR.inj l' l b' b h1 hb hh' hh e'))) hV,h4⟩
def zu6(s:List UInt8):List (List UInt8)→List (List UInt8)
 | []=>[s]
 |x ::r=>if s≤x then s ::x ::r else x ::zu6 s r
def zoE:List (List UInt8)→List (List UInt8)
 | []=>[]
 |x ::r=>zu6 x (zoE r)
theorem zlw(s:List UInt8):∀l,(zu6 s l).Perm (s ::l)
 | []=>.refl _
 |x ::r=>by
  unfold zu6
  split
  ·exact .refl _
  ·exact (List.Perm.cons x (zlw s r)).trans (List.Perm.swap s x r)
theorem zg3:∀l,(zoE l).Perm l
 | []=>.refl _
 |x ::r=>(zlw x (zoE r)).trans (List.Perm.cons x (zg3 r))
theorem zBi(a b:List UInt8):a≤b∨b≤a:=List.le_total a b
theorem zmY(s:List UInt8):∀{l:List (List UInt8)},l.Pairwise (·≤·)→(zu6 s l).Pairwise (·≤·)
 | [],_=>by simp [zu6]
 |x ::r,h=>by
  obtain ⟨h1,h2⟩:=List.pairwise_cons.1 h
  unfold zu6
  split
  ·rename_i hs
   refine List.pairwise_cons.2 ⟨fun y hy=>?_,h⟩
   rcases List.mem_cons.1 hy with rfl |hy
   ·exact hs
   ·exact List.le_trans hs (h1 y hy)
  ·rename_i hs
   refine List.pairwise_cons.2 ⟨fun y hy=>?_,zmY s h2⟩
   rcases List.mem_cons.1 ((zlw s r).mem_iff.1 hy) with rfl |hy
   ·exact (zBi y x).resolve_left hs
   ·exact h1 y hy
theorem zkt:∀l:List (List UInt8),(zoE l).Pairwise (·≤·)
 | []=>List.Pairwise.nil
 |x ::r=>zmY x (zkt r)
theorem zx1(l:List (List UInt8)):(l.mergeSort fun x y=>decide (x≤y))=zoE l:=by
 have h1:(l.mergeSort fun x y=>decide (x≤y)).Pairwise (·≤·):=by
  have:=List.pairwise_mergeSort (le:=fun x y:List UInt8=>decide (x≤y)) (fun a b c h1 h2=>decide_eq_true (List.le_trans (of_decide_eq_true h1) (of_decide_eq_true h2))) (fun a b=>by
   rcases zBi a b with h |h
   ·simp [h]
   ·simp [h]) l
  exact this.imp fun h=>of_decide_eq_true h
 exact List.Perm.eq_of_pairwise (fun a b _ _ h1 h2=>List.le_antisymm h1 h2) h1 (zkt l) ((List.mergeSort_perm l _).trans (zg3 l).symm)
def zwL(l:List (List UInt8)):Option (List (List UInt8)):=if l.length<4611686018427387904 then some (zoE l) else none
theorem zyU{l r:List (List UInt8)}(h:zwL l=some r):r.length=l.length:=by
 unfold zwL at h
 split at h
 ·cases h;exact (zg3 _).length_eq
 ·cases h
theorem zz3{w w':World}{b:Nat}(h:∀c e fr,w.heap[b]?=some (.cells c e fr)→∃c',w'.heap[b]?=some (.cells c' e fr))(hc:∃c e fr,w.heap[b]?=some (.cells c e fr))(off:Nat):fz w' ⟨b,off,none⟩=fz w ⟨b,off,none⟩:=by
 obtain ⟨c,e,fr,h1⟩:=hc
 obtain ⟨c',h2⟩:=h c e fr h1
 simp only [fz,h1,h2]
theorem zAG(l:List (List UInt8)){r:List (List UInt8)}(h:zwL l=some r):SC Tryz.prog 338 [.msl 0 0 (List.length l)] [.many 1 (List.map zn l)] (.tup []) [.many 1 (List.map zn r)]:=by
 unfold zwL at h
 split at h
 case isFalse=>cases h
 rename_i hsz
 cases h
 refine ⟨⟨zg0 (sz:=1) (fun _=>rfl),trivial⟩,?_⟩
 cases l with
 |nil =>
  exact zug (kn:=[]) (by kernel_rfl) (fun g h=>by cases h) 40 _ _ _ _ _ (by kernel_rfl)
 |cons x l =>
  generalize hl:x ::l=ss at *
  have hne:0<ss.length:=by rw [←hl];simp
  refine ⟨⟨_,Tryz.func338,by kernel_rfl,by kernel_rfl⟩,fun A m w vals hR hv=>?_⟩
  have h0:V A m 1 w (.msl 0 0 ss.length) (vals.getD 0 undef):=hv.2 0 (by simp)
  obtain ⟨hlt,a,n',cap,hval,hb⟩:=h0.msl_inv
  obtain ⟨b,h1,h2,h3,h4⟩:=hR.blk 0 1 (List.map zn ss) rfl
  obtain ⟨rfl,hcap,hc⟩:=hb b h1
  rcases hc with rfl |⟨hh,hm,rfl,hfit⟩
  ·omega
  have hok:=(h3 hh).cells hm
  have hvals:vals=#[.slice (some ⟨b.B,b.o,none⟩) ss.length cap]:=by
   have h5:vals.size=1:=hv.1
   obtain ⟨u,rfl⟩:=Array.size_eq_one_iff.1 h5
   have:u=.slice (some ⟨b.B,b.o+0*b.k,none⟩) ss.length cap:=hval
   rw [this];simp
  subst hvals
  rw [h2] at hfit
  have hcell:∀j (hj:j<ss.length),w.cell? ⟨b.B,b.o+j,none⟩=some (.string (B ss[j])):=fun j hj=>by
   obtain ⟨v,h5,h6⟩:=hok.val j (by simpa using hj) 0 (by simp [zn])
   rw [h2] at h5
   have e1:(List.map zn ss)[j]'(by simpa using hj)=[.lit (.string (B ss[j]))]:=by simp [zn]
   have h7:V A m 1 w (.lit (.string (B ss[j]))) v:=by
    have:((List.map zn ss)[j]'(by simpa using hj))[0]'(by simp [zn])=.lit (.string (B ss[j])):=by simp [zn]
    rw [←this];exact h6
   rw [h7.lit_inv] at h5
   simpa using h5
  have hH:Holds encStr w b.B b.o ss.toArray:=fun j hj=>by
   have hj':j<ss.length:=by simpa using hj
   refine ⟨?_,znA (hok.free _ (by omega))⟩
   rw [hcell j hj']
   congr 1
   simp [encStr,hj']
  refine (Any.slices_Sort_string Tryz.lays190 b.B b.o cap ss w hH hok.low hsz).mono fun e w' ⟨he,n,os,hw'⟩=>?_
  rw [zx1] at hw'
  generalize hso:zoE ss=so at hw' ⊢
  have hsl:so.length=ss.length:=by rw [←hso];exact (zg3 _).length_eq
  have hsa:so.toArray.size=ss.toArray.size:=by simp [hsl]
  have hlow:=hok.low
  have hheap:∀B,B<w.heap.size→B≠b.B→w'.heap[B]?=w.heap[B]?:=fun B hB hne=>by
   rw [hw',heap_grow_old _ _ (by simpa using hB)]
   show ((Go.Sort.ahead w n).heap.modify b.B _)[B]?=_
   rw [Array.getElem?_modify,if_neg (Ne.symm hne)];rfl
  have hcs:∀a:Addr,a.block=b.B→w'.cell? a=(putRow encStr w b.B b.o so.toArray).cell? a:=fun a ha=>by
   rw [hw',cell?_grow _ _ _ (by rw [ha];simpa using hlow)];rfl
  have hin:∀j (hj:j<so.length),w'.cell? ⟨b.B,b.o+j,none⟩=some (.string (B so[j])):=fun j hj=>by
   rw [hcs _ rfl,cell?_putRow encStr w b.B b.o ss.toArray so.toArray hH hsa j (by simpa using hj)]
   simp [encStr,hj]
  have hobj:∃c e fr,w.heap[b.B]?=some (.cells c e fr):=by
   obtain ⟨v,h5⟩:=hok.there b.o (by omega)
   unfold World.cell? at h5
   split at h5
   ·rename_i c e fr hq;exact ⟨c,e,_,hq⟩
   ·cases h5
  have hred:=hR.redo (w':=w') (l:=0) (k:=1) (els:=List.map zn ss) (els':=List.map zn so) rfl h1 hh hm (by rw [hw'];simp) (by rw [hw'];rfl) (by rw [hw'];rfl) (by rw [hw'];rfl) hheap (by simp [hsl])
   (fun off ho=>by
    rw [hcs _ rfl]
    by_cases hin2:b.o≤off∧off<b.o+so.length
    ·have:=hin (off-b.o) (by omega)
     rw [hcs _ rfl,show b.o+(off-b.o)=off by omega] at this
     exact ⟨_,this⟩
    ·rw [cell?_putRow_other _ _ _ _ _ _ (by right;simp;omega)]
     exact hok.there off ho)
   (fun off ho=>by
    rw [zz3 (w:=w) (fun c e fr hq=>?_) hobj]
    ·exact hok.free off ho
    ·refine ⟨putCells encStr b.o so.toArray c,?_⟩
     rw [hw',heap_grow_old _ _ (by simpa using hlow)]
     show ((Go.Sort.ahead w n).heap.modify b.B _)[b.B]?=_
     rw [Array.getElem?_modify,if_pos rfl]
     show (w.heap[b.B]?).map _=_
     rw [hq];rfl)
   (fun i hi=>by rw [h2];simp [zn])
   (fun i hi j hj=>by
    have hi':i<so.length:=by simpa using hi
    have hj0:j=0:=by simp [zn] at hj;exact hj
    subst hj0
    refine ⟨.string (B so[i]),by rw [h2,Nat.mul_one,Nat.add_zero];exact hin i hi',?_⟩
    have:(List.map zn so)[i][0]'hj=.lit (.string (B so[i])):=by simp [zn]
    rw [this];exact .imm (.lit _))
  exact ⟨.tuple #[],A,m,_,.tup [],he,hred.1,hred.2,.imm (.tup _ _ rfl fun i hi=>by cases hi),rfl,rfl⟩
end
structure zl where
  Op:Int
  A:Int
  C:T0
  M:T0
def zA(x:zl):List AV:=[iA x.Op,iA x.A,sA x.C,sA x.M]
def zgw(a:UInt8):Bool:=
  ((decide (97≤(a.toNat:Int)))&&(decide ((a.toNat:Int)≤122)))
instance (a:UInt8):PF Tryz.prog 237 [.lit (.int .u8 (a.toNat:Int))] (some (zgw a)) bA:=.of fun r h=>by
 refine zj Tryz.func237 y kz y y ?_
 unfold zgw at h
 refine A ?_
 refine A ?_
 refine zK ?_
 obtain rfl:=h
 exact ⟨_,y,zbG []⟩
def zef(a:UInt8):Bool:=
  ((decide (65≤(a.toNat:Int)))&&(decide ((a.toNat:Int)≤90)))
instance (a:UInt8):PF Tryz.prog 249 [.lit (.int .u8 (a.toNat:Int))] (some (zef a)) bA:=.of fun r h=>by
 refine zj Tryz.func249 y kz y y ?_
 unfold zef at h
 refine A ?_
 refine A ?_
 refine zK ?_
 obtain rfl:=h
 exact ⟨_,y,zbG []⟩
def zhI(a:UInt8):Bool:=
  ((decide (48≤(a.toNat:Int)))&&(decide ((a.toNat:Int)≤57)))
instance (a:UInt8):PF Tryz.prog 322 [.lit (.int .u8 (a.toNat:Int))] (some (zhI a)) bA:=.of fun r h=>by
 refine zj Tryz.func322 y kz y y ?_
 unfold zhI at h
 refine A ?_
 refine A ?_
 refine zK ?_
 obtain rfl:=h
 exact ⟨_,y,zbG []⟩
def zsM(a:T0):Option (Bool):=
  some ((!(a == []))&&(decide ((length a:Int)≤8)))
def zha(b:T0)(a:Int):Option (Sum (Int) (Sum (Unit) (Bool))):=
  cond (decide (a<(length b:Int))) ((idx b a).bind fun i=>(cond (!(zgw i)) ((idx b a).bind fun c=>some (!(zef c))) (some false)).bind fun d=>(cond d ((idx b a).bind fun e=>some (!(zhI e))) (some false)).bind fun f=>cond f (some (.inr (.inr false))) (some (.inl (IntKind.i64.wrap (a+1))))) (some (.inr (.inl ())))
def zly(a:T0):Option (Bool):=
  (zm (fun z=>zha a z) 0).bind fun o=>zI o (fun b=>zsM a) some
instance (a:T0):PF Tryz.prog 236 [sA a] (zly a) bA:=⟨fun r h=>by
 refine zj Tryz.func236 y kz y y<|A ?_
 refine zh<|A ?_
 obtain ⟨o,ho,h⟩:=bs h
 refine lpB ho (fun z=>[(0,sA a),(5,iA (length a:Int)),(6,iA z)]) (fun z=>[]) (fun b=>[(0,sA a)]) (fun b=>[]) (pG Tryz.f236 bA) (zcs []) ?_ ?_
 ·rintro m r h
  refine A ?_
  refine zh ?_
  refine zeh h y (fun c h=>?_) fun c h=>?_
  ·refine zf<|zh<|zp<|A ?_
   obtain ⟨n,e,f,i,j,l,h⟩:=bs3 h
   refine A ?_
   refine zeh h y (fun d h=>?_) fun d h=>?_
   ·refine A ?_
    refine zK ?_
    obtain rfl:=sm h
    exact ⟨_,y,_,y,zbG []⟩
   ·refine zf<|A ?_
    obtain rfl:=sm h
    exact ⟨_,y,zH []⟩
  ·refine zG ?_
   obtain rfl:=sm h
   exact ⟨y,_,y,zH []⟩
 ·rintro ⟨⟩ rfl
  refine zv<|A ?_
  exact RT0⟩
def zgu(a:T0):Option (Bool):=
  (zly a).bind fun b=>(cond (b&&(decide (1<(length a:Int)))) ((idx a 0).bind fun c=>some (zef c)) (some false)).bind fun d=>some d
instance (a:T0):PF Tryz.prog 158 [sA a] (zgu a) bA:=⟨fun r h=>by
 refine zj Tryz.func158 y kz y y<|A ?_
 obtain ⟨b,c,d,e,h⟩:=bs2 h
 refine A ?_
 exact RT0⟩
def zjW(a:T0):Option (Bool):=
  (cond (a == [36,105,110,105,116]) (some true) ((zly a).bind fun b=>(cond b ((idx a 0).bind fun c=>some (zgw c)) (some false)).bind fun d=>some d)).bind fun e=>some e
instance (a:T0):PF Tryz.prog 152 [sA a] (zjW a) bA:=⟨fun r h=>by
 refine zj Tryz.func152 y kz y y<|A ?_
 obtain ⟨b,c,h⟩:=bs h
 refine A ?_
 exact RT0⟩
def zdp(b:T0)(a:T0):Option (Bool):=
  (cond (decide ((length a:Int)≤(length b:Int))) ((zjs b 0 (length a:Int)).bind fun c=>some (c == a)) (some false)).bind fun d=>some d
instance (f:T0)(e:T0):PF Tryz.prog 168 [sA f,sA e] (zdp f e) bA:=⟨fun r h=>by
 refine zj Tryz.func168 y kz y y<|A ?_
 obtain ⟨l,d,h⟩:=bs h
 refine A ?_
 refine zik (x:=l) (j:=5) 6 y y y y y gpn (fun c=>by replace d:=bT c d;obtain ⟨m,i,d⟩:=bs d;obtain rfl:=sm d;exact g y c<|mv y<|g y c<|mv y<|g y c<|lnS ti y y<|g y c<|slS (a:=0) (b:=(length e:Int)) ti y y y (zox y i) i<|g y c<|mv y<|g y c<|seq ti y y<|zJ (eg [11,12,13,14,15,16] 6 y y y y)) (fun hb=>(sm (bF hb d)).symm)<|A ?_
 exact RT0⟩
def zc5(a:T0)(b:T0):Option (T0):=
  (zdp a b).bind fun c=>cond c ((zjs a (length b:Int) (length a:Int)).bind fun d=>some d) (some a)
instance (c:T0)(d:T0):PF Tryz.prog 323 [sA c,sA d] (zc5 c d) sA:=⟨fun r h=>by
 refine zj Tryz.func323 y kz y y<|A ?_
 refine zh ?_
 obtain ⟨i,j,h⟩:=bs h
 refine A ?_
 refine zeh h y (fun e h=>?_) fun e h=>?_
 ·obtain ⟨l,f,h⟩:=bs h
  refine A ?_
  refine u<|slS (a:=(length d:Int)) (b:=(length c:Int)) ti y y (zuH y f) y f<|A ?_
  exact RT0
 ·refine zf<|A ?_
  exact RT0⟩
def zeV(a:T0)(b:T0):Option (T0):=
  (zc5 a b).bind fun c=>some c
instance (a:T0)(b:T0):PF Tryz.prog 238 [sA a,sA b] (zeV a b) sA:=⟨fun r h=>by
 refine zj Tryz.func238 y kz y y<|A ?_
 obtain ⟨c,d,h⟩:=bs h
 refine A ?_
 exact RT0⟩
def zh4(b:T0):Option (Bool):=
  (zeV b [91]).bind fun c=>(zeV c [91]).bind fun a=>(cond (a == [73]) (some true) ((zgu a).bind fun d=>some d)).bind fun e=>some e
instance (a:T0):PF Tryz.prog 153 [sA a] (zh4 a) bA:=⟨fun r h=>by
 refine zj Tryz.func153 y kz y y<|A ?_
 obtain ⟨b,c,d,e,h⟩:=bs2 h
 refine A ?_
 obtain ⟨f,i,h⟩:=bs h
 refine A ?_
 exact RT0⟩
def zku(a:T0):Option (Bool):=
  (cond (!(a == [73])) ((zh4 a).bind fun b=>some b) (some false)).bind fun c=>some c
instance (a:T0):PF Tryz.prog 107 [sA a] (zku a) bA:=⟨fun r h=>by
 refine zj Tryz.func107 y kz y y<|A ?_
 obtain ⟨b,c,h⟩:=bs h
 refine A ?_
 exact RT0⟩
def zfp(a:Int)(b:Int)(c:Int):Bool:=
  ((decide (b≤a))&&(decide (a≤c)))
instance (a:Int)(b:Int)(c:Int):PF Tryz.prog 288 [iA a,iA b,iA c] (some (zfp a b c)) bA:=.of fun r h=>by
 refine zj Tryz.func288 y kz y y ?_
 unfold zfp at h
 refine A ?_
 refine A ?_
 refine zK ?_
 obtain rfl:=h
 exact ⟨_,y,zbG []⟩
def zl4(a:Int):Bool:=
  (zfp a 1 61)
instance (a:Int):PF Tryz.prog 360 [iA a] (some (zl4 a)) bA:=.of fun r h=>by
 refine zj Tryz.func360 y kz y y ?_
 unfold zl4 at h
 refine A ?_
 refine A ?_
 refine zK ?_
 obtain rfl:=h
 exact ⟨_,y,zbG []⟩
def zf7(a:Int):Bool:=
  (zfp a 20 36)
instance (a:Int):PF Tryz.prog 201 [iA a] (some (zf7 a)) bA:=.of fun r h=>by
 refine zj Tryz.func201 y kz y y ?_
 unfold zf7 at h
 refine A ?_
 refine A ?_
 refine zK ?_
 obtain rfl:=h
 exact ⟨_,y,zbG []⟩
def zm8(a:Int)(b:Int):Bool:=
  cond (a == (1:Int)) ((zfp b (-2147483648) 2147483647)) (cond ((a == (3:Int))||(a == (4:Int))) ((zfp b 0 15)) (cond (zf7 a) ((zfp b 0 99)) ((b == (0:Int)))))
instance (a:Int)(b:Int):PF Tryz.prog 361 [iA a,iA b] (some (zm8 a b)) bA:=.of fun r h=>by
 refine zj Tryz.func361 y kz y y<|A ?_
 refine zh<|zp<|A ?_
 refine zeh h y (fun c h=>?_) fun c h=>?_
 ·refine A ?_
  refine zK ?_
  obtain rfl:=h
  exact ⟨_,y,zbG []⟩
 ·refine A ?_
  refine zeh h y (fun d h=>?_) fun d h=>?_
  ·refine A ?_
   refine zK ?_
   obtain rfl:=h
   exact ⟨_,y,zbG []⟩
  ·refine A ?_
   refine zeh h y (fun e h=>?_) fun e h=>?_
   ·refine A ?_
    refine zK ?_
    obtain rfl:=h
    exact ⟨_,y,zbG []⟩
   ·refine zf<|A ?_
    refine zK ?_
    obtain rfl:=h
    exact ⟨_,y,zbG []⟩
def ziM(a:Int):Bool:=
  (((a == (50:Int))||(a == (56:Int)))||(a == (57:Int)))
instance (a:Int):PF Tryz.prog 380 [iA a] (some (ziM a)) bA:=.of fun r h=>by
 refine zj Tryz.func380 y kz y y ?_
 unfold ziM at h
 refine A ?_
 refine A ?_
 refine zK ?_
 obtain rfl:=h
 exact ⟨_,y,zbG []⟩
def zCX(a:Int):Bool:=
  (zfp a 38 45)
instance (a:Int):PF Tryz.prog 373 [iA a] (some (zCX a)) bA:=.of fun r h=>by
 refine zj Tryz.func373 y kz y y ?_
 unfold zCX at h
 refine A ?_
 refine A ?_
 refine zK ?_
 obtain rfl:=h
 exact ⟨_,y,zbG []⟩
def zCW(a:Int):Bool:=
  (((a == (37:Int))||(zCX a))||(ziM a))
instance (a:Int):PF Tryz.prog 372 [iA a] (some (zCW a)) bA:=.of fun r h=>by
 refine zj Tryz.func372 y kz y y ?_
 unfold zCW at h
 refine A ?_
 refine A ?_
 refine zK ?_
 obtain rfl:=h
 exact ⟨_,y,zbG []⟩
def zrT(b:Int)(a:T0):Option (Bool):=
  cond (ziM b) ((zku a).bind fun c=>some c) (cond (zCW b) ((zgu a).bind fun d=>some d) (some (a == [])))
instance (a:Int)(b:T0):PF Tryz.prog 362 [iA a,sA b] (zrT a b) bA:=⟨fun r h=>by
 refine zj Tryz.func362 y kz y y<|A ?_
 refine zh<|zp<|A ?_
 refine zeh h y (fun c h=>?_) fun c h=>?_
 ·obtain ⟨e,f,h⟩:=bs h
  refine A ?_
  exact RT0
 ·refine A ?_
  refine zeh h y (fun d h=>?_) fun d h=>?_
  ·obtain ⟨i,j,h⟩:=bs h
   refine A ?_
   exact RT0
  ·refine zf<|A ?_
   exact RT0⟩
def zrU(b:Int)(a:T0):Option (Bool):=
  cond (zCX b) ((zjW a).bind fun c=>some (c&&(!(a == [36,105,110,105,116])))) (some (a == []))
instance (a:Int)(b:T0):PF Tryz.prog 363 [iA a,sA b] (zrU a b) bA:=⟨fun r h=>by
 refine zj Tryz.func363 y kz y y<|A ?_
 refine zh<|A ?_
 refine zeh h y (fun c h=>?_) fun c h=>?_
 ·obtain ⟨d,e,h⟩:=bs h
  refine A ?_
  exact RT0
 ·refine zf<|A ?_
  exact RT0⟩
def zvi(a:zl):Option (Bool):=
  (cond ((zl4 a.Op)&&(zm8 a.Op a.A)) ((zrT a.Op a.C).bind fun b=>some b) (some false)).bind fun c=>(cond c ((zrU a.Op a.M).bind fun d=>some d) (some false)).bind fun e=>some e
instance (a:zl):PF Tryz.prog 326 [.agg (zA a)] (zvi a) bA:=⟨fun r h=>by
 refine zj Tryz.func326 y kz y y<|A ?_
 obtain ⟨b,c,d,e,h⟩:=bs2 h
 refine A ?_
 exact RT0⟩
def zl8(a:UInt8):Bool:=
  ((decide (65≤(a.toNat:Int)))&&(decide ((a.toNat:Int)≤90)))
instance (a:UInt8):PF Tryz.prog 265 [.lit (.int .u8 (a.toNat:Int))] (some (zl8 a)) bA:=.of fun r h=>by
 refine zj Tryz.func265 y kz y y ?_
 unfold zl8 at h
 refine A ?_
 refine A ?_
 refine zK ?_
 obtain rfl:=h
 exact ⟨_,y,zbG []⟩
def zkG(a:UInt8):Bool:=
  ((decide (97≤(a.toNat:Int)))&&(decide ((a.toNat:Int)≤122)))
instance (a:UInt8):PF Tryz.prog 266 [.lit (.int .u8 (a.toNat:Int))] (some (zkG a)) bA:=.of fun r h=>by
 refine zj Tryz.func266 y kz y y ?_
 unfold zkG at h
 refine A ?_
 refine A ?_
 refine zK ?_
 obtain rfl:=h
 exact ⟨_,y,zbG []⟩
def zl7(a:UInt8):Bool:=
  ((decide (48≤(a.toNat:Int)))&&(decide ((a.toNat:Int)≤57)))
instance (a:UInt8):PF Tryz.prog 267 [.lit (.int .u8 (a.toNat:Int))] (some (zl7 a)) bA:=.of fun r h=>by
 refine zj Tryz.func267 y kz y y ?_
 unfold zl7 at h
 refine A ?_
 refine A ?_
 refine zK ?_
 obtain rfl:=h
 exact ⟨_,y,zbG []⟩
def zrZ(a:T0):Option (Bool):=
  some ((decide (2≤(length a:Int)))&&(decide ((length a:Int)≤8)))
def zdV(b:T0)(a:Int):Option (Sum (Int) (Sum (Unit) (Bool))):=
  cond (decide (a<(length b:Int))) ((idx b a).bind fun c=>(cond (!(zl8 c)) ((cond (a == (0:Int)) (some true) ((idx b a).bind fun d=>(cond (!(zkG d)) ((idx b a).bind fun e=>some (!(zl7 e))) (some false)).bind fun f=>some f)).bind fun i=>some i) (some false)).bind fun j=>cond j (some (.inr (.inr false))) (some (.inl (IntKind.i64.wrap (a+1))))) (some (.inr (.inl ())))
def zl5(a:T0):Option (Bool):=
  (zm (fun z=>zdV a z) 0).bind fun o=>zI o (fun b=>zrZ a) some
instance (a:T0):PF Tryz.prog 185 [sA a] (zl5 a) bA:=⟨fun r h=>by
 refine zj Tryz.func185 y kz y y<|A ?_
 refine zh<|A ?_
 obtain ⟨o,ho,h⟩:=bs h
 refine lpB ho (fun z=>[(0,sA a),(3,iA z)]) (fun z=>[]) (fun b=>[(0,sA a)]) (fun b=>[]) (pG Tryz.f185 bA) (zcs []) ?_ ?_
 ·rintro l r h
  refine zh<|A ?_
  refine zeh h y (fun c h=>?_) fun c h=>?_
  ·refine zf<|zh<|zp ?_
   obtain ⟨e,f,i,j,h⟩:=bs2 h
   refine A ?_
   refine zeh h y (fun d h=>?_) fun d h=>?_
   ·refine A ?_
    refine zK ?_
    obtain rfl:=sm h
    exact ⟨_,y,_,y,zbG []⟩
   ·refine zf<|A ?_
    obtain rfl:=sm h
    exact ⟨_,y,zH []⟩
  ·refine zG ?_
   obtain rfl:=sm h
   exact ⟨y,_,y,zH []⟩
 ·rintro ⟨⟩ rfl
  refine zv<|A ?_
  exact RT0⟩
def zna(a:T0):Option (Bool):=
  (cond (a == [73]) (some true) ((zl5 a).bind fun b=>some b)).bind fun c=>some c
def zhV(a:T0)(b:Int):Option (Sum (T0×Int) (Sum (T0) (Bool))):=
  (cond ((decide (b<2))&&(decide (0<(length a:Int)))) ((idx a 0).bind fun e=>some ((e.toNat:Int) == (91:Int))) (some false)).bind fun c=>cond c ((zjs a 1 (length a:Int)).bind fun d=>some (.inl (d,(IntKind.i64.wrap (b+1))))) (some (.inr (.inl a)))
def zl6(a:T0):Option (Bool):=
  (zm (fun z=>zhV z.1 z.2) (a,0)).bind fun o=>zI o (fun b=>zna b) some
instance (e:T0):PF Tryz.prog 187 [sA e] (zl6 e) bA:=⟨fun r h=>by
 refine zj Tryz.func187 y kz y y<|A ?_
 refine zh<|A ?_
 obtain ⟨o,ho,h⟩:=bs h
 refine lpB ho (fun z=>[(0,sA z.1),(3,iA z.2)]) (fun z=>[]) (fun b=>[(0,sA b)]) (fun b=>[]) (pG Tryz.f187 bA) (zcs []) ?_ ?_
 ·rintro ⟨f,q⟩ r h
  refine zh ?_
  obtain ⟨i,j,h⟩:=bs h
  refine A ?_
  refine zeh h y (fun d h=>?_) fun d h=>?_
  ·refine zf<|zh<|zp ?_
   obtain ⟨l,c,h⟩:=bs h
   refine rl y<|u<|mv y<|u<|slS (a:=1) (b:=(length f:Int)) ti y y (zuH y c) y c<|A ?_
   refine A ?_
   obtain rfl:=sm h
   exact ⟨_,y,zH []⟩
  ·refine zG ?_
   obtain rfl:=sm h
   exact ⟨y,_,y,zH []⟩
 ·rintro m rfl
  refine zv ?_
  obtain ⟨n,p,h⟩:=bs h
  refine A ?_
  exact RT0⟩
def zhS(a:Bool):Bool:=
  cond a (true) (false)
def zkC(a:Int):Bool:=
  cond (a == (20:Int)) (zhS (a == (20:Int))) (cond (a == (46:Int)) (zhS (a == (46:Int))) (cond (a == (47:Int)) (zhS (a == (47:Int))) (cond (a == (48:Int)) (zhS (a == (48:Int))) (cond (a == (58:Int)) (zhS (a == (58:Int))) (zhS (a == (61:Int)))))))
instance (a:Int):PF Tryz.prog 203 [iA a] (some (zkC a)) bA:=.of fun r h=>by
 refine zj Tryz.func203 y kz y y<|A ?_
 refine zh<|A ?_
 refine zp ?_
 refine zcX (X:=Bool) (fun z=>[(4,bA z)]) (fun z=>[]) (fun z=>zhS z=r) ?_ ?_
 ·refine A ?_
  refine zeh h y (fun b h=>?_) fun b h=>?_
  ·refine zf ?_
   exact ⟨(a == (20:Int)),h,zH []⟩
  ·refine A ?_
   refine zeh h y (fun c h=>?_) fun c h=>?_
   ·refine zf ?_
    exact ⟨(a == (46:Int)),h,zH []⟩
   ·refine A ?_
    refine zeh h y (fun d h=>?_) fun d h=>?_
    ·refine zf ?_
     exact ⟨(a == (47:Int)),h,zH []⟩
    ·refine A ?_
     refine zeh h y (fun e h=>?_) fun e h=>?_
     ·refine zf ?_
      exact ⟨(a == (48:Int)),h,zH []⟩
     ·refine A ?_
      refine zeh h y (fun f h=>?_) fun f h=>?_
      ·refine zf ?_
       exact ⟨(a == (58:Int)),h,zH []⟩
      ·refine A ?_
       exact (⟨(a == (61:Int)),h,zH []⟩)
 ·rintro j h
  refine zeh h y (fun i h=>?_) fun i h=>?_
  ·refine A ?_
   refine zK ?_
   obtain rfl:=h
   exact ⟨_,y,zbG []⟩
  ·refine zf<|A ?_
   refine zK ?_
   obtain rfl:=h
   exact ⟨_,y,zbG []⟩
def zgm(a:Bool):Bool:=
  cond a (true) (false)
def zi5(a:Int):Bool:=
  cond (a == (20:Int)) (zgm (a == (20:Int))) (cond (a == (46:Int)) (zgm (a == (46:Int))) (cond (a == (47:Int)) (zgm (a == (47:Int))) (cond (a == (48:Int)) (zgm (a == (48:Int))) (cond (a == (58:Int)) (zgm (a == (58:Int))) (zgm (a == (61:Int)))))))
instance (a:Int):PF Tryz.prog 212 [iA a] (some (zi5 a)) bA:=.of fun r h=>by
 refine zj Tryz.func212 y kz y y<|A ?_
 refine zh<|A ?_
 refine zp ?_
 refine zcX (X:=Bool) (fun z=>[(4,bA z)]) (fun z=>[]) (fun z=>zgm z=r) ?_ ?_
 ·refine A ?_
  refine zeh h y (fun b h=>?_) fun b h=>?_
  ·refine zf ?_
   exact ⟨(a == (20:Int)),h,zH []⟩
  ·refine A ?_
   refine zeh h y (fun c h=>?_) fun c h=>?_
   ·refine zf ?_
    exact ⟨(a == (46:Int)),h,zH []⟩
   ·refine A ?_
    refine zeh h y (fun d h=>?_) fun d h=>?_
    ·refine zf ?_
     exact ⟨(a == (47:Int)),h,zH []⟩
    ·refine A ?_
     refine zeh h y (fun e h=>?_) fun e h=>?_
     ·refine zf ?_
      exact ⟨(a == (48:Int)),h,zH []⟩
     ·refine A ?_
      refine zeh h y (fun f h=>?_) fun f h=>?_
      ·refine zf ?_
       exact ⟨(a == (58:Int)),h,zH []⟩
      ·refine A ?_
       exact (⟨(a == (61:Int)),h,zH []⟩)
 ·rintro j h
  refine zeh h y (fun i h=>?_) fun i h=>?_
  ·refine A ?_
   refine zK ?_
   obtain rfl:=h
   exact ⟨_,y,zbG []⟩
  ·refine zf<|A ?_
   refine zK ?_
   obtain rfl:=h
   exact ⟨_,y,zbG []⟩
def zfH(a:T0):Option (T0×Bool):=
  (zh4 a).bind fun b=>(cond (!b) (some true) ((idx a 0).bind fun c=>some (!((c.toNat:Int) == (91:Int))))).bind fun d=>cond d (some ([],false)) ((zjs a 1 (length a:Int)).bind fun e=>some (e,true))
instance (c:T0):PF Tryz.prog 220 [sA c] (zfH c) (fun r=>(.tup [sA r.1,bA r.2])):=⟨fun r h=>by
 refine zj Tryz.func220 y kz y y<|A ?_
 refine zh ?_
 obtain ⟨f,i,j,l,h⟩:=bs2 h
 refine A ?_
 refine zeh h y (fun d h=>?_) fun d h=>?_
 ·refine A ?_
  exact RT0
 ·refine zf ?_
  obtain ⟨m,e,h⟩:=bs h
  refine rg y<|u<|mv y<|u<|slS (a:=1) (b:=(length c:Int)) ti y y (zuH y e) y e<|A ?_
  exact RT0⟩
structure zi where
  Name:T0
  Type_:T0
  Static:Bool
def zD(x:zi):List AV:=[sA x.Name,sA x.Type_,bA x.Static]
structure zT where
  At:Int
  Locals:T1
  Stack:T1
def z7(x:zT):List AV:=[iA x.At,.isl 1 (map zn x.Locals),.isl 1 (map zn x.Stack)]
structure zN where
  From:Int
  To:Int
  At:Int
  C:T0
def zaa(x:zN):List AV:=[iA x.From,iA x.To,iA x.At,sA x.C]
structure zb where
  Name:T0
  Params:T1
  Ret:T0
  Static:Bool
  Abstract:Bool
  Locals:Int
  Stack:Int
  Code:List zl
  Maps:List zT
  Traps:List zN
def zd(x:zb):List AV:=[sA x.Name,.isl 1 (map zn x.Params),sA x.Ret,bA x.Static,bA x.Abstract,iA x.Locals,iA x.Stack,.isl 4 (map zA x.Code),.isl 3 (map z7 x.Maps),.isl 4 (map zaa x.Traps)]
structure za where
  Name:T0
  Super:T0
  Interface:Bool
  Impl:T1
  Fields:List zi
  Methods:List zb
def zc(x:za):List AV:=[sA x.Name,sA x.Super,bA x.Interface,.isl 1 (map zn x.Impl),.isl 3 (map zD x.Fields),.isl 10 (map zd x.Methods)]
def ziX(a:zi):Option (Bool):=
  (zjW a.Name).bind fun b=>(cond (b&&(!(a.Name == [36,105,110,105,116]))) ((zh4 a.Type_).bind fun c=>some c) (some false)).bind fun d=>some d
theorem zmp(a:zi){r:Bool}(h:ziX a=some r):zaj Tryz.prog 151 [.agg (zD a)] (bA r):=by
 refine zj Tryz.func151 y kz y y<|A ?_
 obtain ⟨b,c,d,e,h⟩:=bs2 h
 refine A ?_
 exact RT0
instance (a:zi):PF Tryz.prog 151 [.agg (zD a)] (ziX a) bA:=⟨fun _=>zmp a⟩
def ziW(a:zi):T0:=
  a.Name
theorem zmo(a:zi){r:T0}(h:ziW a=r):zaj Tryz.prog 150 [.agg (zD a)] (sA r):=by
 refine zj Tryz.func150 y kz y y ?_
 unfold ziW at h
 refine A ?_
 refine A ?_
 refine zK ?_
 obtain rfl:=h
 exact ⟨_,y,zbG []⟩
instance (a:zi):PF Tryz.prog 150 [.agg (zD a)] (some (ziW a)) sA:=.of fun _=>zmo a
def zgf(a:zi)(b:T0)(c:T0)(d:Bool):Bool:=
  ((ziW (zi.mk b c d)) == (ziW a))
instance (d:zi)(a:T0)(b:T0)(c:Bool):PF Tryz.prog 235 [.agg (zD d),.ipt 1 [[.fn (.func 150) [] []]] 0 0,.ipt 3 [[sA a,sA b,bA c]] 0 0] (some (zgf d a b c)) bA:=.of fun r h=>by
 refine zj Tryz.func235 y kz y y ?_
 unfold zgf at h
 refine A ?_
 refine rdA [(4,_)] [] [] [0,1,2,3,4,5,6,7] [(4,_),(11,_),(10,_),(9,_),(8,_),(7,_),(6,_),(5,_)] 0 (zhx ⟨peC,peC,(by exact pb y (pc (zmo (zi.mk a b c) y) y y y<|w)),peC,peC,peC,peC,peC,t⟩ (zcs [])) ?_
 refine zK ?_
 obtain rfl:=h
 exact ⟨_,y,zbG []⟩
def zdx:Option (Int):=
  some (-1)
def zaN(b:List zi)(c:T0)(d:T0)(e:Bool)(a:Int):Option (Sum (Int) (Sum (Unit) (Int))):=
  cond (decide (a<(length b:Int))) ((idx b a).bind fun f=>cond (zgf f c d e) (some (.inr (.inr a))) (some (.inl (IntKind.i64.wrap (a+1))))) (some (.inr (.inl ())))
def zca(a:List zi)(c:T0)(d:T0)(e:Bool):Option (Int):=
  (zm (fun z=>zaN a c d e z) 0).bind fun o=>zI o (fun b=>zdx) some
instance (a:List zi)(c:T0)(d:T0)(e:Bool):PF Tryz.prog 315 [.isl 3 (map zD a),.fn (.func 235) [] [.ipt 1 [[.fn (.func 150) [] []]] 0 0,.ipt 3 [[sA c,sA d,bA e]] 0 0]] (zca a c d e) iA:=⟨fun r h=>by
 refine zj Tryz.func315 y kz y y<|A ?_
 refine zh<|A ?_
 obtain ⟨o,ho,h⟩:=bs h
 refine lpB ho (fun z=>[(0,.isl 3 (map zD a)),(1,.fn (.func 235) [] [.ipt 1 [[.fn (.func 150) [] []]] 0 0,.ipt 3 [[sA c,sA d,bA e]] 0 0]),(7,iA (length a:Int)),(8,iA z)]) (fun z=>[]) (fun b=>[]) (fun b=>[]) (pG Tryz.f315 iA) (zcs []) ?_ ?_
 ·rintro j r h
  refine A ?_
  refine zh ?_
  refine zeh h y (fun f h=>?_) fun f h=>?_
  ·refine zf<|zh<|zp<|A ?_
   obtain ⟨l,m,h⟩:=bs h
   refine A ?_
   refine zeh h y (fun i h=>?_) fun i h=>?_
   ·refine A ?_
    refine zK ?_
    obtain rfl:=sm h
    exact ⟨_,y,_,y,zbG []⟩
   ·refine zf<|A ?_
    obtain rfl:=sm h
    exact ⟨_,y,zH []⟩
  ·refine zG ?_
   obtain rfl:=sm h
   exact ⟨y,_,y,zH []⟩
 ·rintro ⟨⟩ rfl
  refine zv<|A ?_
  exact RT0⟩
def zah(a:List zi)(b:T0)(c:T0)(d:Bool):Option (Bool):=
  (zca a b c d).bind fun e=>some (decide (0≤e))
theorem zcR(a:List zi)(b:T0)(c:T0)(d:Bool){r:Bool}(h:zah a b c d=some r):zaj Tryz.prog 234 [.isl 3 (map zD a),.fn (.func 235) [] [.ipt 1 [[.fn (.func 150) [] []]] 0 0,.ipt 3 [[sA b,sA c,bA d]] 0 0]] (bA r):=by
 refine zj Tryz.func234 y kz y y<|A ?_
 obtain ⟨e,f,h⟩:=bs h
 refine A ?_
 exact RT0
instance (a:List zi)(b:T0)(c:T0)(d:Bool):PF Tryz.prog 234 [.isl 3 (map zD a),.fn (.func 235) [] [.ipt 1 [[.fn (.func 150) [] []]] 0 0,.ipt 3 [[sA b,sA c,bA d]] 0 0]] (zah a b c d) bA:=⟨fun _=>zcR a b c d⟩
def zkZ(a:List zi)(b:Int):Option (Bool):=
  some (decide ((length a:Int)≤b))
def zfW(c:List zi)(b:Int):Option (Sum (Int) (Sum (Unit) (Bool))):=
  cond (decide (b<(length c:Int))) ((idx c b).bind fun a=>(ziX a).bind fun d=>(cond (!d) (some true) ((zjs c 0 b).bind fun e=>(zah e a.Name a.Type_ a.Static).bind fun f=>some f)).bind fun i=>cond i (some (.inr (.inr false))) (some (.inl (IntKind.i64.wrap (b+1))))) (some (.inr (.inl ())))
def zfz(a:List zi)(c:Int):Option (Bool):=
  (zm (fun z=>zfW a z) 0).bind fun o=>zI o (fun b=>zkZ a c) some
instance (f:List zi)(i:Int):PF Tryz.prog 149 [.isl 3 (map zD f),iA i,.fn (.func 150) [] [],.fn (.func 151) [] []] (zfz f i) bA:=⟨fun r h=>by
 refine zj Tryz.func149 y kz y y<|A ?_
 refine zh<|A ?_
 obtain ⟨o,ho,h⟩:=bs h
 refine lpB ho (fun z=>[(0,.isl 3 (map zD f)),(1,iA i),(3,.fn (.func 151) [] []),(6,.mpt 0 0 0),(11,.isl 3 (map zD f)),(12,iA (length f:Int)),(13,iA z)]) (fun z=>[some (1,[[.fn (.func 150) [] []]])]) (fun b=>[(0,.isl 3 (map zD f)),(1,iA i)]) (fun b=>[]) (pG Tryz.f149 bA) (zcs [.old 0]) ?_ ?_
 ·rintro B r h
  refine A ?_
  refine zh ?_
  refine zeh h y (fun n h=>?_) fun n h=>?_
  ·refine zf<|zh<|zp ?_
   obtain ⟨e,C,h⟩:=bs h
   refine A ?_
   obtain ⟨D,p,q,d,h⟩:=bs2 h
   refine rg y<|u<|mv y<|u<|ld ti y y<|u<|pc (zmp e p) y y y<|u<|nt y<|u<|mv y<|zwC (x:=q) (j:=4) 5 y y y y y gpn (fun c=>by replace d:=bF c d;obtain ⟨s,l,d⟩:=bs d;obtain ⟨E,v,d⟩:=bs d;obtain rfl:=sm d;exact g y c<|mv y<|g y c<|mv y<|g y c<|slI (a:=0) (b:=B) ti y ti y y y (zox y l) l<|g y c<|mf y y<|g y c<|pcs (zcR s e.Name e.Type_ e.Static v) y y (.cons (si y) (.cons (zfx t ⟨(zbY y ⟨(si y),t⟩),(zbY y ⟨(si y),(si y),(si y),t⟩),t⟩) .nil)) zbQ<|zJ (eg [23,24,25,26,27] 5 y y y y)) (fun hb=>(sm (bT hb d)).symm)<|zJ ?_
   refine zeh h y (fun m h=>?_) fun m h=>?_
   ·refine A ?_
    refine zK ?_
    obtain rfl:=sm h
    exact ⟨_,y,_,y,zbG []⟩
   ·refine zf<|A ?_
    obtain rfl:=sm h
    exact ⟨_,y,zH [.old 0]⟩
  ·refine zG ?_
   obtain rfl:=sm h
   exact ⟨y,_,y,zH []⟩
 ·rintro ⟨⟩ rfl
  refine zv<|A ?_
  exact RT0⟩
def zkm(a:T0):Option (Bool):=
  (zh4 a).bind fun b=>some (!b)
instance (a:T0):PF Tryz.prog 324 [sA a,.ipt 1 [[.fn (.func 153) [] []]] 0 0] (zkm a) bA:=⟨fun r h=>by
 refine zj Tryz.func324 y kz y y<|A ?_
 obtain ⟨b,c,h⟩:=bs h
 refine A ?_
 exact RT0⟩
def zeU:Option (Int):=
  some (-1)
def zbD(b:T1)(a:Int):Option (Sum (Int) (Sum (Unit) (Int))):=
  cond (decide (a<(length b:Int))) ((idx b a).bind fun c=>(zkm c).bind fun d=>cond d (some (.inr (.inr a))) (some (.inl (IntKind.i64.wrap (a+1))))) (some (.inr (.inl ())))
def zdy(a:T1):Option (Int):=
  (zm (fun z=>zbD a z) 0).bind fun o=>zI o (fun b=>zeU) some
instance (a:T1):PF Tryz.prog 181 [.isl 1 (map zn a),.fn (.func 324) [] [.ipt 1 [[.fn (.func 153) [] []]] 0 0]] (zdy a) iA:=⟨fun r h=>by
 refine zj Tryz.func181 y kz y y<|A ?_
 refine zh<|A ?_
 obtain ⟨o,ho,h⟩:=bs h
 refine lpB ho (fun z=>[(0,.isl 1 (map zn a)),(1,.fn (.func 324) [] [.ipt 1 [[.fn (.func 153) [] []]] 0 0]),(7,iA (length a:Int)),(8,iA z)]) (fun z=>[]) (fun b=>[]) (fun b=>[]) (pG Tryz.f181 iA) (zcs []) ?_ ?_
 ·rintro e r h
  refine A ?_
  refine zh ?_
  refine zeh h y (fun c h=>?_) fun c h=>?_
  ·refine zf<|zh<|zp<|A ?_
   obtain ⟨f,i,j,l,h⟩:=bs2 h
   refine A ?_
   refine zeh h y (fun d h=>?_) fun d h=>?_
   ·refine A ?_
    refine zK ?_
    obtain rfl:=sm h
    exact ⟨_,y,_,y,zbG []⟩
   ·refine zf<|A ?_
    obtain rfl:=sm h
    exact ⟨_,y,zH []⟩
  ·refine zG ?_
   obtain rfl:=sm h
   exact ⟨y,_,y,zH []⟩
 ·rintro ⟨⟩ rfl
  refine zv<|A ?_
  exact RT0⟩
def zbC(a:T1):Option (Bool):=
  (zdy a).bind fun b=>some (decide (0≤b))
theorem zd6(a:T1){r:Bool}(h:zbC a=some r):zaj Tryz.prog 99 [.isl 1 (map zn a),.fn (.func 324) [] [.ipt 1 [[.fn (.func 153) [] []]] 0 0]] (bA r):=by
 refine zj Tryz.func99 y kz y y<|A ?_
 obtain ⟨b,c,h⟩:=bs h
 refine A ?_
 exact RT0
instance (a:T1):PF Tryz.prog 99 [.isl 1 (map zn a),.fn (.func 324) [] [.ipt 1 [[.fn (.func 153) [] []]] 0 0]] (zbC a) bA:=⟨fun _=>zd6 a⟩
def zkl(a:T1):Option (Bool):=
  (zbC a).bind fun b=>some (!b)
instance (a:T1):PF Tryz.prog 241 [.isl 1 (map zn a),.fn (.func 153) [] []] (zkl a) bA:=⟨fun r h=>by
 refine zj Tryz.func241 y kz y y<|A ?_
 obtain ⟨c,b,h⟩:=bs h
 refine A ?_
 refine u<|pcs (zd6 a b) y y (.cons (si y) (.cons (zfx t ⟨(zbY y ⟨(si y),t⟩),t⟩) .nil)) zbQ<|A ?_
 exact RT0⟩
def zoX(a:T0):Option (Bool):=
  (cond (a == [86]) (some true) ((zh4 a).bind fun b=>some b)).bind fun c=>some c
instance (a:T0):PF Tryz.prog 242 [sA a] (zoX a) bA:=⟨fun r h=>by
 refine zj Tryz.func242 y kz y y<|A ?_
 obtain ⟨b,c,h⟩:=bs h
 refine A ?_
 exact RT0⟩
def zhF(a:zb):Bool:=
  (((((!a.Static)&&(!(a.Name == [36,105,110,105,116])))&&(a.Locals == (0:Int)))&&(a.Stack == (0:Int)))&&((IntKind.i64.wrap ((IntKind.i64.wrap ((length a.Code:Int)+(length a.Maps:Int)))+(length a.Traps:Int))) == (0:Int)))
instance (a:zb):PF Tryz.prog 243 [.agg (zd a)] (some (zhF a)) bA:=.of fun r h=>by
 refine zj Tryz.func243 y kz y y ?_
 unfold zhF at h
 refine A ?_
 refine A ?_
 refine zK ?_
 obtain rfl:=h
 exact ⟨_,y,zbG []⟩
def zax(a:zb):Int:=
  cond a.Static ((length a.Params:Int)) ((IntKind.i64.wrap ((length a.Params:Int)+1)))
theorem ziI(a:zb){r:Int}(h:zax a=r):zaj Tryz.prog 245 [.agg (zd a)] (iA r):=by
 refine zj Tryz.func245 y kz y y<|A ?_
 refine zh<|A ?_
 refine zeh h y (fun b h=>?_) fun b h=>?_
 ·refine A ?_
  refine zK ?_
  obtain rfl:=h
  exact ⟨_,y,zbG []⟩
 ·refine zf<|A ?_
  refine zK ?_
  obtain rfl:=h
  exact ⟨_,y,zbG []⟩
instance (a:zb):PF Tryz.prog 245 [.agg (zd a)] (some (zax a)) iA:=.of fun _=>ziI a
def zt(a:Int)(b:Int)(c:Int):Bool:=
  ((decide (b≤a))&&(decide (a≤c)))
theorem zez(a:Int)(b:Int)(c:Int){r:Bool}(h:zt a b c=r):zaj Tryz.prog 244 [iA a,iA b,iA c] (bA r):=by
 refine zj Tryz.func244 y kz y y ?_
 unfold zt at h
 refine A ?_
 refine A ?_
 refine zK ?_
 obtain rfl:=h
 exact ⟨_,y,zbG []⟩
instance (a:Int)(b:Int)(c:Int):PF Tryz.prog 244 [iA a,iA b,iA c] (some (zt a b c)) bA:=.of fun _=>zez a b c
def zgG(a:zl)(b:Int):Option (Bool):=
  (zvi a).bind fun c=>some ((!c)||((zf7 a.Op)&&(decide (b≤a.A))))
instance (a:zl)(b:Int):PF Tryz.prog 325 [.agg (zA a),.ipt 1 [[iA b]] 0 0] (zgG a b) bA:=⟨fun r h=>by
 refine zj Tryz.func325 y kz y y<|A ?_
 obtain ⟨c,d,h⟩:=bs h
 refine A ?_
 exact RT0⟩
def zep:Option (Int):=
  some (-1)
def zbh(b:List zl)(c:Int)(a:Int):Option (Sum (Int) (Sum (Unit) (Int))):=
  cond (decide (a<(length b:Int))) ((idx b a).bind fun d=>(zgG d c).bind fun e=>cond e (some (.inr (.inr a))) (some (.inl (IntKind.i64.wrap (a+1))))) (some (.inr (.inl ())))
def zcW(a:List zl)(c:Int):Option (Int):=
  (zm (fun z=>zbh a c z) 0).bind fun o=>zI o (fun b=>zep) some
instance (a:List zl)(c:Int):PF Tryz.prog 349 [.isl 4 (map zA a),.fn (.func 325) [] [.ipt 1 [[iA c]] 0 0]] (zcW a c) iA:=⟨fun r h=>by
 refine zj Tryz.func349 y kz y y<|A ?_
 refine zh<|A ?_
 obtain ⟨o,ho,h⟩:=bs h
 refine lpB ho (fun z=>[(0,.isl 4 (map zA a)),(1,.fn (.func 325) [] [.ipt 1 [[iA c]] 0 0]),(7,iA (length a:Int)),(8,iA z)]) (fun z=>[]) (fun b=>[]) (fun b=>[]) (pG Tryz.f349 iA) (zcs []) ?_ ?_
 ·rintro f r h
  refine A ?_
  refine zh ?_
  refine zeh h y (fun d h=>?_) fun d h=>?_
  ·refine zf<|zh<|zp<|A ?_
   obtain ⟨i,j,l,m,h⟩:=bs2 h
   refine A ?_
   refine zeh h y (fun e h=>?_) fun e h=>?_
   ·refine A ?_
    refine zK ?_
    obtain rfl:=sm h
    exact ⟨_,y,_,y,zbG []⟩
   ·refine zf<|A ?_
    obtain rfl:=sm h
    exact ⟨_,y,zH []⟩
  ·refine zG ?_
   obtain rfl:=sm h
   exact ⟨y,_,y,zH []⟩
 ·rintro ⟨⟩ rfl
  refine zv<|A ?_
  exact RT0⟩
def zaD(a:List zl)(b:Int):Option (Bool):=
  (zcW a b).bind fun c=>some (decide (0≤c))
theorem zdG(a:List zl)(b:Int){r:Bool}(h:zaD a b=some r):zaj Tryz.prog 304 [.isl 4 (map zA a),.fn (.func 325) [] [.ipt 1 [[iA b]] 0 0]] (bA r):=by
 refine zj Tryz.func304 y kz y y<|A ?_
 obtain ⟨c,d,h⟩:=bs h
 refine A ?_
 exact RT0
instance (a:List zl)(b:Int):PF Tryz.prog 304 [.isl 4 (map zA a),.fn (.func 325) [] [.ipt 1 [[iA b]] 0 0]] (zaD a b) bA:=⟨fun _=>zdG a b⟩
def zeH(a:zb):Option (Bool):=
  (cond (!(zt (length a.Code:Int) 1 100)) (some true) ((idx a.Code (IntKind.i64.wrap ((length a.Code:Int)-1))).bind fun b=>some (!(zkC b.Op)))).bind fun c=>cond c (some false) ((zaD a.Code (length a.Code:Int)).bind fun d=>some (!d))
theorem zh8(a:zb){r:Bool}(h:zeH a=some r):zaj Tryz.prog 246 [.agg (zd a)] (bA r):=by
 refine zj Tryz.func246 y kz y y<|A ?_
 refine A ?_
 refine zh ?_
 obtain ⟨d,e,h⟩:=bs h
 refine A ?_
 refine zeh h y (fun b h=>?_) fun b h=>?_
 ·refine A ?_
  exact RT0
 ·refine zf ?_
  obtain ⟨f,c,h⟩:=bs h
  refine A ?_
  refine u<|pcs (zdG a.Code (length a.Code:Int) c) y y (.cons (si y) (.cons (zfx t ⟨(zbY y ⟨(si y),t⟩),t⟩) .nil)) zbQ<|A ?_
  exact RT0
instance (a:zb):PF Tryz.prog 246 [.agg (zd a)] (zeH a) bA:=⟨fun _=>zh8 a⟩
def zlX(a:T0):Option (Bool):=
  (cond (((a == [73])||(a == [78]))||(a == [84])) (some true) ((zku a).bind fun b=>some b)).bind fun c=>some c
instance (a:T0):PF Tryz.prog 327 [sA a] (zlX a) bA:=⟨fun r h=>by
 refine zj Tryz.func327 y kz y y<|A ?_
 obtain ⟨b,c,h⟩:=bs h
 refine A ?_
 exact RT0⟩
def zip(a:T0):Option (Bool):=
  (zlX a).bind fun b=>some (!b)
instance (a:T0):PF Tryz.prog 324 [sA a,.ipt 1 [[.fn (.func 327) [] []]] 0 0] (zip a) bA:=⟨fun r h=>by
 refine zj Tryz.func324 y kz y y<|A ?_
 obtain ⟨b,c,h⟩:=bs h
 refine A ?_
 exact RT0⟩
def zd7:Option (Int):=
  some (-1)
def za4(b:T1)(a:Int):Option (Sum (Int) (Sum (Unit) (Int))):=
  cond (decide (a<(length b:Int))) ((idx b a).bind fun c=>(zip c).bind fun d=>cond d (some (.inr (.inr a))) (some (.inl (IntKind.i64.wrap (a+1))))) (some (.inr (.inl ())))
def zcH(a:T1):Option (Int):=
  (zm (fun z=>za4 a z) 0).bind fun o=>zI o (fun b=>zd7) some
instance (a:T1):PF Tryz.prog 181 [.isl 1 (map zn a),.fn (.func 324) [] [.ipt 1 [[.fn (.func 327) [] []]] 0 0]] (zcH a) iA:=⟨fun r h=>by
 refine zj Tryz.func181 y kz y y<|A ?_
 refine zh<|A ?_
 obtain ⟨o,ho,h⟩:=bs h
 refine lpB ho (fun z=>[(0,.isl 1 (map zn a)),(1,.fn (.func 324) [] [.ipt 1 [[.fn (.func 327) [] []]] 0 0]),(7,iA (length a:Int)),(8,iA z)]) (fun z=>[]) (fun b=>[]) (fun b=>[]) (pG Tryz.f181 iA) (zcs []) ?_ ?_
 ·rintro e r h
  refine A ?_
  refine zh ?_
  refine zeh h y (fun c h=>?_) fun c h=>?_
  ·refine zf<|zh<|zp<|A ?_
   obtain ⟨f,i,j,l,h⟩:=bs2 h
   refine A ?_
   refine zeh h y (fun d h=>?_) fun d h=>?_
   ·refine A ?_
    refine zK ?_
    obtain rfl:=sm h
    exact ⟨_,y,_,y,zbG []⟩
   ·refine zf<|A ?_
    obtain rfl:=sm h
    exact ⟨_,y,zH []⟩
  ·refine zG ?_
   obtain rfl:=sm h
   exact ⟨y,_,y,zH []⟩
 ·rintro ⟨⟩ rfl
  refine zv<|A ?_
  exact RT0⟩
def za0(a:T1):Option (Bool):=
  (zcH a).bind fun b=>some (decide (0≤b))
theorem zdr(a:T1){r:Bool}(h:za0 a=some r):zaj Tryz.prog 99 [.isl 1 (map zn a),.fn (.func 324) [] [.ipt 1 [[.fn (.func 327) [] []]] 0 0]] (bA r):=by
 refine zj Tryz.func99 y kz y y<|A ?_
 obtain ⟨b,c,h⟩:=bs h
 refine A ?_
 exact RT0
instance (a:T1):PF Tryz.prog 99 [.isl 1 (map zn a),.fn (.func 324) [] [.ipt 1 [[.fn (.func 327) [] []]] 0 0]] (za0 a) bA:=⟨fun _=>zdr a⟩
def zgO(a:T1):Option (Bool):=
  (za0 a).bind fun b=>some (!b)
instance (a:T1):PF Tryz.prog 241 [.isl 1 (map zn a),.fn (.func 327) [] []] (zgO a) bA:=⟨fun r h=>by
 refine zj Tryz.func241 y kz y y<|A ?_
 obtain ⟨c,b,h⟩:=bs h
 refine A ?_
 refine u<|pcs (zdr a b) y y (.cons (si y) (.cons (zfx t ⟨(zbY y ⟨(si y),t⟩),t⟩) .nil)) zbQ<|A ?_
 exact RT0⟩
def zfL:Option (Int):=
  some (-1)
def zcf(b:T1)(c:T0)(a:Int):Option (Sum (Int) (Sum (Unit) (Int))):=
  cond (decide (a<(length b:Int))) ((idx b a).bind fun d=>cond (c == d) (some (.inr (.inr a))) (some (.inl (IntKind.i64.wrap (a+1))))) (some (.inr (.inl ())))
def zad(a:T1)(c:T0):Option (Int):=
  (zm (fun z=>zcf a c z) 0).bind fun o=>zI o (fun b=>zfL) some
theorem zaL(a:T1)(c:T0){r:Int}(h:zad a c=some r):zaj Tryz.prog 131 [.isl 1 (map zn a),sA c] (iA r):=by
 refine zj Tryz.func131 y kz y y<|A ?_
 refine zh<|A ?_
 obtain ⟨o,ho,h⟩:=bs h
 refine lpB ho (fun z=>[(0,.isl 1 (map zn a)),(1,sA c),(7,iA (length a:Int)),(8,iA z)]) (fun z=>[]) (fun b=>[]) (fun b=>[]) (pG Tryz.f131 iA) (zcs []) ?_ ?_
 ·rintro f r h
  refine A ?_
  refine zh ?_
  refine zeh h y (fun d h=>?_) fun d h=>?_
  ·refine zf<|zh<|zp<|A ?_
   obtain ⟨i,j,h⟩:=bs h
   refine A ?_
   refine zeh h y (fun e h=>?_) fun e h=>?_
   ·refine A ?_
    refine zK ?_
    obtain rfl:=sm h
    exact ⟨_,y,_,y,zbG []⟩
   ·refine zf<|A ?_
    obtain rfl:=sm h
    exact ⟨_,y,zH []⟩
  ·refine zG ?_
   obtain rfl:=sm h
   exact ⟨y,_,y,zH []⟩
 ·rintro ⟨⟩ rfl
  refine zv<|A ?_
  exact RT0
instance (a:T1)(b:T0):PF Tryz.prog 131 [.isl 1 (map zn a),sA b] (zad a b) iA:=⟨fun _=>zaL a b⟩
def zx(a:T1)(b:T0):Option (Bool):=
  (zad a b).bind fun c=>some (decide (0≤c))
theorem zW(a:T1)(b:T0){r:Bool}(h:zx a b=some r):zaj Tryz.prog 136 [.isl 1 (map zn a),sA b] (bA r):=by
 refine zj Tryz.func136 y kz y y<|A ?_
 obtain ⟨c,d,h⟩:=bs h
 refine A ?_
 exact RT0
instance (a:T1)(b:T0):PF Tryz.prog 136 [.isl 1 (map zn a),sA b] (zx a b) bA:=⟨fun _=>zW a b⟩
def zrl(a:zb):Option (Bool):=
  some (decide ((length a.Maps:Int)≤100))
def zgr(b:zb)(c:Int)(a:zT)(d:Bool):Option (Sum (Int) (Sum (Unit) (Bool))):=
  cond d (some (.inr (.inr false))) ((cond ((!((length a.Locals:Int) == b.Locals))||(decide (b.Stack<(length a.Stack:Int)))) (some true) ((zgO a.Locals).bind fun e=>some (!e))).bind fun f=>(cond f (some true) ((zgO a.Stack).bind fun i=>some (!i))).bind fun j=>(cond j (some true) ((zx a.Stack [84]).bind fun l=>some l)).bind fun m=>cond m (some (.inr (.inr false))) (some (.inl (IntKind.i64.wrap (c+1)))))
def zgs(c:zb)(a:Int):Option (Sum (Int) (Sum (Unit) (Bool))):=
  cond (decide (a<(length c.Maps:Int))) ((idx c.Maps a).bind fun b=>cond (!(zt b.At 0 (IntKind.i64.wrap ((length c.Code:Int)-1)))) (zgr c a b true) (cond (decide (0<a)) ((idx c.Maps (IntKind.i64.wrap (a-1))).bind fun d=>zgr c a b (decide (b.At≤d.At))) (zgr c a b false))) (some (.inr (.inl ())))
def zlV(a:zb):Option (Bool):=
  (zm (fun z=>zgs a z) 0).bind fun o=>zI o (fun b=>zrl a) some
instance (a:zb):PF Tryz.prog 247 [.agg (zd a)] (zlV a) bA:=⟨fun r h=>by
 refine zj Tryz.func247 y kz y y<|A ?_
 refine zh<|A ?_
 obtain ⟨o,ho,h⟩:=bs h
 refine lpB ho (fun z=>[(1,.mpt 0 0 0),(6,.isl 3 (map z7 a.Maps)),(7,iA (length a.Maps:Int)),(8,iA z)]) (fun z=>[some (10,[(zd a)])]) (fun b=>[(1,.mpt 0 0 0)]) (fun b=>[some (10,[(zd a)])]) (pG Tryz.f247 bA) (zcs [.old 0]) ?_ ?_
 ·rintro f r h
  refine A ?_
  refine zh ?_
  refine zeh h y (fun i h=>?_) fun i h=>?_
  ·refine zf<|zh<|zp ?_
   obtain ⟨e,n,h⟩:=bs h
   refine A ?_
   refine zh ?_
   refine zcX (X:=Bool) (fun z=>[(1,.mpt 0 0 0),(4,.mpt 1 0 0),(6,.isl 3 (map z7 a.Maps)),(7,iA (length a.Maps:Int)),(8,iA f),(36,bA z)]) (fun z=>[some (10,[(zd a)]),some (3,[(z7 e)])]) (fun z=>zgr a f e z=some r) ?_ ?_
   ·rcases bb (!(zt e.At 0 (IntKind.i64.wrap ((length a.Code:Int)-1)))) with c |c
    ·replace h:=bT c h
     exact rdQ [] [0,1,2,3,4,5,6,7,8,9,10,11,12,13,14,15,16,17,18,19,20,21,22,23] [(36,_),(35,_),(34,_),(33,_),(32,_),(31,_),(30,_),(29,_),(28,_),(27,_),(26,_),(25,_),(24,_),(23,_),(22,_),(21,_),(20,_),(19,_),(18,_),(17,_),(16,_),(15,_),(14,_),(13,_)] 0 (zhx (z:=by exact ⟨true,h,zcs [.old 0,.old 1]⟩))
    ·replace h:=bF c h
     rcases bb (decide (0<f)) with d |d
     ·replace h:=bT d h
      obtain ⟨m,p,h⟩:=bs h
      exact rdQ [] [0,1,2,3,4,5,6,7,8,9,10,11,12,13,14,15,16,17,18,19,20,21,22,23] [(36,_),(35,_),(34,_),(33,_),(32,_),(31,_),(30,_),(29,_),(28,_),(27,_),(26,_),(25,_),(24,_),(23,_),(22,_),(21,_),(20,_),(19,_),(18,_),(17,_),(16,_),(15,_),(14,_),(13,_)] 0 (zhx (z:=by exact ⟨(decide (e.At≤m.At)),h,zcs [.old 0,.old 1]⟩))
     ·replace h:=bF d h
      exact rdQ [] [0,1,2,3,4,5,6,7,8,9,10,11,12,13,14,15,16,17,18,19,20,21,22,23] [(36,_),(35,_),(34,_),(33,_),(32,_),(31,_),(30,_),(29,_),(28,_),(27,_),(26,_),(25,_),(24,_),(23,_),(22,_),(21,_),(20,_),(19,_),(18,_),(17,_),(16,_),(15,_),(14,_),(13,_)] 0 (zhx (z:=by exact ⟨false,h,zcs [.old 0,.old 1]⟩))
   ·rintro q h
    refine zeh h y (fun j h=>?_) fun j h=>?_
    ·refine A ?_
     refine zK ?_
     obtain rfl:=sm h
     exact ⟨_,y,_,y,zbG []⟩
    ·refine zf ?_
     obtain ⟨s,v,x,B,C,D,h⟩:=bs3 h
     refine A ?_
     refine zeh h y (fun l h=>?_) fun l h=>?_
     ·refine A ?_
      refine zK ?_
      obtain rfl:=sm h
      exact ⟨_,y,_,y,zbG []⟩
     ·refine zf<|A ?_
      obtain rfl:=sm h
      exact ⟨_,y,zH [.old 0]⟩
  ·refine zG ?_
   obtain rfl:=sm h
   exact ⟨y,_,y,zH [.old 0]⟩
 ·rintro ⟨⟩ rfl
  refine zv<|A ?_
  exact RT0⟩
def zkk(a:zN)(j:T0)(l:T1)(m:T0)(n:Bool)(o:Bool)(p:Int)(q:Int)(b:List zl)(f:List zT)(i:List zN):Option (Bool):=
  (cond ((((decide (a.From<0))||(decide (a.To≤a.From)))||(decide ((length b:Int)<a.To)))||(!(zt a.At 0 (IntKind.i64.wrap ((length b:Int)-1))))) (some true) ((cond (!(a.C == [])) ((zgu a.C).bind fun c=>some (!c)) (some false)).bind fun d=>some d)).bind fun e=>some e
instance (c:zN)(d:T0)(e:T1)(f:T0)(i:Bool)(j:Bool)(l:Int)(m:Int)(n:List zl)(a:List zT)(b:List zN):PF Tryz.prog 328 [.agg (zaa c),.ipt 10 [[sA d,.isl 1 (map zn e),sA f,bA i,bA j,iA l,iA m,.isl 4 (map zA n),.isl 3 (map z7 a),.isl 4 (map zaa b)]] 0 0] (zkk c d e f i j l m n a b) bA:=⟨fun r h=>by
 refine zj Tryz.func328 y kz y y<|A ?_
 obtain ⟨o,p,h⟩:=bs h
 refine A ?_
 exact RT0⟩
def zdP:Option (Int):=
  some (-1)
def zaX(b:List zN)(i:T0)(j:T1)(l:T0)(m:Bool)(n:Bool)(o:Int)(p:Int)(q:List zl)(c:List zT)(d:List zN)(a:Int):Option (Sum (Int) (Sum (Unit) (Int))):=
  cond (decide (a<(length b:Int))) ((idx b a).bind fun e=>(zkk e i j l m n o p q c d).bind fun f=>cond f (some (.inr (.inr a))) (some (.inl (IntKind.i64.wrap (a+1))))) (some (.inr (.inl ())))
def zct(d:List zN)(e:T0)(f:T1)(i:T0)(j:Bool)(l:Bool)(m:Int)(n:Int)(p:List zl)(a:List zT)(c:List zN):Option (Int):=
  (zm (fun z=>zaX d e f i j l m n p a c z) 0).bind fun o=>zI o (fun b=>zdP) some
instance (d:List zN)(e:T0)(f:T1)(i:T0)(j:Bool)(l:Bool)(m:Int)(n:Int)(p:List zl)(a:List zT)(c:List zN):PF Tryz.prog 348 [.isl 4 (map zaa d),.fn (.func 328) [] [.ipt 10 [[sA e,.isl 1 (map zn f),sA i,bA j,bA l,iA m,iA n,.isl 4 (map zA p),.isl 3 (map z7 a),.isl 4 (map zaa c)]] 0 0]] (zct d e f i j l m n p a c) iA:=⟨fun r h=>by
 refine zj Tryz.func348 y kz y y<|A ?_
 refine zh<|A ?_
 obtain ⟨o,ho,h⟩:=bs h
 refine lpB ho (fun z=>[(0,.isl 4 (map zaa d)),(1,.fn (.func 328) [] [.ipt 10 [[sA e,.isl 1 (map zn f),sA i,bA j,bA l,iA m,iA n,.isl 4 (map zA p),.isl 3 (map z7 a),.isl 4 (map zaa c)]] 0 0]),(7,iA (length d:Int)),(8,iA z)]) (fun z=>[]) (fun b=>[]) (fun b=>[]) (pG Tryz.f348 iA) (zcs []) ?_ ?_
 ·rintro v r h
  refine A ?_
  refine zh ?_
  refine zeh h y (fun q h=>?_) fun q h=>?_
  ·refine zf<|zh<|zp<|A ?_
   obtain ⟨x,C,B,D,h⟩:=bs2 h
   refine A ?_
   refine zeh h y (fun s h=>?_) fun s h=>?_
   ·refine A ?_
    refine zK ?_
    obtain rfl:=sm h
    exact ⟨_,y,_,y,zbG []⟩
   ·refine zf<|A ?_
    obtain rfl:=sm h
    exact ⟨_,y,zH []⟩
  ·refine zG ?_
   obtain rfl:=sm h
   exact ⟨y,_,y,zH []⟩
 ·rintro ⟨⟩ rfl
  refine zv<|A ?_
  exact RT0⟩
def zaW(d:List zN)(e:T0)(f:T1)(i:T0)(j:Bool)(l:Bool)(m:Int)(n:Int)(o:List zl)(a:List zT)(b:List zN):Option (Bool):=
  (zct d e f i j l m n o a b).bind fun c=>some (decide (0≤c))
theorem zdi(c:List zN)(d:T0)(e:T1)(f:T0)(i:Bool)(j:Bool)(l:Int)(m:Int)(n:List zl)(a:List zT)(b:List zN){r:Bool}(h:zaW c d e f i j l m n a b=some r):zaj Tryz.prog 302 [.isl 4 (map zaa c),.fn (.func 328) [] [.ipt 10 [[sA d,.isl 1 (map zn e),sA f,bA i,bA j,iA l,iA m,.isl 4 (map zA n),.isl 3 (map z7 a),.isl 4 (map zaa b)]] 0 0]] (bA r):=by
 refine zj Tryz.func302 y kz y y<|A ?_
 obtain ⟨o,p,h⟩:=bs h
 refine A ?_
 exact RT0
instance (c:List zN)(d:T0)(e:T1)(f:T0)(i:Bool)(j:Bool)(l:Int)(m:Int)(n:List zl)(a:List zT)(b:List zN):PF Tryz.prog 302 [.isl 4 (map zaa c),.fn (.func 328) [] [.ipt 10 [[sA d,.isl 1 (map zn e),sA f,bA i,bA j,iA l,iA m,.isl 4 (map zA n),.isl 3 (map z7 a),.isl 4 (map zaa b)]] 0 0]] (zaW c d e f i j l m n a b) bA:=⟨fun _=>zdi c d e f i j l m n a b⟩
def zkj(a:zb):Option (Bool):=
  (zaW a.Traps a.Name a.Params a.Ret a.Static a.Abstract a.Locals a.Stack a.Code a.Maps a.Traps).bind fun b=>some ((!b)&&(decide ((length a.Traps:Int)≤6)))
instance (a:zb):PF Tryz.prog 248 [.agg (zd a)] (zkj a) bA:=⟨fun r h=>by
 refine zj Tryz.func248 y kz y y<|A ?_
 obtain ⟨c,b,h⟩:=bs h
 refine A ?_
 refine u<|pcs (zdi a.Traps a.Name a.Params a.Ret a.Static a.Abstract a.Locals a.Stack a.Code a.Maps a.Traps b) y y (.cons (si y) (.cons (zfx t ⟨(zbY y ⟨(si y),(si y),(si y),(si y),(si y),(si y),(si y),(si y),(si y),(si y),t⟩),t⟩) .nil)) zbQ<|A ?_
 refine A ?_
 exact RT0⟩
def zfc(a:Bool):Option (Bool):=
  some a
def zjp(a:zb):Option (Bool):=
  (zjW a.Name).bind fun b=>(cond ((!b)||(decide (6<(length a.Params:Int)))) (some true) ((zkl a.Params).bind fun c=>some (!c))).bind fun d=>(cond d (some true) ((zoX a.Ret).bind fun e=>some (!e))).bind fun f=>cond f (some false) (cond a.Abstract (some (zhF a)) (cond ((a.Name == [36,105,110,105,116])&&(((!a.Static)||(decide (0<(length a.Params:Int))))||(!(a.Ret == [86])))) (some false) (cond (zt a.Locals (zax a) 16) (cond (zt a.Stack 0 16) ((zeH a).bind fun i=>cond i ((zlV a).bind fun j=>cond j ((zkj a).bind fun l=>zfc l) (zfc false)) (zfc false)) (zfc false)) (zfc false))))
instance (a:zb):PF Tryz.prog 157 [.agg (zd a)] (zjp a) bA:=⟨fun r h=>by
 refine zj Tryz.func157 y kz y y<|A ?_
 refine zh ?_
 obtain ⟨x,B,C,D,E,F,h⟩:=bs3 h
 refine A ?_
 refine zeh h y (fun m h=>?_) fun m h=>?_
 ·refine A ?_
  exact RT0
 ·refine zf<|zh<|A ?_
  refine zeh h y (fun j h=>?_) fun j h=>?_
  ·refine A ?_
   exact RT0
  ·refine zf<|zh<|A ?_
   refine zeh h y (fun l h=>?_) fun l h=>?_
   ·refine A ?_
    exact RT0
   ·refine zf ?_
    refine zcX (X:=Bool) (fun z=>[(2,bA z)]) (fun z=>[]) (fun z=>zfc z=some r) ?_ ?_
    ·rcases bb (zt a.Locals (zax a) 16) with c |c
     ·replace h:=bT c h
      rcases bb (zt a.Stack 0 16) with d |d
      ·replace h:=bT d h
       obtain ⟨i,n,h⟩:=bs h
       rcases bb i with e |e
       ·replace h:=bT e h
        obtain ⟨o,q,h⟩:=bs h
        rcases bb o with f |f
        ·replace h:=bT f h
         obtain ⟨p,s,h⟩:=bs h
         exact rdQ [] [0,1,2,3,4,5,6,7,8,9,10,11,12,13,14,15,16,17,18,19,20,21,22] [(2,_),(69,_),(68,_),(67,_),(66,_),(65,_),(64,_),(63,_),(62,_),(61,_),(60,_),(59,_),(58,_),(57,_),(56,_),(55,_),(54,_),(53,_),(52,_),(51,_),(50,_),(49,_),(48,_)] 0 (zhx (z:=by exact ⟨p,h,zcs []⟩))
        ·replace h:=bF f h
         exact rdQ [] [0,1,2,3,4,5,6,7,8,9,10,11,12,13,14,15,16,17,18,19,20,21,22] [(2,_),(69,_),(68,_),(67,_),(66,_),(65,_),(64,_),(63,_),(62,_),(61,_),(60,_),(59,_),(58,_),(57,_),(56,_),(55,_),(54,_),(53,_),(52,_),(51,_),(50,_),(49,_),(48,_)] 0 (zhx (z:=by exact ⟨false,h,zcs []⟩))
       ·replace h:=bF e h
        exact zfy [] [22,21,20,19,18,17,16,15,14,13,12,11,10,9,8,7,6,5,4,3,2,1,0] [(2,bA false),(69,bA false),(68,.lit undef),(67,.lit undef),(66,bA false),(65,bA false),(64,.lit undef),(63,.lit undef),(62,bA i),(61,bA i),(60,bA i),(59,.agg (zd a)),(58,bA (zt a.Stack 0 16)),(57,bA (zt a.Stack 0 16)),(56,bA (zt a.Stack 0 16)),(55,iA a.Stack),(54,.mpt 0 0 6),(53,bA (zt a.Locals (zax a) 16)),(52,bA (zt a.Locals (zax a) 16)),(51,iA (zax a)),(50,.agg (zd a)),(49,iA a.Locals),(48,.mpt 0 0 5)] 0 kz kz y kz (zB1 ⟨pe,pe,pe,pe,pe,pe,pe,pe,pe,pe,(fun _=>pag (b:=(zt a.Stack 0 16)) y y y y d y (pc (zh8 a n) y y y<|w)),(fun _=>pag (b:=(zt a.Stack 0 16)) y y y y d y (ld ti y y<|w)),pe,pe,(fun _=>pag (b:=(zt a.Locals (zax a) 16)) y y y y c y (pc (zez a.Stack 0 16 y) y y y<|w)),(fun _=>pag (b:=(zt a.Locals (zax a) 16)) y y y y c y (ld ti y y<|w)),(fun _=>pag (b:=(zt a.Locals (zax a) 16)) y y y y c y (fa ti y y y<|w)),pe,(pb y (pc (zez a.Locals (zax a) 16 y) y y y w)),(pb y (pc (ziI a y) y y y w)),(pb y (ld ti y y w)),(pb y (ld ti y y w)),(pb y (fa ti y y y w)),t⟩ ⟨false,h,zH []⟩)
      ·replace h:=bF d h
       exact zfy [] [22,21,20,19,18,17,16,15,14,13,12,11,10,9,8,7,6,5,4,3,2,1,0] [(2,bA false),(69,bA false),(68,.lit undef),(67,.lit undef),(66,bA false),(65,bA false),(64,.lit undef),(63,.lit undef),(62,bA false),(61,bA false),(60,.lit undef),(59,.lit undef),(58,bA (zt a.Stack 0 16)),(57,bA (zt a.Stack 0 16)),(56,bA (zt a.Stack 0 16)),(55,iA a.Stack),(54,.mpt 0 0 6),(53,bA (zt a.Locals (zax a) 16)),(52,bA (zt a.Locals (zax a) 16)),(51,iA (zax a)),(50,.agg (zd a)),(49,iA a.Locals),(48,.mpt 0 0 5)] 0 kz kz y kz (zB1 ⟨pe,pe,pe,pe,pe,pe,pe,pe,pe,pe,pe,pe,pe,pe,(fun _=>pag (b:=(zt a.Locals (zax a) 16)) y y y y c y (pc (zez a.Stack 0 16 y) y y y<|w)),(fun _=>pag (b:=(zt a.Locals (zax a) 16)) y y y y c y (ld ti y y<|w)),(fun _=>pag (b:=(zt a.Locals (zax a) 16)) y y y y c y (fa ti y y y<|w)),pe,(pb y (pc (zez a.Locals (zax a) 16 y) y y y w)),(pb y (pc (ziI a y) y y y w)),(pb y (ld ti y y w)),(pb y (ld ti y y w)),(pb y (fa ti y y y w)),t⟩ ⟨false,h,zH []⟩)
     ·replace h:=bF c h
      exact zfy [] [22,21,20,19,18,17,16,15,14,13,12,11,10,9,8,7,6,5,4,3,2,1,0] [(2,bA false),(69,bA false),(68,.lit undef),(67,.lit undef),(66,bA false),(65,bA false),(64,.lit undef),(63,.lit undef),(62,bA false),(61,bA false),(60,.lit undef),(59,.lit undef),(58,bA false),(57,bA false),(56,.lit undef),(55,.lit undef),(54,.lit undef),(53,bA (zt a.Locals (zax a) 16)),(52,bA (zt a.Locals (zax a) 16)),(51,iA (zax a)),(50,.agg (zd a)),(49,iA a.Locals),(48,.mpt 0 0 5)] 0 kz kz y kz (zB1 ⟨pe,pe,pe,pe,pe,pe,pe,pe,pe,pe,pe,pe,pe,pe,pe,pe,pe,pe,(pb y (pc (zez a.Locals (zax a) 16 y) y y y w)),(pb y (pc (ziI a y) y y y w)),(pb y (ld ti y y w)),(pb y (ld ti y y w)),(pb y (fa ti y y y w)),t⟩ ⟨false,h,zH []⟩)
    ·rintro v h
     exact RT0⟩
def zkh(a:zb)(e:T0)(f:T0)(b:Bool)(i:T1)(j:List zi)(l:List zb):Option (Bool):=
  (cond (a.Abstract == b) ((zjp a).bind fun c=>some c) (some false)).bind fun d=>some d
theorem zmr(a:zb)(b:T0)(c:T0)(d:Bool)(e:T1)(f:List zi)(i:List zb){r:Bool}(h:zkh a b c d e f i=some r):zaj Tryz.prog 156 [.agg (zd a),.ipt 6 [[sA b,sA c,bA d,.isl 1 (map zn e),.isl 3 (map zD f),.isl 10 (map zd i)]] 0 0] (bA r):=by
 refine zj Tryz.func156 y kz y y<|A ?_
 obtain ⟨j,l,h⟩:=bs h
 refine A ?_
 exact RT0
instance (a:zb)(b:T0)(c:T0)(d:Bool)(e:T1)(f:List zi)(i:List zb):PF Tryz.prog 156 [.agg (zd a),.ipt 6 [[sA b,sA c,bA d,.isl 1 (map zn e),.isl 3 (map zD f),.isl 10 (map zd i)]] 0 0] (zkh a b c d e f i) bA:=⟨fun _=>zmr a b c d e f i⟩
def ziY(a:zb):T0:=
  a.Name
theorem zmq(a:zb){r:T0}(h:ziY a=r):zaj Tryz.prog 155 [.agg (zd a)] (sA r):=by
 refine zj Tryz.func155 y kz y y ?_
 unfold ziY at h
 refine A ?_
 refine A ?_
 refine zK ?_
 obtain rfl:=h
 exact ⟨_,y,zbG []⟩
instance (a:zb):PF Tryz.prog 155 [.agg (zd a)] (some (ziY a)) sA:=.of fun _=>zmq a
def zfX(c:zb)(d:T0)(e:T1)(f:T0)(i:Bool)(j:Bool)(l:Int)(m:Int)(n:List zl)(a:List zT)(b:List zN):Bool:=
  ((ziY (zb.mk d e f i j l m n a b)) == (ziY c))
instance (n:zb)(c:T0)(d:T1)(e:T0)(f:Bool)(i:Bool)(j:Int)(l:Int)(m:List zl)(a:List zT)(b:List zN):PF Tryz.prog 240 [.agg (zd n),.ipt 1 [[.fn (.func 155) [] []]] 0 0,.ipt 10 [[sA c,.isl 1 (map zn d),sA e,bA f,bA i,iA j,iA l,.isl 4 (map zA m),.isl 3 (map z7 a),.isl 4 (map zaa b)]] 0 0] (some (zfX n c d e f i j l m a b)) bA:=.of fun r h=>by
 refine zj Tryz.func240 y kz y y ?_
 unfold zfX at h
 refine A ?_
 refine rdA [(4,_)] [] [] [0,1,2,3,4,5,6,7] [(4,_),(11,_),(10,_),(9,_),(8,_),(7,_),(6,_),(5,_)] 0 (zhx ⟨peC,peC,(by exact pb y (pc (zmq (zb.mk c d e f i j l m a b) y) y y y<|w)),peC,peC,peC,peC,peC,t⟩ (zcs [])) ?_
 refine zK ?_
 obtain rfl:=h
 exact ⟨_,y,zbG []⟩
def zc0:Option (Int):=
  some (-1)
def zaF(b:List zb)(f:T0)(i:T1)(j:T0)(l:Bool)(m:Bool)(n:Int)(o:Int)(p:List zl)(c:List zT)(d:List zN)(a:Int):Option (Sum (Int) (Sum (Unit) (Int))):=
  cond (decide (a<(length b:Int))) ((idx b a).bind fun e=>cond (zfX e f i j l m n o p c d) (some (.inr (.inr a))) (some (.inl (IntKind.i64.wrap (a+1))))) (some (.inr (.inl ())))
def zbS(d:List zb)(e:T0)(f:T1)(i:T0)(j:Bool)(l:Bool)(m:Int)(n:Int)(p:List zl)(a:List zT)(c:List zN):Option (Int):=
  (zm (fun z=>zaF d e f i j l m n p a c z) 0).bind fun o=>zI o (fun b=>zc0) some
instance (d:List zb)(e:T0)(f:T1)(i:T0)(j:Bool)(l:Bool)(m:Int)(n:Int)(p:List zl)(a:List zT)(c:List zN):PF Tryz.prog 225 [.isl 10 (map zd d),.fn (.func 240) [] [.ipt 1 [[.fn (.func 155) [] []]] 0 0,.ipt 10 [[sA e,.isl 1 (map zn f),sA i,bA j,bA l,iA m,iA n,.isl 4 (map zA p),.isl 3 (map z7 a),.isl 4 (map zaa c)]] 0 0]] (zbS d e f i j l m n p a c) iA:=⟨fun r h=>by
 refine zj Tryz.func225 y kz y y<|A ?_
 refine zh<|A ?_
 obtain ⟨o,ho,h⟩:=bs h
 refine lpB ho (fun z=>[(0,.isl 10 (map zd d)),(1,.fn (.func 240) [] [.ipt 1 [[.fn (.func 155) [] []]] 0 0,.ipt 10 [[sA e,.isl 1 (map zn f),sA i,bA j,bA l,iA m,iA n,.isl 4 (map zA p),.isl 3 (map z7 a),.isl 4 (map zaa c)]] 0 0]),(7,iA (length d:Int)),(8,iA z)]) (fun z=>[]) (fun b=>[]) (fun b=>[]) (pG Tryz.f225 iA) (zcs []) ?_ ?_
 ·rintro v r h
  refine A ?_
  refine zh ?_
  refine zeh h y (fun q h=>?_) fun q h=>?_
  ·refine zf<|zh<|zp<|A ?_
   obtain ⟨x,B,h⟩:=bs h
   refine A ?_
   refine zeh h y (fun s h=>?_) fun s h=>?_
   ·refine A ?_
    refine zK ?_
    obtain rfl:=sm h
    exact ⟨_,y,_,y,zbG []⟩
   ·refine zf<|A ?_
    obtain rfl:=sm h
    exact ⟨_,y,zH []⟩
  ·refine zG ?_
   obtain rfl:=sm h
   exact ⟨y,_,y,zH []⟩
 ·rintro ⟨⟩ rfl
  refine zv<|A ?_
  exact RT0⟩
def zae(d:List zb)(e:T0)(f:T1)(i:T0)(j:Bool)(l:Bool)(m:Int)(n:Int)(o:List zl)(a:List zT)(b:List zN):Option (Bool):=
  (zbS d e f i j l m n o a b).bind fun c=>some (decide (0≤c))
theorem zcu(c:List zb)(d:T0)(e:T1)(f:T0)(i:Bool)(j:Bool)(l:Int)(m:Int)(n:List zl)(a:List zT)(b:List zN){r:Bool}(h:zae c d e f i j l m n a b=some r):zaj Tryz.prog 239 [.isl 10 (map zd c),.fn (.func 240) [] [.ipt 1 [[.fn (.func 155) [] []]] 0 0,.ipt 10 [[sA d,.isl 1 (map zn e),sA f,bA i,bA j,iA l,iA m,.isl 4 (map zA n),.isl 3 (map z7 a),.isl 4 (map zaa b)]] 0 0]] (bA r):=by
 refine zj Tryz.func239 y kz y y<|A ?_
 obtain ⟨o,p,h⟩:=bs h
 refine A ?_
 exact RT0
instance (c:List zb)(d:T0)(e:T1)(f:T0)(i:Bool)(j:Bool)(l:Int)(m:Int)(n:List zl)(a:List zT)(b:List zN):PF Tryz.prog 239 [.isl 10 (map zd c),.fn (.func 240) [] [.ipt 1 [[.fn (.func 155) [] []]] 0 0,.ipt 10 [[sA d,.isl 1 (map zn e),sA f,bA i,bA j,iA l,iA m,.isl 4 (map zA n),.isl 3 (map z7 a),.isl 4 (map zaa b)]] 0 0]] (zae c d e f i j l m n a b) bA:=⟨fun _=>zcu c d e f i j l m n a b⟩
def zki(a:List zb)(b:Int):Option (Bool):=
  some (decide ((length a:Int)≤b))
def zfA(c:List zb)(j:T0)(l:T0)(m:Bool)(n:T1)(o:List zi)(p:List zb)(b:Int):Option (Sum (Int) (Sum (Unit) (Bool))):=
  cond (decide (b<(length c:Int))) ((idx c b).bind fun a=>(zkh a j l m n o p).bind fun d=>(cond (!d) (some true) ((zjs c 0 b).bind fun e=>(zae e a.Name a.Params a.Ret a.Static a.Abstract a.Locals a.Stack a.Code a.Maps a.Traps).bind fun f=>some f)).bind fun i=>cond i (some (.inr (.inr false))) (some (.inl (IntKind.i64.wrap (b+1))))) (some (.inr (.inl ())))
def zdM(a:List zb)(c:Int)(d:T0)(e:T0)(f:Bool)(i:T1)(j:List zi)(l:List zb):Option (Bool):=
  (zm (fun z=>zfA a d e f i j l z) 0).bind fun o=>zI o (fun b=>zki a c) some
theorem zhi(f:List zb)(i:Int)(l:T0)(m:T0)(n:Bool)(p:T1)(q:List zi)(s:List zb){r:Bool}(h:zdM f i l m n p q s=some r):zaj Tryz.prog 154 [.isl 10 (map zd f),iA i,.fn (.func 155) [] [],.fn (.func 156) [] [.ipt 6 [[sA l,sA m,bA n,.isl 1 (map zn p),.isl 3 (map zD q),.isl 10 (map zd s)]] 0 0]] (bA r):=by
 refine zj Tryz.func154 y kz y y<|A ?_
 refine zh<|A ?_
 obtain ⟨o,ho,h⟩:=bs h
 refine lpB ho (fun z=>[(0,.isl 10 (map zd f)),(1,iA i),(3,.fn (.func 156) [] [.ipt 6 [[sA l,sA m,bA n,.isl 1 (map zn p),.isl 3 (map zD q),.isl 10 (map zd s)]] 0 0]),(6,.mpt 0 0 0),(11,.isl 10 (map zd f)),(12,iA (length f:Int)),(13,iA z)]) (fun z=>[some (1,[[.fn (.func 155) [] []]])]) (fun b=>[(0,.isl 10 (map zd f)),(1,iA i)]) (fun b=>[]) (pG Tryz.f154 bA) (zcs [.old 0]) ?_ ?_
 ·rintro C r h
  refine A ?_
  refine zh ?_
  refine zeh h y (fun D h=>?_) fun D h=>?_
  ·refine zf<|zh<|zp ?_
   obtain ⟨c,I,h⟩:=bs h
   refine A ?_
   obtain ⟨J,E,F,e,h⟩:=bs2 h
   refine rg y<|u<|mv y<|u<|ld ti y y<|u<|pc (zmr c l m n p q s E) y y y<|u<|nt y<|u<|mv y<|zwC (x:=F) (j:=4) 5 y y y y y gpn (fun d=>by replace e:=bF d e;obtain ⟨G,v,e⟩:=bs e;obtain ⟨K,H,e⟩:=bs e;obtain rfl:=sm e;exact g y d<|mv y<|g y d<|mv y<|g y d<|slI (a:=0) (b:=C) ti y ti y y y (zox y v) v<|g y d<|mf y y<|g y d<|pcs (zcu G c.Name c.Params c.Ret c.Static c.Abstract c.Locals c.Stack c.Code c.Maps c.Traps H) y y (.cons (si y) (.cons (zfx t ⟨(zbY y ⟨(si y),t⟩),(zbY y ⟨(si y),(si y),(si y),(si y),(si y),(si y),(si y),(si y),(si y),(si y),t⟩),t⟩) .nil)) zbQ<|zJ (eg [23,24,25,26,27] 5 y y y y)) (fun hb=>(sm (bT hb e)).symm)<|zJ ?_
   refine zeh h y (fun B h=>?_) fun B h=>?_
   ·refine A ?_
    refine zK ?_
    obtain rfl:=sm h
    exact ⟨_,y,_,y,zbG []⟩
   ·refine zf<|A ?_
    obtain rfl:=sm h
    exact ⟨_,y,zH [.old 0]⟩
  ·refine zG ?_
   obtain rfl:=sm h
   exact ⟨y,_,y,zH []⟩
 ·rintro ⟨⟩ rfl
  refine zv<|A ?_
  exact RT0
instance (a:List zb)(b:Int)(c:T0)(d:T0)(e:Bool)(f:T1)(i:List zi)(j:List zb):PF Tryz.prog 154 [.isl 10 (map zd a),iA b,.fn (.func 155) [] [],.fn (.func 156) [] [.ipt 6 [[sA c,sA d,bA e,.isl 1 (map zn f),.isl 3 (map zD i),.isl 10 (map zd j)]] 0 0]] (zdM a b c d e f i j) bA:=⟨fun _=>zhi a b c d e f i j⟩
def zlW(a:T0):T0:=
  a
instance (a:T0):PF Tryz.prog 160 [sA a] (some (zlW a)) sA:=.of fun r h=>by
 refine zj Tryz.func160 y kz y y ?_
 unfold zlW at h
 refine A ?_
 refine A ?_
 refine zK ?_
 obtain rfl:=h
 exact ⟨_,y,zbG []⟩
def zhj(a:T0)(b:T0):Bool:=
  ((zlW b) == (zlW a))
instance (a:T0)(b:T0):PF Tryz.prog 250 [sA a,.ipt 1 [[.fn (.func 160) [] []]] 0 0,.ipt 1 [[sA b]] 0 0] (some (zhj a b)) bA:=.of fun r h=>by
 refine zj Tryz.func250 y kz y y ?_
 unfold zhj at h
 refine A ?_
 refine rdA [(4,_)] [] [] [0,1,2,3,4,5,6,7] [(4,_),(11,_),(10,_),(9,_),(8,_),(7,_),(6,_),(5,_)] 0 (zhx (z:=zcs [])) ?_
 refine zK ?_
 obtain rfl:=h
 exact ⟨_,y,zbG []⟩
def zd8:Option (Int):=
  some (-1)
def za5(b:T1)(c:T0)(a:Int):Option (Sum (Int) (Sum (Unit) (Int))):=
  cond (decide (a<(length b:Int))) ((idx b a).bind fun d=>cond (zhj d c) (some (.inr (.inr a))) (some (.inl (IntKind.i64.wrap (a+1))))) (some (.inr (.inl ())))
def zcI(a:T1)(c:T0):Option (Int):=
  (zm (fun z=>za5 a c z) 0).bind fun o=>zI o (fun b=>zd8) some
instance (a:T1)(c:T0):PF Tryz.prog 181 [.isl 1 (map zn a),.fn (.func 250) [] [.ipt 1 [[.fn (.func 160) [] []]] 0 0,.ipt 1 [[sA c]] 0 0]] (zcI a c) iA:=⟨fun r h=>by
 refine zj Tryz.func181 y kz y y<|A ?_
 refine zh<|A ?_
 obtain ⟨o,ho,h⟩:=bs h
 refine lpB ho (fun z=>[(0,.isl 1 (map zn a)),(1,.fn (.func 250) [] [.ipt 1 [[.fn (.func 160) [] []]] 0 0,.ipt 1 [[sA c]] 0 0]),(7,iA (length a:Int)),(8,iA z)]) (fun z=>[]) (fun b=>[]) (fun b=>[]) (pG Tryz.f181 iA) (zcs []) ?_ ?_
 ·rintro f r h
  refine A ?_
  refine zh ?_
  refine zeh h y (fun d h=>?_) fun d h=>?_
  ·refine zf<|zh<|zp<|A ?_
   obtain ⟨i,j,h⟩:=bs h
   refine A ?_
   refine zeh h y (fun e h=>?_) fun e h=>?_
   ·refine A ?_
    refine zK ?_
    obtain rfl:=sm h
    exact ⟨_,y,_,y,zbG []⟩
   ·refine zf<|A ?_
    obtain rfl:=sm h
    exact ⟨_,y,zH []⟩
  ·refine zG ?_
   obtain rfl:=sm h
   exact ⟨y,_,y,zH []⟩
 ·rintro ⟨⟩ rfl
  refine zv<|A ?_
  exact RT0⟩
def zar(a:T1)(b:T0):Option (Bool):=
  (zcI a b).bind fun c=>some (decide (0≤c))
theorem zds(a:T1)(b:T0){r:Bool}(h:zar a b=some r):zaj Tryz.prog 99 [.isl 1 (map zn a),.fn (.func 250) [] [.ipt 1 [[.fn (.func 160) [] []]] 0 0,.ipt 1 [[sA b]] 0 0]] (bA r):=by
 refine zj Tryz.func99 y kz y y<|A ?_
 obtain ⟨c,d,h⟩:=bs h
 refine A ?_
 exact RT0
instance (a:T1)(b:T0):PF Tryz.prog 99 [.isl 1 (map zn a),.fn (.func 250) [] [.ipt 1 [[.fn (.func 160) [] []]] 0 0,.ipt 1 [[sA b]] 0 0]] (zar a b) bA:=⟨fun _=>zds a b⟩
def zmM(a:T1)(b:Int):Option (Bool):=
  some (decide ((length a:Int)≤b))
def zg1(c:T1)(a:Int):Option (Sum (Int) (Sum (Unit) (Bool))):=
  cond (decide (a<(length c:Int))) ((idx c a).bind fun b=>(zgu b).bind fun d=>(cond (!d) (some true) ((zjs c 0 a).bind fun e=>(zar e b).bind fun f=>some f)).bind fun i=>cond i (some (.inr (.inr false))) (some (.inl (IntKind.i64.wrap (a+1))))) (some (.inr (.inl ())))
def zgU(a:T1)(c:Int):Option (Bool):=
  (zm (fun z=>zg1 a z) 0).bind fun o=>zI o (fun b=>zmM a c) some
instance (e:T1)(f:Int):PF Tryz.prog 159 [.isl 1 (map zn e),iA f,.fn (.func 160) [] [],.fn (.func 158) [] []] (zgU e f) bA:=⟨fun r h=>by
 refine zj Tryz.func159 y kz y y<|A ?_
 refine zh<|A ?_
 obtain ⟨o,ho,h⟩:=bs h
 refine lpB ho (fun z=>[(0,.isl 1 (map zn e)),(1,iA f),(3,.fn (.func 158) [] []),(6,.mpt 0 0 0),(11,.isl 1 (map zn e)),(12,iA (length e:Int)),(13,iA z)]) (fun z=>[some (1,[[.fn (.func 160) [] []]])]) (fun b=>[(0,.isl 1 (map zn e)),(1,iA f)]) (fun b=>[]) (pG Tryz.f159 bA) (zcs [.old 0]) ?_ ?_
 ·rintro v r h
  refine A ?_
  refine zh ?_
  refine zeh h y (fun m h=>?_) fun m h=>?_
  ·refine zf<|zh<|zp ?_
   obtain ⟨n,B,h⟩:=bs h
   refine A ?_
   obtain ⟨C,D,p,d,h⟩:=bs2 h
   refine A ?_
   refine zwC (x:=p) (j:=4) 5 y y y y y gpn (fun c=>by replace d:=bF c d;obtain ⟨q,i,d⟩:=bs d;obtain ⟨E,s,d⟩:=bs d;obtain rfl:=sm d;exact g y c<|mv y<|g y c<|mv y<|g y c<|slI (a:=0) (b:=v) ti y ti y y y (zox y i) i<|g y c<|mf y y<|g y c<|pcs (zds q n s) y y (.cons (si y) (.cons (zfx t ⟨(zbY y ⟨(si y),t⟩),(zbY y ⟨(si y),t⟩),t⟩) .nil)) zbQ<|zJ (eg [23,24,25,26,27] 5 y y y y)) (fun hb=>(sm (bT hb d)).symm)<|zJ ?_
   refine zeh h y (fun l h=>?_) fun l h=>?_
   ·refine A ?_
    refine zK ?_
    obtain rfl:=sm h
    exact ⟨_,y,_,y,zbG []⟩
   ·refine zf<|A ?_
    obtain rfl:=sm h
    exact ⟨_,y,zH [.old 0]⟩
  ·refine zG ?_
   obtain rfl:=sm h
   exact ⟨y,_,y,zH []⟩
 ·rintro ⟨⟩ rfl
  refine zv<|A ?_
  exact RT0⟩
def znu(a:za):Option (Bool):=
  cond (a.Interface&&((!(a.Super == [79,98,106,101,99,116]))||(decide (0<(length a.Fields:Int))))) (some false) ((zfz a.Fields 8).bind fun b=>(zdM a.Methods 8 a.Name a.Super a.Interface a.Impl a.Fields a.Methods).bind fun c=>(zgu a.Name).bind fun d=>(cond d ((zgu a.Super).bind fun e=>some e) (some false)).bind fun f=>(cond f ((zgU a.Impl 4).bind fun i=>some i) (some false)).bind fun j=>some ((j&&b)&&c))
instance (a:za):PF Tryz.prog 72 [.agg (zc a)] (znu a) bA:=⟨fun r h=>by
 refine zj Tryz.func72 y kz y y<|A ?_
 refine zh<|A ?_
 refine zeh h y (fun b h=>?_) fun b h=>?_
 ·refine A ?_
  exact RT0
 ·refine zf ?_
  obtain ⟨e,f,h⟩:=bs h
  refine A ?_
  obtain ⟨i,c,h⟩:=bs h
  refine A ?_
  refine u<|pcs (zhi a.Methods 8 a.Name a.Super a.Interface a.Impl a.Fields a.Methods c) y y (.cons (si y) (.cons (si y) (.cons (si y) (.cons (zfx t ⟨(zbY y ⟨(si y),(si y),(si y),(si y),(si y),(si y),t⟩),t⟩) .nil)))) zbQ<|A ?_
  obtain ⟨j,l,m,n,o,d,h⟩:=bs3 h
  refine A ?_
  exact RT0⟩
def zjC(a:zb)(b:T0):Bool:=
  (a.Name == b)
instance (a:zb)(b:T0):PF Tryz.prog 226 [.agg (zd a),.ipt 1 [[sA b]] 0 0] (some (zjC a b)) bA:=.of fun r h=>by
 refine zj Tryz.func226 y kz y y ?_
 unfold zjC at h
 refine A ?_
 refine A ?_
 refine zK ?_
 obtain rfl:=h
 exact ⟨_,y,zbG []⟩
def zcv:Option (Int):=
  some (-1)
def zal(b:List zb)(c:T0)(a:Int):Option (Sum (Int) (Sum (Unit) (Int))):=
  cond (decide (a<(length b:Int))) ((idx b a).bind fun d=>cond (zjC d c) (some (.inr (.inr a))) (some (.inl (IntKind.i64.wrap (a+1))))) (some (.inr (.inl ())))
def zaG(a:List zb)(c:T0):Option (Int):=
  (zm (fun z=>zal a c z) 0).bind fun o=>zI o (fun b=>zcv) some
theorem zcw(a:List zb)(c:T0){r:Int}(h:zaG a c=some r):zaj Tryz.prog 225 [.isl 10 (map zd a),.fn (.func 226) [] [.ipt 1 [[sA c]] 0 0]] (iA r):=by
 refine zj Tryz.func225 y kz y y<|A ?_
 refine zh<|A ?_
 obtain ⟨o,ho,h⟩:=bs h
 refine lpB ho (fun z=>[(0,.isl 10 (map zd a)),(1,.fn (.func 226) [] [.ipt 1 [[sA c]] 0 0]),(7,iA (length a:Int)),(8,iA z)]) (fun z=>[]) (fun b=>[]) (fun b=>[]) (pG Tryz.f225 iA) (zcs []) ?_ ?_
 ·rintro f r h
  refine A ?_
  refine zh ?_
  refine zeh h y (fun d h=>?_) fun d h=>?_
  ·refine zf<|zh<|zp<|A ?_
   obtain ⟨i,j,h⟩:=bs h
   refine A ?_
   refine zeh h y (fun e h=>?_) fun e h=>?_
   ·refine A ?_
    refine zK ?_
    obtain rfl:=sm h
    exact ⟨_,y,_,y,zbG []⟩
   ·refine zf<|A ?_
    obtain rfl:=sm h
    exact ⟨_,y,zH []⟩
  ·refine zG ?_
   obtain rfl:=sm h
   exact ⟨y,_,y,zH []⟩
 ·rintro ⟨⟩ rfl
  refine zv<|A ?_
  exact RT0
instance (a:List zb)(b:T0):PF Tryz.prog 225 [.isl 10 (map zd a),.fn (.func 226) [] [.ipt 1 [[sA b]] 0 0]] (zaG a b) iA:=⟨fun _=>zcw a b⟩
def zeG(a:za)(b:T0):Option (Int):=
  (zaG a.Methods b).bind fun c=>some c
theorem zge(a:za)(b:T0){r:Int}(h:zeG a b=some r):zaj Tryz.prog 141 [.agg (zc a),sA b] (iA r):=by
 refine zj Tryz.func141 y kz y y<|A ?_
 obtain ⟨d,c,h⟩:=bs h
 refine A ?_
 refine u<|pcs (zcw a.Methods b c) y y (.cons (si y) (.cons (zfx t ⟨(zbY y ⟨(si y),t⟩),t⟩) .nil)) zbQ<|A ?_
 exact RT0
instance (a:za)(b:T0):PF Tryz.prog 141 [.agg (zc a),sA b] (zeG a b) iA:=⟨fun _=>zge a b⟩
def zkg(a:zi)(b:T0):Bool:=
  (a.Name == b)
instance (a:zi)(b:T0):PF Tryz.prog 316 [.agg (zD a),.ipt 1 [[sA b]] 0 0] (some (zkg a b)) bA:=.of fun r h=>by
 refine zj Tryz.func316 y kz y y ?_
 unfold zkg at h
 refine A ?_
 refine A ?_
 refine zK ?_
 obtain rfl:=h
 exact ⟨_,y,zbG []⟩
def zcS:Option (Int):=
  some (-1)
def zaA(b:List zi)(c:T0)(a:Int):Option (Sum (Int) (Sum (Unit) (Int))):=
  cond (decide (a<(length b:Int))) ((idx b a).bind fun d=>cond (zkg d c) (some (.inr (.inr a))) (some (.inl (IntKind.i64.wrap (a+1))))) (some (.inr (.inl ())))
def zaO(a:List zi)(c:T0):Option (Int):=
  (zm (fun z=>zaA a c z) 0).bind fun o=>zI o (fun b=>zcS) some
theorem zcT(a:List zi)(c:T0){r:Int}(h:zaO a c=some r):zaj Tryz.prog 315 [.isl 3 (map zD a),.fn (.func 316) [] [.ipt 1 [[sA c]] 0 0]] (iA r):=by
 refine zj Tryz.func315 y kz y y<|A ?_
 refine zh<|A ?_
 obtain ⟨o,ho,h⟩:=bs h
 refine lpB ho (fun z=>[(0,.isl 3 (map zD a)),(1,.fn (.func 316) [] [.ipt 1 [[sA c]] 0 0]),(7,iA (length a:Int)),(8,iA z)]) (fun z=>[]) (fun b=>[]) (fun b=>[]) (pG Tryz.f315 iA) (zcs []) ?_ ?_
 ·rintro f r h
  refine A ?_
  refine zh ?_
  refine zeh h y (fun d h=>?_) fun d h=>?_
  ·refine zf<|zh<|zp<|A ?_
   obtain ⟨i,j,h⟩:=bs h
   refine A ?_
   refine zeh h y (fun e h=>?_) fun e h=>?_
   ·refine A ?_
    refine zK ?_
    obtain rfl:=sm h
    exact ⟨_,y,_,y,zbG []⟩
   ·refine zf<|A ?_
    obtain rfl:=sm h
    exact ⟨_,y,zH []⟩
  ·refine zG ?_
   obtain rfl:=sm h
   exact ⟨y,_,y,zH []⟩
 ·rintro ⟨⟩ rfl
  refine zv<|A ?_
  exact RT0
instance (a:List zi)(b:T0):PF Tryz.prog 315 [.isl 3 (map zD a),.fn (.func 316) [] [.ipt 1 [[sA b]] 0 0]] (zaO a b) iA:=⟨fun _=>zcT a b⟩
def ziV(a:za)(b:T0):Option (Int):=
  (zaO a.Fields b).bind fun c=>some c
theorem zmn(a:za)(b:T0){r:Int}(h:ziV a b=some r):zaj Tryz.prog 223 [.agg (zc a),sA b] (iA r):=by
 refine zj Tryz.func223 y kz y y<|A ?_
 obtain ⟨d,c,h⟩:=bs h
 refine A ?_
 refine u<|pcs (zcT a.Fields b c) y y (.cons (si y) (.cons (zfx t ⟨(zbY y ⟨(si y),t⟩),t⟩) .nil)) zbQ<|A ?_
 exact RT0
instance (a:za)(b:T0):PF Tryz.prog 223 [.agg (zc a),sA b] (ziV a b) iA:=⟨fun _=>zmn a b⟩
def znQ:Option (Int):=
  some (-1)
def ziO(b:za)(c:T0)(a:Int):Option (Sum (Int) (Sum (Unit) (Int))):=
  cond (decide (a<(length b.Fields:Int))) ((idx b.Fields a).bind fun d=>cond (d.Name == c) (some (.inr (.inr a))) (some (.inl (IntKind.i64.wrap (a+1))))) (some (.inr (.inl ())))
def zom(a:za)(c:T0):Option (Int):=
  (zm (fun z=>ziO a c z) 0).bind fun o=>zI o (fun b=>znQ) some
def zmD:Option (Int):=
  some (-1)
def zh6(b:za)(c:T0)(a:Int):Option (Sum (Int) (Sum (Unit) (Int))):=
  cond (decide (a<(length b.Methods:Int))) ((idx b.Methods a).bind fun d=>cond (d.Name == c) (some (.inr (.inr a))) (some (.inl (IntKind.i64.wrap (a+1))))) (some (.inr (.inl ())))
def zkF(a:za)(c:T0):Option (Int):=
  (zm (fun z=>zh6 a c z) 0).bind fun o=>zI o (fun b=>zmD) some
def zpS:Option (Bool):=
  some true
def zgn(b:T1)(c:T1)(a:Int):Option (Sum (Int) (Sum (Unit) (Bool))):=
  cond (decide (a<(length b:Int))) ((idx b a).bind fun d=>(idx c a).bind fun e=>cond (!(d == e)) (some (.inr (.inr false))) (some (.inl (IntKind.i64.wrap (a+1))))) (some (.inr (.inl ())))
def zhc(a:T1)(c:T1):Option (Bool):=
  cond (!((length a:Int) == (length c:Int))) (some false) ((zm (fun z=>zgn a c z) 0).bind fun o=>zI o (fun b=>zpS) some)
theorem zi6(a:T1)(c:T1){r:Bool}(h:zhc a c=some r):zaj Tryz.prog 48 [.isl 1 (map zn a),.isl 1 (map zn c)] (bA r):=by
 refine zj Tryz.func48 y kz y y<|A ?_
 refine zh<|A ?_
 refine zeh h y (fun d h=>?_) fun d h=>?_
 ·refine A ?_
  exact RT0
 ·refine zf<|zh<|A ?_
  obtain ⟨o,ho,h⟩:=bs h
  refine lpB ho (fun z=>[(0,.isl 1 (map zn a)),(1,.isl 1 (map zn c)),(5,iA z)]) (fun z=>[]) (fun b=>[]) (fun b=>[]) (pG Tryz.f48 bA) (zcs []) ?_ ?_
  ·rintro i r h
   refine zh<|A ?_
   refine zeh h y (fun e h=>?_) fun e h=>?_
   ·refine zf<|zh<|zp ?_
    obtain ⟨j,l,m,n,h⟩:=bs2 h
    refine rdA [(0,_),(1,_),(5,_),(25,_)] [] [] [0,1,2,3,4,5,6,7,8] [(25,_),(24,_),(23,_),(22,_),(21,_),(20,_),(19,_),(18,_),(17,_)] 0 (zhx (z:=zcs [])) ?_
    refine zeh h y (fun f h=>?_) fun f h=>?_
    ·refine A ?_
     refine zK ?_
     obtain rfl:=sm h
     exact ⟨_,y,_,y,zbG []⟩
    ·refine zf<|A ?_
     obtain rfl:=sm h
     exact ⟨_,y,zH []⟩
   ·refine zG ?_
    obtain rfl:=sm h
    exact ⟨y,_,y,zH []⟩
  ·rintro ⟨⟩ rfl
   refine zv<|A ?_
   exact RT0
structure zr where
  l:List za
  at_:T2
def zaZ(x:zr):List AV:=[.isl 6 (map zc x.l),.imp (map (rKV (fun x=>iA x)) x.at_)]
def zcc(a:T0)(b:Int):Option (T0):=
  cond (decide (b<(length a:Int))) ((zjs a 0 b).bind fun c=>some c) (some a)
instance (d:T0)(c:Int):PF Tryz.prog 38 [sA d,iA c] (zcc d c) sA:=⟨fun r h=>by
 refine zj Tryz.func38 y kz y y<|A ?_
 refine zh<|A ?_
 refine zeh h y (fun e h=>?_) fun e h=>?_
 ·obtain ⟨i,f,h⟩:=bs h
  refine A ?_
  refine u<|slS (a:=0) (b:=c) ti y y y (zox y f) f<|A ?_
  exact RT0
 ·refine zf<|A ?_
  exact RT0⟩
def zrz(a:T1):Option (T1):=
  some a
def zgy(b:T1)(i:Int)(c:T1)(a:Int):Option (Sum (T1×Int) (Sum (T1) (T1))):=
  cond ((decide (a<(length b:Int)))&&(decide (a<i))) ((idx b a).bind fun d=>(zcc d 12).bind fun e=>(zgT 16 c [e]).bind fun f=>some (.inl (f,(IntKind.i64.wrap (a+1))))) (some (.inr (.inl c)))
def zeC(a:T1)(c:Int):Option (T1):=
  (zm (fun z=>zgy a c z.1 z.2) ([],0)).bind fun o=>zI o (fun b=>zrz b) some
theorem zgz(a:T1)(c:Int){r:T1}(h:zeC a c=some r):zaj Tryz.prog 70 [.isl 1 (map zn a),iA c] (.isl 1 (map zn r)):=by
 refine zj Tryz.func70 y kz y y<|A ?_
 refine A ?_
 refine zh<|A ?_
 obtain ⟨o,ho,h⟩:=bs h
 refine lpB ho (fun z=>[(0,.isl 1 (map zn a)),(1,iA c),(5,.msl 0 0 (length z.1)),(6,iA z.2)]) (fun z=>[some (1,map zn z.1)]) (fun b=>[(5,.msl 0 0 (length b))]) (fun b=>[some (1,map zn b)]) (pG Tryz.f70 (fun r=>.isl 1 (map zn r))) ⟨[.fresh 1],ce y y<|ce y y<|cv y (.nilown y)<|ce y y<|cn,y,⟨w,t⟩,y,k⟩ ?_ ?_
 ·rintro ⟨n,p⟩ r h
  refine zh<|A ?_
  refine zeh h y (fun d h=>?_) fun d h=>?_
  ·refine zf<|zh<|zp ?_
   obtain ⟨j,q,e,s,l,i,h⟩:=bs3 h
   refine A ?_
   refine u<|apM 2 ti y ti y y (by decide) ti y y y y (roX (f:=zn) (z:=[e]) y y) (fun _=>y) y i<|A ?_
   refine A ?_
   obtain rfl:=sm h
   exact ⟨_,y,zH [.old 2]⟩
  ·refine zG ?_
   obtain rfl:=sm h
   exact ⟨y,_,y,zH [.old 0]⟩
 ·rintro m rfl
  refine zv<|A ?_
  exact RT0
instance (a:T1)(b:Int):PF Tryz.prog 70 [.isl 1 (map zn a),iA b] (zeC a b) (fun r=>(.isl 1 (map zn r))):=⟨fun _=>zgz a b⟩
def zoY(a:zl):Option (zl):=
  (zcc a.C 14).bind fun b=>(zcc a.M 12).bind fun c=>some (zl.mk a.Op a.A b c)
instance (a:zl):PF Tryz.prog 148 [.agg (zA a)] (zoY a) (fun r=>(.agg (zA r))):=⟨fun r h=>by
 refine zj Tryz.func148 y kz y y<|A ?_
 obtain ⟨b,d,c,e,h⟩:=bs2 h
 refine rdA [(1,_),(2,_)] [some (4,[[iA a.Op,iA a.A,sA b,sA c]]),some (4,[[iA 0,iA 0,sA [],sA []]])] [7,9] [0,1,2,3,4,5,6] [(9,_),(8,_),(7,_),(6,_),(5,_),(4,_),(3,_)] 2 (zgE (z:=by exact ⟨(fun _ _=>⟨_,y,y,sto ti y y y<|⟨.any,[8],[(10,_)],y,y,y,t,zgE (z:=by exact ⟨nv,(fun _ _=>⟨_,y,y,sto ti y y y<|⟨.any,[],[],y,y,y,t,zhx (z:=zcs [.old 0,.old 1])⟩⟩),t⟩)⟩⟩),nw,t⟩)) ?_
 refine A ?_
 exact RT0⟩
def zqj(a:zb)(e:T0)(f:T1)(i:T0)(b:List zl)(c:List zT)(d:List zN):Option (zb):=
  some (zb.mk e f i a.Static a.Abstract a.Locals a.Stack b c d)
def zfS(d:zb)(c:List zN)(a:Int):Option (Sum ((List zN)×Int) (Sum ((List zN)) (zb))):=
  cond ((decide (a<(length d.Traps:Int)))&&(decide (a<8))) ((idx d.Traps a).bind fun b=>(zcc b.C 10).bind fun e=>(zgT 40 c [(zN.mk b.From b.To b.At e)]).bind fun f=>some (.inl (f,(IntKind.i64.wrap (a+1))))) (some (.inr (.inl c)))
def zjH(a:zb)(e:T0)(f:T1)(i:T0)(c:List zl)(d:List zT):Option (zb):=
  (zm (fun z=>zfS a z.1 z.2) ([],0)).bind fun o=>zI o (fun b=>zqj a e f i c d b) some
def zfR(b:zb)(c:List zT)(a:Int):Option (Sum ((List zT)×Int) (Sum ((List zT)) (zb))):=
  cond ((decide (a<(length b.Maps:Int)))&&(decide (a<104))) ((idx b.Maps a).bind fun d=>(idx b.Maps a).bind fun e=>(zeC e.Locals 20).bind fun f=>(idx b.Maps a).bind fun i=>(zeC i.Stack 20).bind fun j=>(zgT 56 c [(zT.mk d.At f j)]).bind fun l=>some (.inl (l,(IntKind.i64.wrap (a+1))))) (some (.inr (.inl c)))
def zjG(a:zb)(d:T0)(e:T1)(f:T0)(c:List zl):Option (zb):=
  (zm (fun z=>zfR a z.1 z.2) ([],0)).bind fun o=>zI o (fun b=>zjH a d e f c b) some
def zfQ(c:zb)(b:List zl)(a:Int):Option (Sum ((List zl)×Int) (Sum ((List zl)) (zb))):=
  cond ((decide (a<(length c.Code:Int)))&&(decide (a<104))) ((idx c.Code a).bind fun d=>(zoY d).bind fun e=>(zgT 48 b [e]).bind fun f=>some (.inl (f,(IntKind.i64.wrap (a+1))))) (some (.inr (.inl b)))
def zkx(a:zb):Option (zb):=
  (zcc a.Name 10).bind fun c=>(zeC a.Params 8).bind fun d=>(zcc a.Ret 12).bind fun e=>(zm (fun z=>zfQ a z.1 z.2) ([],0)).bind fun o=>zI o (fun b=>zjG a c d e b) some
instance (a:zb):PF Tryz.prog 71 [.agg (zd a)] (zkx a) (fun r=>(.agg (zd r))):=⟨fun r h=>by
 refine zj Tryz.func71 y kz y y<|A ?_
 obtain ⟨e,q1,i,q2,j,q3,h⟩:=bs3 h
 refine rdA [(1,_),(2,_),(3,_)] [some (10,[(zd a)]),some (10,[[sA [],.lit (.slice none 0 0),sA [],bA false,bA false,iA 0,iA 0,.lit (.slice none 0 0),.lit (.slice none 0 0),.lit (.slice none 0 0)]]),some (10,[[sA e,.isl 1 (map zn i),sA j,bA a.Static,bA a.Abstract,iA a.Locals,iA a.Stack,.lit (.slice none 0 0),.lit (.slice none 0 0),.lit (.slice none 0 0)]])] [18,19] [0,1,2,3,4,5,6,7,8,9,10,11,12,13,14,15,16,17] [(25,_),(24,_),(23,_),(22,_),(21,_),(20,_),(19,_),(18,_),(17,_),(16,_),(15,_),(14,_),(13,_),(12,_),(11,_),(10,_),(9,_),(8,_)] 2 (zgE ⟨peC,peC,peC,peC,peC,peC,peC,peC,peC,peC,peC,peC,peC,peC,peC,peC,peC,(by exact pb y (bd (parts:=[(0,sA e),(1,.isl 1 (map zn i)),(2,sA j),(3,bA a.Static),(4,bA a.Abstract),(5,iA a.Locals),(6,iA a.Stack)]) (cs:=[sA e,.isl 1 (map zn i),sA j,bA a.Static,bA a.Abstract,iA a.Locals,iA a.Stack,.lit (.slice none 0 0),.lit (.slice none 0 0),.lit (.slice none 0 0)]) ti y y kz<|w)),t⟩ (by exact ⟨(fun _ _=>⟨_,y,y,al 2 ti y<|⟨(.mpt 2 0 0),[],[(3,_)],y,y,y,y,zgE ⟨peC,peC,peC,peC,peC,peC,peC,peC,peC,peC,peC,peC,peC,peC,peC,peC,peC,(by exact pb y (bd (parts:=[(0,sA e),(1,.isl 1 (map zn i)),(2,sA j),(3,bA a.Static),(4,bA a.Abstract),(5,iA a.Locals),(6,iA a.Stack)]) (cs:=[sA e,.isl 1 (map zn i),sA j,bA a.Static,bA a.Abstract,iA a.Locals,iA a.Stack,.lit (.slice none 0 0),.lit (.slice none 0 0),.lit (.slice none 0 0)]) ti y y kz<|w)),t⟩ (by exact ⟨nv,(fun _ _=>⟨_,y,y,sto ti y y y<|⟨.any,[],[],y,y,y,t,zhx (z:=zcs [.old 0,.old 1,.old 2])⟩⟩),t⟩)⟩⟩),nw,t⟩)) ?_
 refine zh<|A ?_
 obtain ⟨o,ho,h⟩:=bs h
 refine lpB ho (fun z=>[(1,.mpt 0 0 0),(2,.mpt 1 0 0),(3,.mpt 2 0 0),(4,iA z.2)]) (fun z=>[some (10,[(zd a)]),some (10,[[sA [],.lit (.slice none 0 0),sA [],bA false,bA false,iA 0,iA 0,.lit (.slice none 0 0),.lit (.slice none 0 0),.lit (.slice none 0 0)]]),some (10,[[sA e,.isl 1 (map zn i),sA j,bA a.Static,bA a.Abstract,iA a.Locals,iA a.Stack,.msl 3 0 (length z.1),.lit (.slice none 0 0),.lit (.slice none 0 0)]]),some (4,map zA z.1)]) (fun b=>[(1,.mpt 0 0 0),(2,.mpt 1 0 0),(3,.mpt 2 0 0)]) (fun b=>[some (10,[(zd a)]),some (10,[[sA [],.lit (.slice none 0 0),sA [],bA false,bA false,iA 0,iA 0,.lit (.slice none 0 0),.lit (.slice none 0 0),.lit (.slice none 0 0)]]),some (10,[[sA e,.isl 1 (map zn i),sA j,bA a.Static,bA a.Abstract,iA a.Locals,iA a.Stack,.msl 3 0 (length b),.lit (.slice none 0 0),.lit (.slice none 0 0)]]),some (4,map zA b)]) (pG Tryz.f71 (fun r=>.agg (zd r))) ⟨[.old 0,.old 1,.old 2,.fresh 4],cv y (.mpt y)<|cv y (.mpt y)<|cv y (.mpt y)<|ce y y<|cn,y,⟨⟨_,y,zbV (ciL y)⟩,⟨_,y,zbV (ciL y)⟩,⟨_,y,zbV ⟨ci y,ci y,ci y,ci y,ci y,ci y,ci y,.nilown y,ci y,ci y,t⟩⟩,w,t⟩,y,k⟩ ?_ ?_
 ·rintro ⟨Q,R⟩ r h
  refine zh<|A ?_
  refine zeh h y (fun H h=>?_) fun H h=>?_
  ·refine zf<|zh<|zp ?_
   obtain ⟨S,T,K,U,v,L,h⟩:=bs3 h
   refine zqW [(1,_),(2,_),(3,_),(4,_)] [some (10,[(zd a)]),some (10,[[sA [],.lit (.slice none 0 0),sA [],bA false,bA false,iA 0,iA 0,.lit (.slice none 0 0),.lit (.slice none 0 0),.lit (.slice none 0 0)]]),some (10,[[sA e,.isl 1 (map zn i),sA j,bA a.Static,bA a.Abstract,iA a.Locals,iA a.Stack,.msl 3 0 (length v),.lit (.slice none 0 0),.lit (.slice none 0 0)]]),some (4,map zA v)] [8,9,11] [0,1,2,3,4,5,6,7] [(44,_),(43,_),(42,_),(41,_),(40,_),(39,_),(38,_),(37,_)] 3 (zgE (z:=by exact ⟨(fun _ _=>⟨_,y,y,bl 4 ti y ti y (by decide) (by decide) y y y<|⟨(.msl 4 0 1),[],[(45,_)],y,y,y,y,zgE (z:=by exact ⟨nv,(fun _ _=>⟨_,y,y,apM 5 ti y ti y y (by decide) ti y y y y (roX (f:=zA) (z:=[K]) y y) (fun _=>y) y L<|⟨(.msl 5 0 (length v)),[10],[(47,_),(46,_)],y,y,y,y,zgE (z:=by exact ⟨nv,nv,(fun _ _=>⟨_,y,y,sto ti y y y<|⟨.any,[],[],y,y,y,t,zhx (z:=zcs [.old 0,.old 1,.old 2,.old 5])⟩⟩),t⟩)⟩⟩),nw,t⟩)⟩⟩),nw,nw,t⟩)) ?_
   refine A ?_
   obtain rfl:=sm h
   exact ⟨_,y,zH [.old 0,.old 1,.old 2,.old 3]⟩
  ·refine zG ?_
   obtain rfl:=sm h
   exact ⟨y,_,y,zH [.old 0,.old 1,.old 2,.old 3]⟩
 ·rintro c rfl
  refine zv<|zh<|A ?_
  obtain ⟨o,ho,h⟩:=bs h
  refine lpB ho (fun z=>[(1,.mpt 0 0 0),(2,.mpt 1 0 0),(3,.mpt 2 0 0),(5,iA z.2)]) (fun z=>[some (10,[(zd a)]),some (10,[[sA [],.lit (.slice none 0 0),sA [],bA false,bA false,iA 0,iA 0,.lit (.slice none 0 0),.lit (.slice none 0 0),.lit (.slice none 0 0)]]),some (10,[[sA e,.isl 1 (map zn i),sA j,bA a.Static,bA a.Abstract,iA a.Locals,iA a.Stack,.msl 3 0 (length c),.msl 4 0 (length z.1),.lit (.slice none 0 0)]]),some (4,map zA c),some (3,map z7 z.1)]) (fun b=>[(1,.mpt 0 0 0),(2,.mpt 1 0 0),(3,.mpt 2 0 0)]) (fun b=>[some (10,[(zd a)]),some (10,[[sA [],.lit (.slice none 0 0),sA [],bA false,bA false,iA 0,iA 0,.lit (.slice none 0 0),.lit (.slice none 0 0),.lit (.slice none 0 0)]]),some (10,[[sA e,.isl 1 (map zn i),sA j,bA a.Static,bA a.Abstract,iA a.Locals,iA a.Stack,.msl 3 0 (length c),.msl 4 0 (length b),.lit (.slice none 0 0)]]),some (4,map zA c),some (3,map z7 b)]) (pG Tryz.f71 (fun r=>.agg (zd r))) ⟨[.old 0,.old 1,.old 2,.old 3,.fresh 3],cv y (.mpt y)<|cv y (.mpt y)<|cv y (.mpt y)<|ce y y<|cn,y,⟨⟨_,y,zbV (ciL y)⟩,⟨_,y,zbV (ciL y)⟩,⟨_,y,zbV ⟨ci y,ci y,ci y,ci y,ci y,ci y,ci y,.msl y,.nilown y,ci y,t⟩⟩,⟨_,y,zP (fun _=>y)⟩,w,t⟩,y,k⟩ ?_ ?_
  ·rintro ⟨M,d⟩ r h
   refine zh<|A ?_
   refine zeh h y (fun I h=>?_) fun I h=>?_
   ·refine zf<|zh<|zp ?_
    obtain ⟨x,l,p,m,B,C,D,n,h⟩:=bs4 h
    obtain ⟨E,G,q,N,h⟩:=bs2 h
    refine zqW [(1,.mpt 0 0 0),(2,.mpt 1 0 0),(3,.mpt 2 0 0),(5,iA d)] [some (10,[(zd a)]),some (10,[[sA [],.lit (.slice none 0 0),sA [],bA false,bA false,iA 0,iA 0,.lit (.slice none 0 0),.lit (.slice none 0 0),.lit (.slice none 0 0)]]),some (10,[[sA e,.isl 1 (map zn i),sA j,bA a.Static,bA a.Abstract,iA a.Locals,iA a.Stack,.msl 3 0 (length c),.msl 4 0 (length q),.lit (.slice none 0 0)]]),some (4,map zA c),some (3,map z7 q)] [23,24,26] [22,21,20,19,18,17,16,15,14,13,12,11,10,9,8,7,6,5,4,3,2,1,0] [(81,.agg [iA x.At,.isl 1 (map zn B),.isl 1 (map zn E)]),(80,.isl 1 (map zn E)),(79,.isl 1 (map zn D.Stack)),(78,.ipt 3 (map z7 a.Maps) (Int.toNat d) 2),(77,.ipt 3 (map z7 a.Maps) (Int.toNat d) 0),(76,iA d),(75,.isl 3 (map z7 a.Maps)),(74,.mpt 0 0 8),(73,.isl 1 (map zn B)),(72,.isl 1 (map zn p.Locals)),(71,.ipt 3 (map z7 a.Maps) (Int.toNat d) 1),(70,.ipt 3 (map z7 a.Maps) (Int.toNat d) 0),(69,iA d),(68,.isl 3 (map z7 a.Maps)),(67,.mpt 0 0 8),(66,iA x.At),(65,.ipt 3 (map z7 a.Maps) (Int.toNat d) 0),(64,.ipt 3 (map z7 a.Maps) (Int.toNat d) 0),(63,iA d),(62,.isl 3 (map z7 a.Maps)),(61,.mpt 0 0 8),(60,.msl 4 0 (length M)),(59,.mpt 2 0 8)] 3 (zB2 ⟨(pb y (bd ti y y y w)),(pb y (pc (zgz D.Stack 20 G) y y y w)),(pb y (ldI ti y (zbI n).2.2 y w)),(pb y (fa ti y y y w)),(pb y (ixI ti y ti y y y n w)),pe,(pb y (ld ti y y w)),(pb y (fa ti y y y w)),(pb y (pc (zgz p.Locals 20 C) y y y w)),(pb y (ldI ti y (zbI m).2.2 y w)),(pb y (fa ti y y y w)),(pb y (ixI ti y ti y y y m w)),pe,(pb y (ld ti y y w)),(pb y (fa ti y y y w)),(pb y (ldI ti y (zbI l).2.2 y w)),(pb y (fa ti y y y w)),(pb y (ixI ti y ti y y y l w)),pe,(pb y (ld ti y y w)),(pb y (fa ti y y y w)),(pb y (ld ti y y w)),(pb y (fa ti y y y w)),t⟩ ⟨(fun _ _=>⟨_,y,y,bl 5 ti y ti y (by decide) (by decide) y y y<|⟨(.msl 5 0 1),[],[(82,.msl 5 0 1)],y,y,kz,y,zB2 ⟨pe,(pb y (pc (zgz D.Stack 20 G) y y y w)),(pb y (ldI ti y (zbI n).2.2 y w)),(pb y (fa ti y y y w)),(pb y (ixI ti y ti y y y n w)),pe,(pb y (ld ti y y w)),(pb y (fa ti y y y w)),(pb y (pc (zgz p.Locals 20 C) y y y w)),(pb y (ldI ti y (zbI m).2.2 y w)),(pb y (fa ti y y y w)),(pb y (ixI ti y ti y y y m w)),pe,(pb y (ld ti y y w)),(pb y (fa ti y y y w)),(pb y (ldI ti y (zbI l).2.2 y w)),(pb y (fa ti y y y w)),(pb y (ixI ti y ti y y y l w)),pe,(pb y (ld ti y y w)),(pb y (fa ti y y y w)),(pb y (ld ti y y w)),(pb y (fa ti y y y w)),t⟩ ⟨nv,(fun _ _=>⟨_,y,y,apM 6 ti y ti y y (by decide) ti y y y y (roX (f:=z7) (z:=[(zT.mk x.At B E)]) y y) (fun _=>y) y N<|⟨(.msl 6 0 (length q)),[25],[(84,.mpt 2 0 8),(83,.msl 6 0 (length q))],y,y,kz,y,zB2 ⟨(pb y (fa ti y y y w)),pe,pe,(pb y (ldI ti y (zbI n).2.2 y w)),(pb y (fa ti y y y w)),(pb y (ixI ti y ti y y y n w)),pe,(pb y (ld ti y y w)),(pb y (fa ti y y y w)),(pb y (pc (zgz p.Locals 20 C) y y y w)),(pb y (ldI ti y (zbI m).2.2 y w)),(pb y (fa ti y y y w)),(pb y (ixI ti y ti y y y m w)),pe,(pb y (ld ti y y w)),(pb y (fa ti y y y w)),(pb y (ldI ti y (zbI l).2.2 y w)),(pb y (fa ti y y y w)),(pb y (ixI ti y ti y y y l w)),pe,(pb y (ld ti y y w)),(pb y (fa ti y y y w)),pe,(pb y (fa ti y y y w)),t⟩ ⟨nv,nv,(fun _ _=>⟨_,y,y,sto ti y y y<|⟨.any,[],[],y,y,kz,t,zEP (zH [.old 0,.old 1,.old 2,.old 3,.old 6])⟩⟩),t⟩⟩⟩),nw,t⟩⟩⟩),nw,nw,t⟩) ?_
    refine A ?_
    obtain rfl:=sm h
    exact ⟨_,y,zH [.old 0,.old 1,.old 2,.old 3,.old 4]⟩
   ·refine zG ?_
    obtain rfl:=sm h
    exact ⟨y,_,y,zH [.old 0,.old 1,.old 2,.old 3,.old 4]⟩
  ·rintro s rfl
   refine zv<|zh<|A ?_
   obtain ⟨o,ho,h⟩:=bs h
   refine lpB ho (fun z=>[(1,.mpt 0 0 0),(2,.mpt 1 0 0),(3,.mpt 2 0 0),(6,iA z.2)]) (fun z=>[some (10,[(zd a)]),some (10,[[sA [],.lit (.slice none 0 0),sA [],bA false,bA false,iA 0,iA 0,.lit (.slice none 0 0),.lit (.slice none 0 0),.lit (.slice none 0 0)]]),some (10,[[sA e,.isl 1 (map zn i),sA j,bA a.Static,bA a.Abstract,iA a.Locals,iA a.Stack,.msl 3 0 (length c),.msl 4 0 (length s),.msl 5 0 (length z.1)]]),some (4,map zA c),some (3,map z7 s),some (4,map zaa z.1)]) (fun b=>[(2,.mpt 0 0 0),(3,.mpt 1 0 0)]) (fun b=>[some (10,[[sA [],.lit (.slice none 0 0),sA [],bA false,bA false,iA 0,iA 0,.lit (.slice none 0 0),.lit (.slice none 0 0),.lit (.slice none 0 0)]]),some (10,[[sA e,.isl 1 (map zn i),sA j,bA a.Static,bA a.Abstract,iA a.Locals,iA a.Stack,.msl 2 0 (length c),.msl 3 0 (length s),.msl 4 0 (length b)]]),some (4,map zA c),some (3,map z7 s),some (4,map zaa b)]) (pG Tryz.f71 (fun r=>.agg (zd r))) ⟨[.old 0,.old 1,.old 2,.old 3,.old 4,.fresh 4],cv y (.mpt y)<|cv y (.mpt y)<|cv y (.mpt y)<|ce y y<|cn,y,⟨⟨_,y,zbV (ciL y)⟩,⟨_,y,zbV (ciL y)⟩,⟨_,y,zbV ⟨ci y,ci y,ci y,ci y,ci y,ci y,ci y,.msl y,.msl y,.nilown y,t⟩⟩,⟨_,y,zP (fun _=>y)⟩,⟨_,y,zP (fun _=>y)⟩,w,t⟩,y,k⟩ ?_ ?_
   ·rintro ⟨V,W⟩ r h
    refine zh<|A ?_
    refine zeh h y (fun J h=>?_) fun J h=>?_
    ·refine zf<|zh<|zp ?_
     obtain ⟨F,X,h⟩:=bs h
     refine A ?_
     obtain ⟨O,Y,h⟩:=bs h
     refine A ?_
     obtain ⟨Z,P,h⟩:=bs h
     refine A ?_
     refine u<|apM 8 ti y ti y y (by decide) ti y y y y (roX (f:=zaa) (z:=[(zN.mk F.From F.To F.At O)]) y y) (fun _=>y) y P<|A ?_
     refine A ?_
     obtain rfl:=sm h
     exact ⟨_,y,zH [.old 0,.old 1,.old 2,.old 3,.old 4,.old 8]⟩
    ·refine zG ?_
     obtain rfl:=sm h
     exact ⟨y,_,y,zH [.old 1,.old 2,.old 3,.old 4,.old 5]⟩
   ·rintro v43 rfl
    refine zv<|A ?_
    exact RT0⟩
def zt1(c:T0)(d:T0)(e:T1)(a:List zi)(b:List zb):Option (T0×T0×T1×(List zi)×(List zb)):=
  some (c,d,e,a,b)
def zhM(c:za)(b:List zb)(a:Int):Option (Sum ((List zb)×Int) (Sum ((List zb)) (T0×T0×T1×(List zi)×(List zb)))):=
  cond ((decide (a<(length c.Methods:Int)))&&(decide (a<10))) ((idx c.Methods a).bind fun d=>(zkx d).bind fun e=>(zgT 152 b [e]).bind fun f=>some (.inl (f,(IntKind.i64.wrap (a+1))))) (some (.inr (.inl b)))
def zm4(c:za)(d:T0)(e:T0)(f:T1)(a:List zi):Option (T0×T0×T1×(List zi)×(List zb)):=
  (zm (fun z=>zhM c z.1 z.2) ([],0)).bind fun o=>zI o (fun b=>zt1 d e f a b) some
def zhL(d:za)(c:List zi)(a:Int):Option (Sum ((List zi)×Int) (Sum ((List zi)) (T0×T0×T1×(List zi)×(List zb)))):=
  cond ((decide (a<(length d.Fields:Int)))&&(decide (a<10))) ((idx d.Fields a).bind fun b=>(zcc b.Name 10).bind fun e=>(zcc b.Type_ 12).bind fun f=>(zgT 40 c [(zi.mk e f b.Static)]).bind fun i=>some (.inl (i,(IntKind.i64.wrap (a+1))))) (some (.inr (.inl c)))
def zo0(a:za):Option (T0×T0×T1×(List zi)×(List zb)):=
  (zcc a.Name 10).bind fun c=>(zcc a.Super 10).bind fun d=>(zeC a.Impl 6).bind fun e=>(zm (fun z=>zhL a z.1 z.2) ([],0)).bind fun o=>zI o (fun b=>zm4 a c d e b) some
theorem zt2(a:za){r:T0×T0×T1×(List zi)×(List zb)}(h:zo0 a=some r):SC Tryz.prog 16 [.agg (zc a)] [] (.agg [sA r.1,sA r.2.1,bA a.Interface,.isl 1 (map zn r.2.2.1),.msl 0 0 (length r.2.2.2.1),.msl 1 0 (length r.2.2.2.2)]) [.many 3 (map zD r.2.2.2.1),.many 10 (map zd r.2.2.2.2)]:=by
 refine ⟨⟨zg0 (sz:=3) (fun _=>y),zg0 (sz:=10) (fun _=>y),t⟩,zai Tryz.func16 y kz y ?_⟩
 refine A ?_
 obtain ⟨d,N,e,O,i,P,h⟩:=bs3 h
 refine rdA [(1,_),(2,_),(3,_)] [some (6,[(zc a)]),some (6,[[sA [],sA [],bA false,.lit (.slice none 0 0),.lit (.slice none 0 0),.lit (.slice none 0 0)]]),some (6,[[sA d,sA e,bA a.Interface,.isl 1 (map zn i),.lit (.slice none 0 0),.lit (.slice none 0 0)]])] [12,13] [0,1,2,3,4,5,6,7,8,9,10,11] [(18,_),(17,_),(16,_),(15,_),(14,_),(13,_),(12,_),(11,_),(10,_),(9,_),(8,_),(7,_)] 2 (zgE (z:=by exact ⟨(fun _ _=>⟨_,y,y,al 2 ti y<|⟨(.mpt 2 0 0),[],[(3,_)],y,y,y,y,zgE (z:=by exact ⟨nv,(fun _ _=>⟨_,y,y,sto ti y y y<|⟨.any,[],[],y,y,y,t,zhx (z:=zcs [.old 0,.old 1,.old 2])⟩⟩),t⟩)⟩⟩),nw,t⟩)) ?_
 refine zh<|A ?_
 obtain ⟨o,ho,h⟩:=bs h
 refine lpB ho (fun z=>[(1,.mpt 0 0 0),(2,.mpt 1 0 0),(3,.mpt 2 0 0),(4,iA z.2)]) (fun z=>[some (6,[(zc a)]),some (6,[[sA [],sA [],bA false,.lit (.slice none 0 0),.lit (.slice none 0 0),.lit (.slice none 0 0)]]),some (6,[[sA d,sA e,bA a.Interface,.isl 1 (map zn i),.msl 3 0 (length z.1),.lit (.slice none 0 0)]]),some (3,map zD z.1)]) (fun b=>[(1,.mpt 0 0 0),(2,.mpt 1 0 0),(3,.mpt 2 0 0)]) (fun b=>[some (6,[(zc a)]),some (6,[[sA [],sA [],bA false,.lit (.slice none 0 0),.lit (.slice none 0 0),.lit (.slice none 0 0)]]),some (6,[[sA d,sA e,bA a.Interface,.isl 1 (map zn i),.msl 3 0 (length b),.lit (.slice none 0 0)]]),some (3,map zD b)]) (pF Tryz.f16 (fun r=>.agg [sA r.1,sA r.2.1,bA a.Interface,.isl 1 (map zn r.2.2.1),.msl 0 0 (length r.2.2.2.1),.msl 1 0 (length r.2.2.2.2)]) fun r=>[some (3,map zD r.2.2.2.1),some (10,map zd r.2.2.2.2)]) ⟨[.old 0,.old 1,.old 2,.fresh 3],cv y (.mpt y)<|cv y (.mpt y)<|cv y (.mpt y)<|ce y y<|cn,y,⟨⟨_,y,zbV (ciL y)⟩,⟨_,y,zbV (ciL y)⟩,⟨_,y,zbV ⟨ci y,ci y,ci y,ci y,.nilown y,ci y,t⟩⟩,w,t⟩,y,k⟩ ?_ ?_
 ·rintro ⟨C,D⟩ r h
  refine zh<|A ?_
  refine zeh h y (fun m h=>?_) fun m h=>?_
  ·refine zf<|zh<|zp ?_
   obtain ⟨p,E,h⟩:=bs h
   refine A ?_
   obtain ⟨q,F,s,G,j,v,h⟩:=bs3 h
   refine zqW [(1,_),(2,_),(3,_),(4,_)] [some (6,[(zc a)]),some (6,[[sA [],sA [],bA false,.lit (.slice none 0 0),.lit (.slice none 0 0),.lit (.slice none 0 0)]]),some (6,[[sA d,sA e,bA a.Interface,.isl 1 (map zn i),.msl 3 0 (length j),.lit (.slice none 0 0)]]),some (3,map zD j)] [11,12,14] [0,1,2,3,4,5,6,7,8,9,10] [(45,_),(44,_),(43,_),(42,_),(41,_),(40,_),(39,_),(38,_),(37,_),(36,_),(35,_)] 3 (zgE (z:=by exact ⟨(fun _ _=>⟨_,y,y,bl 5 ti y ti y (by decide) (by decide) y y y<|⟨(.msl 5 0 1),[],[(46,_)],y,y,y,y,zgE (z:=by exact ⟨nv,(fun _ _=>⟨_,y,y,apM 6 ti y ti y y (by decide) ti y y y y (roX (f:=zD) (z:=[(zi.mk q s p.Static)]) y y) (fun _=>y) y v<|⟨(.msl 6 0 (length j)),[13],[(48,_),(47,_)],y,y,y,y,zgE (z:=by exact ⟨nv,nv,(fun _ _=>⟨_,y,y,sto ti y y y<|⟨.any,[],[],y,y,y,t,zhx (z:=zcs [.old 0,.old 1,.old 2,.old 6])⟩⟩),t⟩)⟩⟩),nw,t⟩)⟩⟩),nw,nw,t⟩)) ?_
   refine A ?_
   obtain rfl:=sm h
   exact ⟨_,y,zH [.old 0,.old 1,.old 2,.old 3]⟩
  ·refine zG ?_
   obtain rfl:=sm h
   exact ⟨y,_,y,zH [.old 0,.old 1,.old 2,.old 3]⟩
 ·rintro c rfl
  refine zv<|zh<|A ?_
  obtain ⟨o,ho,h⟩:=bs h
  refine lpB ho (fun z=>[(1,.mpt 0 0 0),(2,.mpt 1 0 0),(3,.mpt 2 0 0),(6,iA z.2)]) (fun z=>[some (6,[(zc a)]),some (6,[[sA [],sA [],bA false,.lit (.slice none 0 0),.lit (.slice none 0 0),.lit (.slice none 0 0)]]),some (6,[[sA d,sA e,bA a.Interface,.isl 1 (map zn i),.msl 3 0 (length c),.msl 4 0 (length z.1)]]),some (3,map zD c),some (10,map zd z.1)]) (fun b=>[(2,.mpt 0 0 0),(3,.mpt 1 0 0)]) (fun b=>[some (6,[[sA [],sA [],bA false,.lit (.slice none 0 0),.lit (.slice none 0 0),.lit (.slice none 0 0)]]),some (6,[[sA d,sA e,bA a.Interface,.isl 1 (map zn i),.msl 2 0 (length c),.msl 3 0 (length b)]]),some (3,map zD c),some (10,map zd b)]) (pF Tryz.f16 (fun r=>.agg [sA r.1,sA r.2.1,bA a.Interface,.isl 1 (map zn r.2.2.1),.msl 0 0 (length r.2.2.2.1),.msl 1 0 (length r.2.2.2.2)]) fun r=>[some (3,map zD r.2.2.2.1),some (10,map zd r.2.2.2.2)]) ⟨[.old 0,.old 1,.old 2,.old 3,.fresh 10],cv y (.mpt y)<|cv y (.mpt y)<|cv y (.mpt y)<|ce y y<|cn,y,⟨⟨_,y,zbV (ciL y)⟩,⟨_,y,zbV (ciL y)⟩,⟨_,y,zbV ⟨ci y,ci y,ci y,ci y,.msl y,.nilown y,t⟩⟩,⟨_,y,zP (fun _=>y)⟩,w,t⟩,y,k⟩ ?_ ?_
  ·rintro ⟨H,I⟩ r h
   refine zh<|A ?_
   refine zeh h y (fun n h=>?_) fun n h=>?_
   ·refine zf<|zh<|zp ?_
    obtain ⟨J,K,x,L,l,B,h⟩:=bs3 h
    refine zqW [(1,_),(2,_),(3,_),(6,_)] [some (6,[(zc a)]),some (6,[[sA [],sA [],bA false,.lit (.slice none 0 0),.lit (.slice none 0 0),.lit (.slice none 0 0)]]),some (6,[[sA d,sA e,bA a.Interface,.isl 1 (map zn i),.msl 3 0 (length c),.msl 4 0 (length l)]]),some (3,map zD c),some (10,map zd l)] [8,9,11] [0,1,2,3,4,5,6,7] [(67,_),(66,_),(65,_),(64,_),(63,_),(62,_),(61,_),(60,_)] 3 (zgE (z:=by exact ⟨(fun _ _=>⟨_,y,y,bl 5 ti y ti y (by decide) (by decide) y y y<|⟨(.msl 5 0 1),[],[(68,_)],y,y,y,y,zgE (z:=by exact ⟨nv,(fun _ _=>⟨_,y,y,apM 6 ti y ti y y (by decide) ti y y y y (roX (f:=zd) (z:=[x]) y y) (fun _=>y) y B<|⟨(.msl 6 0 (length l)),[10],[(70,_),(69,_)],y,y,y,y,zgE (z:=by exact ⟨nv,nv,(fun _ _=>⟨_,y,y,sto ti y y y<|⟨.any,[],[],y,y,y,t,zhx (z:=zcs [.old 0,.old 1,.old 2,.old 3,.old 6])⟩⟩),t⟩)⟩⟩),nw,t⟩)⟩⟩),nw,nw,t⟩)) ?_
    refine A ?_
    obtain rfl:=sm h
    exact ⟨_,y,zH [.old 0,.old 1,.old 2,.old 3,.old 4]⟩
   ·refine zG ?_
    obtain rfl:=sm h
    exact ⟨y,_,y,zH [.old 1,.old 2,.old 3,.old 4]⟩
  ·rintro M rfl
   refine zv<|A ?_
   refine zK ?_
   obtain rfl:=sm h
   exact ⟨_,y,zzA [.old 2,.old 3]⟩
def ztY(a:List za):Option ((List za)):=
  some a
def zhK(c:List za)(d:List za)(b:Int):Option (Sum ((List za)×Int) (Sum ((List za)) ((List za)))):=
  cond ((decide (b<(length c:Int)))&&(decide (b<18))) ((idx c b).bind fun e=>(zo0 e).bind fun a=>(zgT 112 d [(za.mk a.1 a.2.1 e.Interface a.2.2.1 a.2.2.2.1 a.2.2.2.2)]).bind fun f=>some (.inl (f,(IntKind.i64.wrap (b+1))))) (some (.inr (.inl d)))
def zoZ(a:List za):Option ((List za)):=
  (zm (fun z=>zhK a z.1 z.2) ([],0)).bind fun o=>zI o (fun b=>ztY b) some
theorem ztZ(c:List za){r:(List za)}(h:zoZ c=some r):SC Tryz.prog 26 [.isl 6 (map zc c)] [] (.msl 0 0 (length r)) [.many 6 (map zc r)]:=by
 refine ⟨⟨zg0 (sz:=6) (fun _=>y),t⟩,zai Tryz.func26 y kz y ?_⟩
 refine A ?_
 refine A ?_
 refine zh<|A ?_
 obtain ⟨o,ho,h⟩:=bs h
 refine lpB ho (fun z=>[(0,.isl 6 (map zc c)),(3,.msl 0 0 (length z.1)),(4,iA z.2)]) (fun z=>[some (6,map zc z.1)]) (fun b=>[(3,.msl 0 0 (length b))]) (fun b=>[some (6,map zc b)]) (pF Tryz.f26 (fun r=>.msl 0 0 (length r)) fun r=>[some (6,map zc r)]) ⟨[.fresh 6],ce y y<|cv y (.nilown y)<|ce y y<|cn,y,⟨w,t⟩,y,k⟩ ?_ ?_
 ·rintro ⟨d,f⟩ r h
  refine zh<|A ?_
  refine zeh h y (fun i h=>?_) fun i h=>?_
  ·refine zf<|zh<|zp ?_
   obtain ⟨e,p,a,l,m,j,h⟩:=bs3 h
   refine A ?_
   refine u<|sx [] (zt2 e l)<|zL (env0:=[(0,.isl 6 (map zc c)),(4,iA f),(15,.msl 0 0 (length d)),(20,.agg [sA a.1,sA a.2.1,bA e.Interface,.isl 1 (map zn a.2.2.1),.msl 1 0 (length a.2.2.2.1),.msl 2 0 (length a.2.2.2.2)])]) (st0:=[some (6,map zc d),some (3,map zD a.2.2.2.1),some (10,map zd a.2.2.2.2)]) (zH [.old 0,.old 1,.old 2])<|A ?_
   refine zL (env0:=[(0,.isl 6 (map zc c)),(4,iA f),(15,.msl 0 0 (length d)),(21,.msl 1 0 (length [(za.mk a.1 a.2.1 e.Interface a.2.2.1 a.2.2.2.1 a.2.2.2.2)]))]) (st0:=[some (6,map zc d),some (6,map zc [(za.mk a.1 a.2.1 e.Interface a.2.2.1 a.2.2.2.1 a.2.2.2.2)])]) (zH [.old 0,.old 3])<|u<|apM 2 ti y ti y y (by decide) ti y y y y (roM y) (fun _=>y) y j<|A ?_
   refine A ?_
   obtain rfl:=sm h
   exact ⟨_,y,zH [.old 2]⟩
  ·refine zG ?_
   obtain rfl:=sm h
   exact ⟨y,_,y,zH [.old 0]⟩
 ·rintro n rfl
  refine zv<|A ?_
  exact RT1
def zb2:T1:=
  ([[79,98,106,101,99,116],[84,104,114,111,119,110],[78,117,108,108,69,114,114],[82,97,110,103,101,69,114,114],[77,97,116,104,69,114,114],[67,97,115,116,69,114,114],[83,105,122,101,69,114,114],[83,116,111,114,101,69,114,114],[73,110,105,116,69,114,114],[67,108,97,115,115,69,114,114]])
theorem zrt{r:T1}(h:zb2=r):SC Tryz.prog 105 [] [] (.msl 0 0 (length r)) [.many 1 (map zn r)]:=by
 refine ⟨⟨zg0 (sz:=1) (fun _=>y),t⟩,zai Tryz.func105 y kz y ?_⟩
 unfold zb2 at h
 refine A ?_
 refine A ?_
 refine zK ?_
 obtain rfl:=h
 exact ⟨_,y,zbG [.old 0]⟩
def zrv(a:List za):Option ((List za)):=
  some a
def zks(c:List za)(d:Int)(e:T0)(a:T0):Option (Sum ((List za)×Int) (Sum ((List za)) ((List za)))):=
  (zgT 112 c ([(za.mk e a false [] [] [])])).bind fun b=>some (.inl (b,(IntKind.i64.wrap (d+1))))
def zrw(b:List za)(a:Int):Option (Sum ((List za)×Int) (Sum ((List za)) ((List za)))):=
  cond (decide (a<((length (zb2)):Int))) ((idx (zb2) a).bind fun c=>cond (decide (a<2)) ((idx ([[],[79,98,106,101,99,116]]) a).bind fun d=>zks b a c d) (zks b a c [84,104,114,111,119,110])) (some (.inr (.inl b)))
def zod:Option ((List za)):=
  (zm (fun z=>zrw z.1 z.2) ([],0)).bind fun o=>zI o (fun b=>zrv b) some
theorem zrx{r:(List za)}(h:zod=some r):SC Tryz.prog 98 [] [] (.msl 0 0 (length r)) [.many 6 (map zc r)]:=by
 refine ⟨⟨zg0 (sz:=6) (fun _=>y),t⟩,zai Tryz.func98 y kz y ?_⟩
 refine A ?_
 refine A ?_
 refine zh ?_
 refine rg y<|u<|sx [] (zrt y)<|zL (env0:=[(1,.lit (.slice none 0 0)),(5,.msl 0 0 (length (zb2)))]) (st0:=[some (1,map zn (zb2))]) (zH [.old 0])<|A ?_
 obtain ⟨o,ho,h⟩:=bs h
 refine lpB ho (fun z=>[(1,.msl 0 0 (length z.1)),(5,.msl 1 0 (length (zb2))),(6,iA ((length (zb2)):Int)),(7,iA z.2)]) (fun z=>[some (6,map zc z.1),some (1,map zn (zb2))]) (fun b=>[(1,.msl 0 0 (length b))]) (fun b=>[some (6,map zc b)]) (pF Tryz.f98 (fun r=>.msl 0 0 (length r)) fun r=>[some (6,map zc r)]) ⟨[.fresh 6,.old 0],cv y (.nilown y)<|cv y (.msl y)<|ce y y<|ce y y<|cn,y,⟨w,⟨_,y,zP (fun _=>y)⟩,t⟩,y,k⟩ ?_ ?_
 ·rintro ⟨a,c⟩ r h
  refine A ?_
  refine zh ?_
  refine zeh h y (fun f h=>?_) fun f h=>?_
  ·refine zf<|zh<|zp ?_
   obtain ⟨d,q,h⟩:=bs h
   refine A ?_
   refine A ?_
   refine zcX (X:=T0) (fun z=>[(1,.msl 0 0 (length a)),(4,.mpt 1 0 0),(5,.msl 2 0 (length (zb2))),(6,iA ((length (zb2)):Int)),(7,iA c)]) (fun z=>[some (6,map zc a),some (6,[[sA d,sA z,bA false,.lit (.slice none 0 0),.lit (.slice none 0 0),.lit (.slice none 0 0)]]),some (1,map zn (zb2))]) (fun z=>zks a c d z=some r) ?_ ?_
   ·refine A ?_
    refine zeh h y (fun i h=>?_) fun i h=>?_
    ·obtain ⟨l,j,h⟩:=bs h
     exact rl y<|u<|bl 3 ti y ti y (by decide) (by decide) y y y<|u<|mv y<|zL (env0:=[(1,.msl 0 0 (length a)),(4,.mpt 1 0 0),(5,.msl 2 0 (length (zb2))),(6,iA ((length (zb2)):Int)),(7,iA c),(16,.msl 3 0 (length ([[],[79,98,106,101,99,116]]))),(17,iA c)]) (st0:=[some (6,map zc a),some (6,[[sA d,sA [84,104,114,111,119,110],bA false,.lit (.slice none 0 0),.lit (.slice none 0 0),.lit (.slice none 0 0)]]),some (1,map zn (zb2)),some (1,map zn ([[],[79,98,106,101,99,116]]))]) (zH [.old 0,.old 2,.old 1,.old 3])<|u<|ixM ti y ti y y y y j<|u<|ldM ti y y (zbI j).2.2 y<|u<|fa ti y y y<|u<|sto ti y y y<|zJ (⟨l,h,zH [.old 0,.old 1,.old 2]⟩)
    ·refine zf ?_
     exact ⟨[84,104,114,111,119,110],h,zH [.old 0,.old 2,.old 1]⟩
   ·rintro e h
    obtain ⟨n,m,h⟩:=bs h
    refine A ?_
    refine zL (env0:=[(5,.msl 0 0 (length (zb2))),(6,iA ((length (zb2)):Int)),(7,iA c),(21,.msl 1 0 (length a)),(23,.msl 2 0 (length ([(za.mk d e false [] [] [])])))]) (st0:=[some (1,map zn (zb2)),some (6,map zc a),some (6,map zc ([(za.mk d e false [] [] [])]))]) (zH [.old 2,.old 0,.old 3])<|u<|apM 3 ti y ti y y (by decide) ti y y y y (roM y) (fun _=>y) y m<|A ?_
    refine A ?_
    obtain rfl:=sm h
    exact ⟨_,y,zH [.old 3,.old 0]⟩
  ·refine zG ?_
   obtain rfl:=sm h
   exact ⟨y,_,y,zH [.old 0]⟩
 ·rintro p rfl
  refine zv<|A ?_
  exact RT1
def ziR(a:za):Option (T1):=
  (zgT 16 [a.Super] a.Impl).bind fun b=>some b
theorem zkr(a:za){r:T1}(h:ziR a=some r):SC Tryz.prog 100 [.agg (zc a)] [] (.msl 0 0 (length r)) [.many 1 (map zn r)]:=by
 refine ⟨⟨zg0 (sz:=1) (fun _=>y),t⟩,zai Tryz.func100 y kz y ?_⟩
 refine A ?_
 obtain ⟨c,b,h⟩:=bs h
 refine A ?_
 refine u<|apM (l:=[a.Super]) (f:=zn) 2 ti y ti y y (by decide) ti y y y y roI (fun _=>y) y b<|A ?_
 refine zK ?_
 obtain rfl:=sm h
 exact ⟨_,y,zzA [.old 2]⟩
def zbd(c:List za)(a:T2)(b:T0):Bool:=
  (Option.isSome (zeo b a))
theorem zkV(b:List za)(a:T2)(c:T0){r:Bool}(h:zbd b a c=r):zaj Tryz.prog 102 [.ipt 2 [[.isl 6 (map zc b),.imp (map (rKV (fun x=>iA x)) a)]] 0 0,sA c] (bA r):=by
 refine zj Tryz.func102 y kz y y ?_
 unfold zbd at h
 refine A ?_
 refine zh<|A ?_
 refine zhY y (fun hx=>by cases hx) (fun _=>?_)
 refine zf<|A ?_
 refine u<|zED (g:=(fun x=>iA x)) (z:=0) (l:=a) y ti y y y y<|A ?_
 refine A ?_
 refine zK ?_
 obtain rfl:=h
 exact ⟨_,y,zbG []⟩
instance (a:List za)(b:T2)(c:T0):PF Tryz.prog 102 [.ipt 2 [[.isl 6 (map zc a),.imp (map (rKV (fun x=>iA x)) b)]] 0 0,sA c] (some (zbd a b c)) bA:=.of fun _=>zkV a b c
def zlZ(a:T0)(b:List za)(c:T2):Bool:=
  (!(zbd b c a))
instance (a:T0)(b:List za)(c:T2):PF Tryz.prog 101 [sA a,.ipt 1 [[.ipt 2 [[.isl 6 (map zc b),.imp (map (rKV (fun x=>iA x)) c)]] 0 0]] 0 0] (some (zlZ a b c)) bA:=.of fun r h=>by
 refine zj Tryz.func101 y kz y y ?_
 unfold zlZ at h
 refine A ?_
 refine A ?_
 refine zK ?_
 obtain rfl:=h
 exact ⟨_,y,zbG []⟩
def zd9:Option (Int):=
  some (-1)
def za6(b:T1)(c:List za)(d:T2)(a:Int):Option (Sum (Int) (Sum (Unit) (Int))):=
  cond (decide (a<(length b:Int))) ((idx b a).bind fun e=>cond (zlZ e c d) (some (.inr (.inr a))) (some (.inl (IntKind.i64.wrap (a+1))))) (some (.inr (.inl ())))
def zcJ(a:T1)(c:List za)(d:T2):Option (Int):=
  (zm (fun z=>za6 a c d z) 0).bind fun o=>zI o (fun b=>zd9) some
instance (a:T1)(c:List za)(d:T2):PF Tryz.prog 181 [.isl 1 (map zn a),.fn (.func 101) [] [.ipt 1 [[.ipt 2 [[.isl 6 (map zc c),.imp (map (rKV (fun x=>iA x)) d)]] 0 0]] 0 0]] (zcJ a c d) iA:=⟨fun r h=>by
 refine zj Tryz.func181 y kz y y<|A ?_
 refine zh<|A ?_
 obtain ⟨o,ho,h⟩:=bs h
 refine lpB ho (fun z=>[(0,.isl 1 (map zn a)),(1,.fn (.func 101) [] [.ipt 1 [[.ipt 2 [[.isl 6 (map zc c),.imp (map (rKV (fun x=>iA x)) d)]] 0 0]] 0 0]),(7,iA (length a:Int)),(8,iA z)]) (fun z=>[]) (fun b=>[]) (fun b=>[]) (pG Tryz.f181 iA) (zcs []) ?_ ?_
 ·rintro i r h
  refine A ?_
  refine zh ?_
  refine zeh h y (fun e h=>?_) fun e h=>?_
  ·refine zf<|zh<|zp<|A ?_
   obtain ⟨j,l,h⟩:=bs h
   refine A ?_
   refine zeh h y (fun f h=>?_) fun f h=>?_
   ·refine A ?_
    refine zK ?_
    obtain rfl:=sm h
    exact ⟨_,y,_,y,zbG []⟩
   ·refine zf<|A ?_
    obtain rfl:=sm h
    exact ⟨_,y,zH []⟩
  ·refine zG ?_
   obtain rfl:=sm h
   exact ⟨y,_,y,zH []⟩
 ·rintro ⟨⟩ rfl
  refine zv<|A ?_
  exact RT0⟩
def zas(a:T1)(b:List za)(c:T2):Option (Bool):=
  (zcJ a b c).bind fun d=>some (decide (0≤d))
theorem zdt(a:T1)(b:List za)(c:T2){r:Bool}(h:zas a b c=some r):zaj Tryz.prog 99 [.isl 1 (map zn a),.fn (.func 101) [] [.ipt 1 [[.ipt 2 [[.isl 6 (map zc b),.imp (map (rKV (fun x=>iA x)) c)]] 0 0]] 0 0]] (bA r):=by
 refine zj Tryz.func99 y kz y y<|A ?_
 obtain ⟨d,e,h⟩:=bs h
 refine A ?_
 exact RT0
instance (a:T1)(b:List za)(c:T2):PF Tryz.prog 99 [.isl 1 (map zn a),.fn (.func 101) [] [.ipt 1 [[.ipt 2 [[.isl 6 (map zc b),.imp (map (rKV (fun x=>iA x)) c)]] 0 0]] 0 0]] (zas a b c) bA:=⟨fun _=>zdt a b c⟩
def zdk(a:List za)(b:T2)(c:T0):Option (za):=
  (idx a (Option.getD (zeo c b) 0)).bind fun d=>some d
instance (b:List za)(a:T2)(c:T0):PF Tryz.prog 182 [.ipt 2 [[.isl 6 (map zc b),.imp (map (rKV (fun x=>iA x)) a)]] 0 0,sA c] (zdk b a c) (fun r=>(.agg (zc r))):=⟨fun r h=>by
 refine zj Tryz.func182 y kz y y<|A ?_
 obtain ⟨d,e,h⟩:=bs h
 refine rdA [(4,_)] [some (6,[(zc d)])] [12] [0,1,2,3,4,5,6,7,8,9,10,11] [(16,_),(15,_),(14,_),(13,_),(12,_),(11,_),(10,_),(9,_),(8,_),(7,_),(6,_),(5,_)] 1 (zgE ⟨peC,peC,peC,peC,peC,peC,peC,peC,peC,(by exact pb y (zET (g:=(fun x=>iA x)) (z:=0) (l:=a) y ti y y y y<|w)),peC,peC,t⟩ (by exact ⟨(fun _ _=>⟨_,y,y,sto ti y y y<|⟨.any,[],[],y,y,y,t,zhx (z:=zcs [.old 0])⟩⟩),t⟩)) ?_
 exact RT0⟩
def ziu(a:T0)(b:List za)(c:T2):Option (Bool):=
  (zdk b c a).bind fun d=>some (!d.Interface)
instance (a:T0)(b:List za)(c:T2):PF Tryz.prog 183 [sA a,.ipt 1 [[.ipt 2 [[.isl 6 (map zc b),.imp (map (rKV (fun x=>iA x)) c)]] 0 0]] 0 0] (ziu a b c) bA:=⟨fun r h=>by
 refine zj Tryz.func183 y kz y y<|A ?_
 obtain ⟨d,e,h⟩:=bs h
 refine A ?_
 exact RT0⟩
def zea:Option (Int):=
  some (-1)
def za7(b:T1)(c:List za)(d:T2)(a:Int):Option (Sum (Int) (Sum (Unit) (Int))):=
  cond (decide (a<(length b:Int))) ((idx b a).bind fun e=>(ziu e c d).bind fun f=>cond f (some (.inr (.inr a))) (some (.inl (IntKind.i64.wrap (a+1))))) (some (.inr (.inl ())))
def zcK(a:T1)(c:List za)(d:T2):Option (Int):=
  (zm (fun z=>za7 a c d z) 0).bind fun o=>zI o (fun b=>zea) some
instance (a:T1)(c:List za)(d:T2):PF Tryz.prog 181 [.isl 1 (map zn a),.fn (.func 183) [] [.ipt 1 [[.ipt 2 [[.isl 6 (map zc c),.imp (map (rKV (fun x=>iA x)) d)]] 0 0]] 0 0]] (zcK a c d) iA:=⟨fun r h=>by
 refine zj Tryz.func181 y kz y y<|A ?_
 refine zh<|A ?_
 obtain ⟨o,ho,h⟩:=bs h
 refine lpB ho (fun z=>[(0,.isl 1 (map zn a)),(1,.fn (.func 183) [] [.ipt 1 [[.ipt 2 [[.isl 6 (map zc c),.imp (map (rKV (fun x=>iA x)) d)]] 0 0]] 0 0]),(7,iA (length a:Int)),(8,iA z)]) (fun z=>[]) (fun b=>[]) (fun b=>[]) (pG Tryz.f181 iA) (zcs []) ?_ ?_
 ·rintro i r h
  refine A ?_
  refine zh ?_
  refine zeh h y (fun e h=>?_) fun e h=>?_
  ·refine zf<|zh<|zp<|A ?_
   obtain ⟨j,l,m,n,h⟩:=bs2 h
   refine A ?_
   refine zeh h y (fun f h=>?_) fun f h=>?_
   ·refine A ?_
    refine zK ?_
    obtain rfl:=sm h
    exact ⟨_,y,_,y,zbG []⟩
   ·refine zf<|A ?_
    obtain rfl:=sm h
    exact ⟨_,y,zH []⟩
  ·refine zG ?_
   obtain rfl:=sm h
   exact ⟨y,_,y,zH []⟩
 ·rintro ⟨⟩ rfl
  refine zv<|A ?_
  exact RT0⟩
def zat(a:T1)(b:List za)(c:T2):Option (Bool):=
  (zcK a b c).bind fun d=>some (decide (0≤d))
theorem zdu(a:T1)(b:List za)(c:T2){r:Bool}(h:zat a b c=some r):zaj Tryz.prog 99 [.isl 1 (map zn a),.fn (.func 183) [] [.ipt 1 [[.ipt 2 [[.isl 6 (map zc b),.imp (map (rKV (fun x=>iA x)) c)]] 0 0]] 0 0]] (bA r):=by
 refine zj Tryz.func99 y kz y y<|A ?_
 obtain ⟨d,e,h⟩:=bs h
 refine A ?_
 exact RT0
instance (a:T1)(b:List za)(c:T2):PF Tryz.prog 99 [.isl 1 (map zn a),.fn (.func 183) [] [.ipt 1 [[.ipt 2 [[.isl 6 (map zc b),.imp (map (rKV (fun x=>iA x)) c)]] 0 0]] 0 0]] (zat a b c) bA:=⟨fun _=>zdu a b c⟩
def znC:Option (Bool):=
  some true
def zjS(a:Int)(b:T1):Option (Sum (T1×Int) (Sum (Unit) (Bool))):=
  some (.inl (b,(IntKind.i64.wrap (a+1))))
def zgt(a:Int)(b:T1):Option (Sum (T1×Int) (Sum (T1) (Bool))):=
  some (.inl (b,(IntKind.i64.wrap (a+1))))
def zee(d:T1)(a:T1)(b:Int):Option (Sum (T1×Int) (Sum (T1) (Bool))):=
  cond (decide (b<((length d):Int))) ((idx d b).bind fun c=>(cond (!(c == [])) ((zx a c).bind fun e=>some (!e)) (some false)).bind fun f=>cond f ((zgT 16 a [c]).bind fun i=>zgt b i) (zgt b a)) (some (.inr (.inl a)))
def zc4(j:List za)(l:T2)(m:za)(a:T1)(c:Int):Option (Sum (T1×Int) (Sum (Unit) (Bool))):=
  cond (decide (c<((length a):Int))) ((idx a c).bind fun d=>cond (d == m.Name) (some (.inr (.inr false))) ((idx a c).bind fun e=>(zdk j l e).bind fun f=>(ziR f).bind fun i=>(zm (fun z=>zee i z.1 z.2) (a,0)).bind fun o=>zI o (fun b=>zjS c b) (fun r=>some (.inr (.inr r))))) (some (.inr (.inl ())))
def zfO(c:List za)(d:T2)(a:za):Option (Bool):=
  (zdk c d a.Super).bind fun e=>(cond e.Interface (some true) ((zat a.Impl c d).bind fun f=>some f)).bind fun i=>cond i (some false) ((ziR a).bind fun j=>(zm (fun z=>zc4 c d a z.1 z.2) (j,0)).bind fun o=>zI o (fun b=>znC) some)
theorem zjT(e:List za)(i:T2)(c:za){r:Bool}(h:zfO e i c=some r):zaj Tryz.prog 103 [.ipt 2 [[.isl 6 (map zc e),.imp (map (rKV (fun x=>iA x)) i)]] 0 0,.agg (zc c)] (bA r):=by
 refine zj Tryz.func103 y kz y y<|A ?_
 refine zh ?_
 obtain ⟨v4,q1,O,n,h⟩:=bs2 h
 refine A ?_
 refine zwC (x:=O) (j:=5) 4 y y y y y gpn (fun m=>by replace n:=bF m n;obtain ⟨v5,P,n⟩:=bs n;obtain rfl:=sm n;exact g y m<|fa ti y y y<|g y m<|ld ti y y<|g y m<|mf y y<|g y m<|pcs (zdu c.Impl e i P) y y (.cons (si y) (.cons (zfx t ⟨(zbY y ⟨(si y),t⟩),t⟩) .nil)) zbQ<|zJ (eg [15,16,17,18] 4 y y y y)) (fun hb=>(sm (bT hb n)).symm)<|zJ ?_
 refine zeh h y (fun G h=>?_) fun G h=>?_
 ·refine A ?_
  exact RT0
 ·refine zf ?_
  obtain ⟨H,Q,h⟩:=bs h
  refine A ?_
  refine u<|sx [] (zkr c Q)<|zL (env0:=[(2,.mpt 0 0 0),(3,.mpt 1 0 0),(21,.msl 2 0 (length H))]) (st0:=[some (1,[[.ipt 2 [[.isl 6 (map zc e),.imp (map (rKV (fun x=>iA x)) i)]] 0 0]]),some (6,[(zc c)]),some (1,map zn H)]) (zH [.old 0,.old 1,.old 2])<|A ?_
  refine zh<|A ?_
  obtain ⟨o,ho,h⟩:=bs h
  refine lpB ho (fun z=>[(2,.mpt 0 0 0),(3,.mpt 1 0 0),(5,.msl 2 0 (length z.1)),(6,iA z.2)]) (fun z=>[some (1,[[.ipt 2 [[.isl 6 (map zc e),.imp (map (rKV (fun x=>iA x)) i)]] 0 0]]),some (6,[(zc c)]),some (1,map zn z.1)]) (fun b=>[]) (fun b=>[]) (pG Tryz.f103 bA) (zcs [.old 0,.old 1,.old 2]) ?_ ?_
  ·rintro ⟨q,p⟩ r h
   refine zh<|A ?_
   refine zeh h y (fun C h=>?_) fun C h=>?_
   ·refine zf<|zh<|zp<|zh ?_
    obtain ⟨R,S,h⟩:=bs h
    refine rdA [(2,_),(3,_),(5,_),(6,_),(34,_)] [some (1,[[.ipt 2 [[.isl 6 (map zc e),.imp (map (rKV (fun x=>iA x)) i)]] 0 0]]),some (6,[(zc c)]),some (1,map zn q)] [] [0,1,2,3,4,5,6] [(34,_),(33,_),(32,_),(31,_),(30,_),(29,_),(28,_)] 0 (zhx (z:=zcs [.old 0,.old 1,.old 2])) ?_
    refine zeh h y (fun D h=>?_) fun D h=>?_
    ·refine A ?_
     refine zK ?_
     obtain rfl:=sm h
     exact ⟨_,y,_,y,zbG []⟩
    ·refine zf ?_
     obtain ⟨T,U,I,V,a,J,h⟩:=bs3 h
     refine rdA [(2,_),(3,_),(5,_),(6,_),(41,_),(42,_),(43,_)] [some (1,[[.ipt 2 [[.isl 6 (map zc e),.imp (map (rKV (fun x=>iA x)) i)]] 0 0]]),some (6,[(zc c)]),some (1,map zn q),some (1,map zn a)] [6] [0,1,2,3,4,5,8] [(43,_),(40,_),(39,_),(38,_),(37,_),(36,_),(35,_)] 1 (zgE (z:=by exact ⟨(fun _ _=>⟨_,y,y,sx [] (zkr I J)<|⟨(.msl 3 0 (length a)),[7],[(42,_),(41,_)],y,y,y,y,zhx (z:=zcs [.old 0,.old 1,.old 2,.old 3])⟩⟩),t⟩)) ?_
     obtain ⟨o,ho,h⟩:=bs h
     refine lpS ho (fun z=>[(2,.mpt 0 0 0),(3,.mpt 1 0 0),(5,.msl 2 0 (length z.1)),(6,iA p),(41,.msl 3 0 (length a)),(42,iA ((length a):Int)),(43,iA z.2)]) (fun z=>[some (1,[[.ipt 2 [[.isl 6 (map zc e),.imp (map (rKV (fun x=>iA x)) i)]] 0 0]]),some (6,[(zc c)]),some (1,map zn z.1),some (1,map zn a)]) (fun b=>[(2,.mpt 0 0 0),(3,.mpt 1 0 0),(5,.msl 2 0 (length b)),(6,iA p)]) (fun b=>[some (1,[[.ipt 2 [[.isl 6 (map zc e),.imp (map (rKV (fun x=>iA x)) i)]] 0 0]]),some (6,[(zc c)]),some (1,map zn b)]) (pG Tryz.f103 bA) (zcs [.old 0,.old 1,.old 2,.old 3]) ?_ ?_ ?_
     ·rintro ⟨s,v⟩ r h
      refine A ?_
      refine zh ?_
      refine zeh h y (fun E h=>?_) fun E h=>?_
      ·refine zf ?_
       refine zcX (X:=T1) (fun z=>[(2,.mpt 0 0 0),(3,.mpt 1 0 0),(5,.msl 2 0 (length z)),(6,iA p),(41,.msl 3 0 (length a)),(42,iA ((length a):Int)),(43,iA v)]) (fun z=>[some (1,[[.ipt 2 [[.isl 6 (map zc e),.imp (map (rKV (fun x=>iA x)) i)]] 0 0]]),some (6,[(zc c)]),some (1,map zn z),some (1,map zn a)]) (fun z=>zgt v z=some r) ?_ ?_
       ·refine zp ?_
        obtain ⟨B,W,h⟩:=bs h
        refine A ?_
        obtain ⟨K,l,h⟩:=bs h
        refine A ?_
        refine zik (x:=K) (j:=2) 4 y y y y y gpn (fun d=>by replace l:=bT d l;obtain ⟨Y,L,l⟩:=bs l;obtain rfl:=sm l;exact g y d<|mv y<|g y d<|mv y<|g y d<|pcs (zW s B L) y y (.cons (zgN y (fun _=>y)) (.cons (si y) .nil)) zbQ<|g y d<|nt y<|zJ (eg [50,51,52,53] 4 y y y y)) (fun hb=>(sm (bF hb l)).symm)<|zJ ?_
        refine zeh h y (fun F h=>?_) fun F h=>?_
        ·obtain ⟨M,N,h⟩:=bs h
         refine A ?_
         refine u<|apM 5 ti y ti y y (by decide) ti y y y y (roX (f:=zn) (z:=[B]) y y) (fun _=>y) y N<|A ?_
         exact (⟨M,h,zH [.old 0,.old 1,.old 5,.old 3]⟩)
        ·refine zf ?_
         exact ⟨s,h,zH [.old 0,.old 1,.old 2,.old 3]⟩
       ·rintro Z h
        refine A ?_
        obtain rfl:=sm h
        exact ⟨_,y,zH [.old 0,.old 1,.old 2,.old 3]⟩
      ·refine zG ?_
       obtain rfl:=sm h
       exact ⟨y,_,y,zH [.old 0,.old 1,.old 2]⟩
     ·rintro v49 rfl
      refine zv<|A ?_
      obtain rfl:=sm h
      exact ⟨_,y,zH [.old 0,.old 1,.old 2]⟩
     ·rintro r' rfl env st hp
      obtain rfl:=sm h
      exact ⟨_,y,hp⟩
   ·refine zG ?_
    obtain rfl:=sm h
    exact ⟨y,_,y,zH []⟩
  ·rintro ⟨⟩ rfl
   refine zv<|A ?_
   exact RT0
instance (a:List za)(b:T2)(c:za):PF Tryz.prog 103 [.ipt 2 [[.isl 6 (map zc a),.imp (map (rKV (fun x=>iA x)) b)]] 0 0,.agg (zc c)] (zfO a b c) bA:=⟨fun _=>zjT a b c⟩
def ztS(a:List za)(b:T2):Option ((Option zr)×Int):=
  some ((some (zr.mk a b)),0)
def zhH(b:List za)(c:List za)(d:T2)(a:Int):Option (Sum (Int) (Sum (Unit) ((Option zr)×Int))):=
  cond (decide (a<(length b:Int))) ((idx b a).bind fun e=>(zfO c d e).bind fun f=>cond (!f) (some (.inr (.inr (none,1)))) (some (.inl (IntKind.i64.wrap (a+1))))) (some (.inr (.inl ())))
def zpu(d:List za)(a:List za)(c:T2):Option ((Option zr)×Int):=
  (zm (fun z=>zhH d a c z) 0).bind fun o=>zI o (fun b=>ztS a c) some
def zhG(b:List za)(c:List za)(d:T2)(a:Int):Option (Sum (Int) (Sum (Unit) ((Option zr)×Int))):=
  cond (decide (a<(length b:Int))) ((idx b a).bind fun e=>(ziR e).bind fun f=>(zas f c d).bind fun i=>cond i (some (.inr (.inr (none,4)))) (some (.inl (IntKind.i64.wrap (a+1))))) (some (.inr (.inl ())))
def zpt(d:List za)(a:List za)(c:T2):Option ((Option zr)×Int):=
  (zm (fun z=>zhG d a c z) 0).bind fun o=>zI o (fun b=>zpu d a c) some
def zen(e:List za)(b:List za)(c:T2)(d:Int):Option (Sum ((List za)×T2×Int) (Sum ((List za)×T2) ((Option zr)×Int))):=
  cond (decide (d<(length e:Int))) ((idx e d).bind fun a=>(cond (Option.isSome (zeo a.Name c)) (some true) ((znu a).bind fun f=>some (!f))).bind fun i=>cond i (some (.inr (.inr (none,1)))) ((zgT 112 b [a]).bind fun j=>some (.inl (j,(zgS a.Name ((length b):Int) c),(IntKind.i64.wrap (d+1)))))) (some (.inr (.inl (b,c))))
def zps(a:List za)(c:(List za))(d:T2):Option ((Option zr)×Int):=
  (zm (fun z=>zen a z.1 z.2.1 z.2.2) (c,d,0)).bind fun o=>zI o (fun b=>zpt a b.1 b.2) some
def zpv(b:(List za))(c:T2)(a:Int):Option (Sum (T2×Int) (Sum (T2) ((Option zr)×Int))):=
  cond (decide (a<((length b):Int))) ((idx b a).bind fun d=>some (.inl ((zgS d.Name a c),(IntKind.i64.wrap (a+1))))) (some (.inr (.inl c)))
def zkp(a:List za):Option ((Option zr)×Int):=
  cond (decide (16<(length a:Int))) (some (none,3)) ((zod).bind fun c=>(zm (fun z=>zpv c z.1 z.2) ([],0)).bind fun o=>zI o (fun b=>zps a c b) some)
theorem zmX(c:List za){r:(Option zr)×Int}(h:zkp c=some r):zaj Tryz.prog 22 [.isl 6 (map zc c)] (.tup [zkD 2 zaZ r.1,iA r.2]):=by
 refine zj Tryz.func22 y kz y (zBg (zwX (zp6 (fun _=>y)) (y))) ?_
 refine A ?_
 refine zh<|A ?_
 refine zeh h y (fun H h=>?_) fun H h=>?_
 ·refine A ?_
  exact RT0
 ·refine zf ?_
  obtain ⟨j,T,h⟩:=bs h
  refine rg y<|u<|sx [] (zrx T)<|zL (env0:=[(0,.isl 6 (map zc c)),(18,.msl 0 0 (length j))]) (st0:=[some (6,map zc j)]) (zH [.old 0])<|u<|mmk (e:=3) 1 y y<|A ?_
  refine zh<|A ?_
  obtain ⟨o,ho,h⟩:=bs h
  refine lpB ho (fun z=>[(0,.isl 6 (map zc c)),(4,.mpt 0 0 0),(25,.msl 2 0 (length j)),(26,iA ((length j):Int)),(27,iA z.2)]) (fun z=>[some (1,[[.mpt 1 0 0]]),some (2,[[.msl 2 0 (length j),.mmp 3]]),some (6,map zc j),some (2,map (rKV (fun x=>iA x)) z.1)]) (fun b=>[(0,.isl 6 (map zc c)),(4,.mpt 0 0 0)]) (fun b=>[some (1,[[.mpt 1 0 0]]),some (2,[[.msl 2 0 (length j),.mmp 3]]),some (6,map zc j),some (2,map (rKV (fun x=>iA x)) b)]) (pG Tryz.f22 (fun r=>.tup [zkD 2 zaZ r.1,iA r.2])) (zcs [.old 3,.old 2,.old 0,.old 1]) ?_ ?_
  ·rintro ⟨I,J⟩ r h
   refine A ?_
   refine zh ?_
   refine zeh h y (fun K h=>?_) fun K h=>?_
   ·refine zf<|zh<|zp ?_
    obtain ⟨L,q6,h⟩:=bs h
    refine A ?_
    refine zqW [(0,_),(4,_),(25,_),(26,_),(27,_)] [some (1,[[.mpt 1 0 0]]),some (2,[[.msl 2 0 (length j),.mmp 3]]),some (6,map zc j),some (2,map (rKV (fun x=>iA x)) (zgS L.Name J I))] [7] [0,1,2,3,4,5,6] [(38,_),(37,_),(36,_),(35,_),(34,_),(33,_),(32,_)] 1 (zgE (z:=by exact ⟨(fun _ _=>⟨_,y,y,mup (v:=J) (g:=(fun x=>iA x)) (l:=I) (s:=L.Name) y y y y y y<|⟨.any,[],[],y,y,y,t,zhx (z:=zcs [.old 0,.old 1,.old 2,.old 3])⟩⟩),t⟩)) ?_
    refine A ?_
    obtain rfl:=sm h
    exact ⟨_,y,zH [.old 0,.old 1,.old 2,.old 3]⟩
   ·refine zG ?_
    obtain rfl:=sm h
    exact ⟨y,_,y,zH [.old 0,.old 1,.old 2,.old 3]⟩
  ·rintro v9 rfl
   refine zv<|zh<|A ?_
   obtain ⟨o,ho,h⟩:=bs h
   refine lpB ho (fun z=>[(0,.isl 6 (map zc c)),(4,.mpt 0 0 0),(40,.isl 6 (map zc c)),(41,iA (length c:Int)),(42,iA z.2.2)]) (fun z=>[some (1,[[.mpt 1 0 0]]),some (2,[[.msl 2 0 (length z.1),.mmp 3]]),some (6,map zc z.1),some (2,map (rKV (fun x=>iA x)) z.2.1)]) (fun b=>[(0,.isl 6 (map zc c)),(4,.mpt 0 0 0)]) (fun b=>[some (1,[[.mpt 1 0 0]]),some (2,[[.msl 2 0 (length b.1),.mmp 3]]),some (6,map zc b.1),some (2,map (rKV (fun x=>iA x)) b.2)]) (pG Tryz.f22 (fun r=>.tup [zkD 2 zaZ r.1,iA r.2])) (zcs [.old 0,.old 1,.old 2,.old 3]) ?_ ?_
   ·rintro ⟨d,n,U⟩ r h
    refine A ?_
    refine zh ?_
    refine zeh h y (fun B h=>?_) fun B h=>?_
    ·refine zf<|zh<|zp ?_
     obtain ⟨m,V,h⟩:=bs h
     refine A ?_
     refine zh ?_
     refine rdA [(0,_),(4,_),(8,_),(10,_),(40,_),(41,_),(42,_)] [some (1,[[.mpt 1 0 0]]),some (2,[[.msl 2 0 (length d),.mmp 3]]),some (6,map zc d),some (2,map (rKV (fun x=>iA x)) n),some (6,[(zc m)])] [] [0,1,2,3,4,5,6,7,8,9,10,11] [(10,_),(9,_),(55,_),(54,_),(46,_),(53,_),(52,_),(51,_),(50,_),(49,_),(48,_),(47,_)] 0 (zhx ⟨peC,peC,peC,peC,peC,peC,(by exact pb y (zED (g:=(fun x=>iA x)) (z:=0) (l:=n) y ti y y y y<|w)),peC,peC,peC,peC,peC,t⟩ (zcs [.old 0,.old 1,.old 2,.old 3,.old 4])) ?_
     obtain ⟨W,X,h⟩:=bs h
     refine A ?_
     refine zeh h y (fun C h=>?_) fun C h=>?_
     ·refine A ?_
      refine zK ?_
      obtain rfl:=sm h
      exact ⟨_,y,_,y,zbG []⟩
     ·refine zf ?_
      refine rdA [(0,_),(4,_),(8,_),(40,_),(41,_),(42,_)] [some (1,[[.mpt 1 0 0]]),some (2,[[.msl 2 0 (length d),.mmp 3]]),some (6,map zc d),some (2,map (rKV (fun x=>iA x)) (zgS m.Name ((length d):Int) n)),some (6,[(zc m)])] [11] [0,1,2,3,4,5,6,7,8,9,10] [(72,_),(71,_),(70,_),(69,_),(68,_),(67,_),(66,_),(65,_),(64,_),(63,_),(62,_)] 1 (zgE (z:=by exact ⟨(fun _ _=>⟨_,y,y,mup (v:=((length d):Int)) (g:=(fun x=>iA x)) (l:=n) (s:=m.Name) y y y y y y<|⟨.any,[],[],y,y,y,t,zhx (z:=zcs [.old 0,.old 1,.old 2,.old 3,.old 4])⟩⟩),t⟩)) ?_
      obtain ⟨p,M,h⟩:=bs h
      refine zqW [(0,_),(4,_),(40,_),(41,_),(42,_)] [some (1,[[.mpt 1 0 0]]),some (2,[[.msl 2 0 (length p),.mmp 3]]),some (6,map zc p),some (2,map (rKV (fun x=>iA x)) (zgS m.Name ((length d):Int) n))] [6,7,10] [0,1,2,3,4,5] [(78,_),(77,_),(76,_),(75,_),(74,_),(73,_)] 3 (zgE (z:=by exact ⟨(fun _ _=>⟨_,y,y,bl 5 ti y ti y (by decide) (by decide) y y y<|⟨(.msl 5 0 1),[],[(79,_)],y,y,y,y,zgE (z:=by exact ⟨nv,(fun _ _=>⟨_,y,y,apM 6 ti y ti y y (by decide) ti y y y y (roX (f:=zc) (z:=[m]) y y) (fun _=>y) y M<|⟨(.msl 6 0 (length p)),[8,9],[(82,_),(81,_),(80,_)],y,y,y,y,zgE (z:=by exact ⟨nv,nv,(fun _ _=>⟨_,y,y,sto ti y y y<|⟨.any,[],[],y,y,y,t,zhx (z:=zcs [.old 0,.old 1,.old 6,.old 3])⟩⟩),t⟩)⟩⟩),nw,t⟩)⟩⟩),nw,nw,t⟩)) ?_
      refine A ?_
      obtain rfl:=sm h
      exact ⟨_,y,zH [.old 0,.old 1,.old 2,.old 3]⟩
    ·refine zG ?_
     obtain rfl:=sm h
     exact ⟨y,_,y,zH [.old 0,.old 1,.old 2,.old 3]⟩
   ·rintro ⟨a,i⟩ rfl
    refine zv<|zh<|A ?_
    obtain ⟨o,ho,h⟩:=bs h
    refine lpB ho (fun z=>[(0,.isl 6 (map zc c)),(4,.mpt 0 0 0),(84,.isl 6 (map zc c)),(85,iA (length c:Int)),(86,iA z)]) (fun z=>[some (1,[[.mpt 1 0 0]]),some (2,[[.msl 2 0 (length a),.mmp 3]]),some (6,map zc a),some (2,map (rKV (fun x=>iA x)) i)]) (fun b=>[(0,.isl 6 (map zc c)),(4,.mpt 0 0 0)]) (fun b=>[some (1,[[.mpt 1 0 0]]),some (2,[[.msl 2 0 (length a),.mmp 3]]),some (6,map zc a),some (2,map (rKV (fun x=>iA x)) i)]) (pG Tryz.f22 (fun r=>.tup [zkD 2 zaZ r.1,iA r.2])) (zcs [.old 0,.old 1,.old 2,.old 3]) ?_ ?_
    ·rintro N r h
     refine A ?_
     refine zh ?_
     refine zeh h y (fun D h=>?_) fun D h=>?_
     ·refine zf<|zh<|zp ?_
      obtain ⟨O,Y,h⟩:=bs h
      refine A ?_
      obtain ⟨q,P,Z,Q,h⟩:=bs2 h
      refine rg y<|u<|ld ti y y<|u<|sx [] (zkr O P)<|zL (env0:=[(0,.isl 6 (map zc c)),(4,.mpt 0 0 0),(84,.isl 6 (map zc c)),(85,iA (length c:Int)),(86,iA N),(91,.msl 4 0 (length q))]) (st0:=[some (1,[[.mpt 1 0 0]]),some (2,[[.msl 2 0 (length a),.mmp 3]]),some (6,map zc a),some (2,map (rKV (fun x=>iA x)) i),some (1,map zn q)]) (zH [.old 0,.old 1,.old 2,.old 3,.old 5])<|u<|mf y y<|u<|pcs (zdt q a i Q) y y (.cons (zgN y (fun _=>y)) (.cons (zfx t ⟨(zbY y ⟨(zbY y ⟨(zgN y (fun _=>y)),(zyT y (fun _=>y)),t⟩),t⟩),t⟩) .nil)) zbQ<|zJ ?_
      refine zeh h y (fun E h=>?_) fun E h=>?_
      ·refine A ?_
       refine zK ?_
       obtain rfl:=sm h
       exact ⟨_,y,_,y,zbG []⟩
      ·refine zf<|A ?_
       obtain rfl:=sm h
       exact ⟨_,y,zH [.old 0,.old 1,.old 2,.old 3]⟩
     ·refine zG ?_
      obtain rfl:=sm h
      exact ⟨y,_,y,zH [.old 0,.old 1,.old 2,.old 3]⟩
    ·rintro ⟨⟩ rfl
     refine zv<|zh<|A ?_
     obtain ⟨o,ho,h⟩:=bs h
     refine lpB ho (fun z=>[(4,.mpt 0 0 0),(95,.isl 6 (map zc c)),(96,iA (length c:Int)),(97,iA z)]) (fun z=>[some (1,[[.mpt 1 0 0]]),some (2,[[.msl 2 0 (length a),.mmp 3]]),some (6,map zc a),some (2,map (rKV (fun x=>iA x)) i)]) (fun b=>[(4,.mpt 0 0 0)]) (fun b=>[some (1,[[.mpt 1 0 0]]),some (2,[[.msl 2 0 (length a),.mmp 3]]),some (6,map zc a),some (2,map (rKV (fun x=>iA x)) i)]) (pG Tryz.f22 (fun r=>.tup [zkD 2 zaZ r.1,iA r.2])) (zcs [.old 0,.old 1,.old 2,.old 3]) ?_ ?_
     ·rintro v37 r h
      refine A ?_
      refine zh ?_
      refine zeh h y (fun F h=>?_) fun F h=>?_
      ·refine zf<|zh<|zp ?_
       obtain ⟨R,q36,h⟩:=bs h
       refine A ?_
       obtain ⟨v39,S,h⟩:=bs h
       refine A ?_
       refine u<|pcs (zjT a i R S) y y (.cons (zbY y ⟨(zgN y (fun _=>y)),(zyT y (fun _=>y)),t⟩) (.cons (si y) .nil)) zbQ<|A ?_
       refine zeh h y (fun G h=>?_) fun G h=>?_
       ·refine A ?_
        refine zK ?_
        obtain rfl:=sm h
        exact ⟨_,y,_,y,zbG []⟩
       ·refine zf<|A ?_
        obtain rfl:=sm h
        exact ⟨_,y,zH [.old 0,.old 1,.old 2,.old 3]⟩
      ·refine zG ?_
       obtain rfl:=sm h
       exact ⟨y,_,y,zH [.old 0,.old 1,.old 2,.old 3]⟩
     ·rintro ⟨⟩ rfl
      refine zv<|A ?_
      refine zK ?_
      obtain rfl:=sm h
      exact ⟨_,y,[],znk ⟨(rsP y y ⟨(zhD y y (fun _=>y)),(zyP y y (fun _=>y)),t⟩ y),(ci y),t⟩,y,t,y,k⟩
instance (a:List za):PF Tryz.prog 22 [.isl 6 (map zc a)] (zkp a) (fun r=>(.tup [zkD 2 zaZ r.1,iA r.2])):=⟨fun _=>zmX a⟩
def ztu(x:zi):Prop:=(wS) x.Name∧(wS) x.Type_∧(wT) x.Static
theorem zwf{n:Nat}{avs:List AV}(h:zn2 Tryz.prog (n+2) 42 avs):∃x:zi,avs=zD x∧ztu x:=by
 obtain ⟨parts,rfl,hl,hg⟩:=gdF Tryz.underlying42 h
 match parts,hl with
 | [p0,p1,p2],_ =>
  obtain ⟨x0,rfl,w0⟩:=gdS Tryz.underlying9 (hg 0 _ p0 rfl rfl)
  obtain ⟨x1,rfl,w1⟩:=gdS Tryz.underlying9 (hg 1 _ p1 rfl rfl)
  obtain ⟨x2,rfl,w2⟩:=gdB Tryz.underlying4 (hg 2 _ p2 rfl rfl)
  exact ⟨⟨x0,x1,x2⟩,rfl,w0,w1,w2⟩
def zzp(x:zl):Prop:=(wI .i64) x.Op∧(wI .i64) x.A∧(wS) x.C∧(wS) x.M
theorem zz4{n:Nat}{avs:List AV}(h:zn2 Tryz.prog (n+2) 40 avs):∃x:zl,avs=zA x∧zzp x:=by
 obtain ⟨parts,rfl,hl,hg⟩:=gdF Tryz.underlying40 h
 match parts,hl with
 | [p0,p1,p2,p3],_ =>
  obtain ⟨x0,rfl,w0⟩:=gdI Tryz.underlying3 (hg 0 _ p0 rfl rfl)
  obtain ⟨x1,rfl,w1⟩:=gdI Tryz.underlying3 (hg 1 _ p1 rfl rfl)
  obtain ⟨x2,rfl,w2⟩:=gdS Tryz.underlying9 (hg 2 _ p2 rfl rfl)
  obtain ⟨x3,rfl,w3⟩:=gdS Tryz.underlying9 (hg 3 _ p3 rfl rfl)
  exact ⟨⟨x0,x1,x2,x3⟩,rfl,w0,w1,w2,w3⟩
def zzq(x:zT):Prop:=(wI .i64) x.At∧(wL (wS)) x.Locals∧(wL (wS)) x.Stack
theorem zz5{n:Nat}{avs:List AV}(h:zn2 Tryz.prog (n+3) 80 avs):∃x:zT,avs=z7 x∧zzq x:=by
 obtain ⟨parts,rfl,hl,hg⟩:=gdF Tryz.underlying80 h
 match parts,hl with
 | [p0,p1,p2],_ =>
  obtain ⟨x0,rfl,w0⟩:=gdI Tryz.underlying3 (hg 0 _ p0 rfl rfl)
  obtain ⟨x1,rfl,w1⟩:=gdL (k:=1) Tryz.underlying22 (by kernel_rfl) (fun h=>gdS Tryz.underlying9 h) (hg 1 _ p1 rfl rfl)
  obtain ⟨x2,rfl,w2⟩:=gdL (k:=1) Tryz.underlying22 (by kernel_rfl) (fun h=>gdS Tryz.underlying9 h) (hg 2 _ p2 rfl rfl)
  exact ⟨⟨x0,x1,x2⟩,rfl,w0,w1,w2⟩
def zvM(x:zN):Prop:=(wI .i64) x.From∧(wI .i64) x.To∧(wI .i64) x.At∧(wS) x.C
theorem zxP{n:Nat}{avs:List AV}(h:zn2 Tryz.prog (n+2) 88 avs):∃x:zN,avs=zaa x∧zvM x:=by
 obtain ⟨parts,rfl,hl,hg⟩:=gdF Tryz.underlying88 h
 match parts,hl with
 | [p0,p1,p2,p3],_ =>
  obtain ⟨x0,rfl,w0⟩:=gdI Tryz.underlying3 (hg 0 _ p0 rfl rfl)
  obtain ⟨x1,rfl,w1⟩:=gdI Tryz.underlying3 (hg 1 _ p1 rfl rfl)
  obtain ⟨x2,rfl,w2⟩:=gdI Tryz.underlying3 (hg 2 _ p2 rfl rfl)
  obtain ⟨x3,rfl,w3⟩:=gdS Tryz.underlying9 (hg 3 _ p3 rfl rfl)
  exact ⟨⟨x0,x1,x2,x3⟩,rfl,w0,w1,w2,w3⟩
def zos(x:zb):Prop:=(wS) x.Name∧(wL (wS)) x.Params∧(wS) x.Ret∧(wT) x.Static∧(wT) x.Abstract∧(wI .i64) x.Locals∧(wI .i64) x.Stack∧(wL (zzp)) x.Code∧(wL (zzq)) x.Maps∧(wL (zvM)) x.Traps
theorem ztQ{n:Nat}{avs:List AV}(h:zn2 Tryz.prog (n+5) 38 avs):∃x:zb,avs=zd x∧zos x:=by
 obtain ⟨parts,rfl,hl,hg⟩:=gdF Tryz.underlying38 h
 match parts,hl with
 | [p0,p1,p2,p3,p4,p5,p6,p7,p8,p9],_ =>
  obtain ⟨x0,rfl,w0⟩:=gdS Tryz.underlying9 (hg 0 _ p0 rfl rfl)
  obtain ⟨x1,rfl,w1⟩:=gdL (k:=1) Tryz.underlying22 (by kernel_rfl) (fun h=>gdS Tryz.underlying9 h) (hg 1 _ p1 rfl rfl)
  obtain ⟨x2,rfl,w2⟩:=gdS Tryz.underlying9 (hg 2 _ p2 rfl rfl)
  obtain ⟨x3,rfl,w3⟩:=gdB Tryz.underlying4 (hg 3 _ p3 rfl rfl)
  obtain ⟨x4,rfl,w4⟩:=gdB Tryz.underlying4 (hg 4 _ p4 rfl rfl)
  obtain ⟨x5,rfl,w5⟩:=gdI Tryz.underlying3 (hg 5 _ p5 rfl rfl)
  obtain ⟨x6,rfl,w6⟩:=gdI Tryz.underlying3 (hg 6 _ p6 rfl rfl)
  obtain ⟨x7,rfl,w7⟩:=gdL (k:=4) Tryz.underlying34 (by kernel_rfl) (fun h=>zz4 h) (hg 7 _ p7 rfl rfl)
  obtain ⟨x8,rfl,w8⟩:=gdL (k:=3) Tryz.underlying35 (by kernel_rfl) (fun h=>zz5 h) (hg 8 _ p8 rfl rfl)
  obtain ⟨x9,rfl,w9⟩:=gdL (k:=4) Tryz.underlying36 (by kernel_rfl) (fun h=>zxP h) (hg 9 _ p9 rfl rfl)
  exact ⟨⟨x0,x1,x2,x3,x4,x5,x6,x7,x8,x9⟩,rfl,w0,w1,w2,w3,w4,w5,w6,w7,w8,w9⟩
def zkb(x:za):Prop:=(wS) x.Name∧(wS) x.Super∧(wT) x.Interface∧(wL (wS)) x.Impl∧(wL (ztu)) x.Fields∧(wL (zos)) x.Methods
theorem zwd{n:Nat}{avs:List AV}(h:zn2 Tryz.prog (n+7) 26 avs):∃x:za,avs=zc x∧zkb x:=by
 obtain ⟨parts,rfl,hl,hg⟩:=gdF Tryz.underlying26 h
 match parts,hl with
 | [p0,p1,p2,p3,p4,p5],_ =>
  obtain ⟨x0,rfl,w0⟩:=gdS Tryz.underlying9 (hg 0 _ p0 rfl rfl)
  obtain ⟨x1,rfl,w1⟩:=gdS Tryz.underlying9 (hg 1 _ p1 rfl rfl)
  obtain ⟨x2,rfl,w2⟩:=gdB Tryz.underlying4 (hg 2 _ p2 rfl rfl)
  obtain ⟨x3,rfl,w3⟩:=gdL (k:=1) Tryz.underlying22 (by kernel_rfl) (fun h=>gdS Tryz.underlying9 h) (hg 3 _ p3 rfl rfl)
  obtain ⟨x4,rfl,w4⟩:=gdL (k:=3) Tryz.underlying23 (by kernel_rfl) (fun h=>zwf h) (hg 4 _ p4 rfl rfl)
  obtain ⟨x5,rfl,w5⟩:=gdL (k:=10) Tryz.underlying24 (by kernel_rfl) (fun h=>ztQ h) (hg 5 _ p5 rfl rfl)
  exact ⟨⟨x0,x1,x2,x3,x4,x5⟩,rfl,w0,w1,w2,w3,w4,w5⟩
structure zbl where
  L:List za
def zlH:Option (Int):=
  some (-1)
def zhq(b:List za)(c:T0)(a:Int):Option (Sum (Int) (Sum (Unit) (Int))):=
  cond (decide (a<(length b:Int))) ((idx b a).bind fun d=>cond (d.Name == c) (some (.inr (.inr a))) (some (.inl (IntKind.i64.wrap (a+1))))) (some (.inr (.inl ())))
def zbM(a:List za)(c:T0):Option (Int):=
  (zm (fun z=>zhq a c z) 0).bind fun o=>zI o (fun b=>zlH) some
structure zaM where
  C:T0
  M:T0
def zfK(x:zaM):List AV:=[sA x.C,sA x.M]
def vK(h0:List za)(h1:T2)(c:T0)(m:zb)(x0:AV)(x1:AV)(x2:AV):List AV:=[.ipt 2 [[.isl 6 (map zc h0),.imp (map (rKV (fun x=>iA x)) h1)]] 0 0,sA c,sA m.Name,.isl 1 (map zn m.Params),sA m.Ret,bA m.Static,bA m.Abstract,iA m.Locals,iA m.Stack,.isl 4 (map zA m.Code),.isl 3 (map z7 m.Maps),.isl 4 (map zaa m.Traps),x0,x1,x2]
abbrev sV(h0:List za)(h1:T2)(c:T0)(m:zb)(x y:T1)(b:Bool)(t:St):St:=some (15,[vK h0 h1 c m (.msl 1 0 x.length) (.msl 2 0 y.length) (bA b)])::some (1,x.map zn)::some (1,y.map zn)::t
abbrev sU(h0:List za)(h1:T2)(c:T0)(m:zb)(x y:T1)(b:Bool)(t:St):St:=some (15,[vK h0 h1 c m (.msl 1 0 x.length) (.msl 3 0 y.length) (bA b)])::some (1,x.map zn)::none ::some (1,y.map zn)::t
abbrev tV(h0:List za)(h1:T2)(c:T0)(m:zb)(x y:T1)(b:Bool)(t:List SB):List SB:=.one 15 (vK h0 h1 c m (.msl 1 0 x.length) (.msl 2 0 y.length) (bA b)):: .many 1 (x.map zn):: .many 1 (y.map zn)::t
abbrev tU(h0:List za)(h1:T2)(c:T0)(m:zb)(x y:T1)(b:Bool)(t:List SB):List SB:=.one 15 (vK h0 h1 c m (.msl 1 0 x.length) (.msl 3 0 y.length) (bA b)):: .many 1 (x.map zn):: .no :: .many 1 (y.map zn)::t
def zu7(a:T0):Unit:=
  ()
theorem zt3(a:T0){r:Unit}(h:zu7 a=r):SC Tryz.prog 21 [sA a] [] (.agg [sA a,sA [79,98,106,101,99,116],bA false,.lit (.slice none 0 0),.msl 0 0 1,.msl 1 0 1]) [.xs 3 [[sA [120],sA [73],bA false]],.xs 10 [[sA [109,97,105,110],.lit (.slice none 0 0),sA [86],bA true,bA false,iA 0,iA 0,.msl 2 0 1,.lit (.slice none 0 0),.lit (.slice none 0 0)]],.xs 4 [[iA 46,iA 0,sA [],sA []]]]:=by
 refine ⟨⟨t,t,t,t⟩,zai Tryz.func21 y kz y ?_⟩
 unfold zu7 at h
 refine A ?_
 refine A ?_
 refine zK ?_
 obtain rfl:=h
 exact ⟨_,y,zbG [.old 1,.old 3,.old 2]⟩
def zu8:Unit:=
  ()
theorem zhN{r:Unit}(h:zu8=r):SC Tryz.prog 93 [] [] (.msl 0 0 3) [.xs 6 [[sA [70,97,99,101],sA [79,98,106,101,99,116],bA true,.lit (.slice none 0 0),.lit (.slice none 0 0),.msl 1 0 1],[sA [65,97],sA [79,98,106,101,99,116],bA false,.msl 2 0 1,.msl 3 0 2,.msl 4 0 1],[sA [66,98],sA [65,97],bA false,.lit (.slice none 0 0),.msl 6 0 1,.msl 7 0 1]],.xs 10 [[sA [102],.lit (.slice none 0 0),sA [73],bA false,bA true,iA 0,iA 0,.lit (.slice none 0 0),.lit (.slice none 0 0),.lit (.slice none 0 0)]],.xs 1 [[sA [70,97,99,101]]],.xs 3 [[sA [120],sA [73],bA false],[sA [115],sA [73],bA true]],.xs 10 [[sA [102],.lit (.slice none 0 0),sA [73],bA false,bA false,iA 1,iA 1,.msl 5 0 2,.lit (.slice none 0 0),.lit (.slice none 0 0)]],.xs 4 [[iA 1,iA 5,sA [],sA []],[iA 47,iA 0,sA [],sA []]],.xs 3 [[sA [121],sA [91,65,97],bA false]],.xs 10 [[sA [109,97,105,110],.lit (.slice none 0 0),sA [86],bA true,bA false,iA 0,iA 0,.msl 8 0 1,.lit (.slice none 0 0),.lit (.slice none 0 0)]],.xs 4 [[iA 46,iA 0,sA [],sA []]]]:=by
 refine ⟨⟨t,t,t,t,t,t,t,t,t,t⟩,zai Tryz.func93 y kz y ?_⟩
 unfold zu8 at h
 refine A ?_
 refine A ?_
 refine rg y<|u<|bl 2 ti y ti y (by decide) (by decide) y y y<|u<|bd ti y y y<|u<|bd ti y y y<|u<|bl 3 ti y ti y (by decide) (by decide) y y y<|u<|bd ti y y y<|u<|bd ti y y y<|u<|bl 4 ti y ti y (by decide) (by decide) y y y<|u<|bd (parts:=[(0,sA [102]),(2,sA [73]),(5,iA 1),(6,iA 1),(7,.msl 4 0 2)]) (cs:=[sA [102],.lit (.slice none 0 0),sA [73],bA false,bA false,iA 1,iA 1,.msl 4 0 2,.lit (.slice none 0 0),.lit (.slice none 0 0)]) ti y y kz<|u<|bl 5 ti y ti y (by decide) (by decide) y y y<|u<|bd (parts:=[(0,sA [65,97]),(1,sA [79,98,106,101,99,116]),(3,.msl 2 0 1),(4,.msl 3 0 2),(5,.msl 5 0 1)]) (cs:=[sA [65,97],sA [79,98,106,101,99,116],bA false,.msl 2 0 1,.msl 3 0 2,.msl 5 0 1]) ti y y kz<|u<|al 6 ti y<|u<|sto ti y y y<|zJ ?_
 refine rg y<|u<|sx [] (zt3 [66,98] y)<|u<|al 10 ti y<|A ?_
 refine A ?_
 refine A ?_
 refine u<|bl 11 ti y ti y (by decide) (by decide) y y y<|A ?_
 refine A ?_
 refine u<|bl 12 ti y ti y (by decide) (by decide) y y y<|A ?_
 refine zK ?_
 obtain rfl:=h
 exact ⟨_,y,zbG [.old 12,.old 0,.old 2,.old 3,.old 5,.old 4,.old 11,.old 8,.old 9]⟩
def zlu(a:T1):Option (T1):=
  some a
def zbK(b:List za)(c:T1)(a:Int):Option (Sum (T1×Int) (Sum (T1) (T1))):=
  cond (decide (a<(length b:Int))) ((idx b a).bind fun e=>(zgT 16 c [e.Name]).bind fun d=>some (.inl (d,(IntKind.i64.wrap (a+1))))) (some (.inr (.inl c)))
def zcE(a:List za)(c:T2):Option (T1):=
  (zm (fun z=>zbK a z.1 z.2) ([],0)).bind fun o=>zI o (fun b=>zlu b) some
theorem zeL(a:List za)(c:T2){r:T1}(h:zcE a c=some r):SC Tryz.prog 104 [.ipt 2 [[.isl 6 (map zc a),.imp (map (rKV (fun x=>iA x)) c)]] 0 0] [] (.msl 0 0 (length r)) [.many 1 (map zn r)]:=by
 refine ⟨⟨zg0 (sz:=1) (fun _=>y),t⟩,zai Tryz.func104 y kz y ?_⟩
 refine A ?_
 refine zh<|A ?_
 refine zhY y (fun hx=>by cases hx) (fun _=>?_)
 refine zf<|A ?_
 refine zh<|A ?_
 obtain ⟨o,ho,h⟩:=bs h
 refine lpB ho (fun z=>[(3,.msl 0 0 (length z.1)),(11,.isl 6 (map zc a)),(12,iA (length a:Int)),(13,iA z.2)]) (fun z=>[some (1,map zn z.1)]) (fun b=>[(3,.msl 0 0 (length b))]) (fun b=>[some (1,map zn b)]) (pF Tryz.f104 (fun r=>.msl 0 0 (length r)) fun r=>[some (1,map zn r)]) ⟨[.fresh 1],cv y (.nilown y)<|ce y y<|ce y y<|ce y y<|cn,y,⟨w,t⟩,y,k⟩ ?_ ?_
 ·rintro ⟨m,n⟩ r h
  refine A ?_
  refine zh ?_
  refine zeh h y (fun d h=>?_) fun d h=>?_
  ·refine zf<|zh<|zp ?_
   obtain ⟨e,p,h⟩:=bs h
   refine A ?_
   obtain ⟨j,i,h⟩:=bs h
   refine A ?_
   refine u<|apM 3 ti y ti y y (by decide) ti y y y y (roX (f:=zn) (z:=[e.Name]) y y) (fun _=>y) y i<|A ?_
   refine A ?_
   obtain rfl:=sm h
   exact ⟨_,y,zH [.old 3]⟩
  ·refine zG ?_
   obtain rfl:=sm h
   exact ⟨y,_,y,zH [.old 0]⟩
 ·rintro l rfl
  refine zv<|A ?_
  exact RT1
def zz(a:List za)(b:T2)(c:T0):Option (za×Bool):=
  cond (!(zbd a b c)) (some ((za.mk [] [] false [] [] []),false)) ((zdk a b c).bind fun d=>some (d,true))
theorem zic(a:List za)(b:T2)(c:T0){r:za×Bool}(h:zz a b c=some r):zaj Tryz.prog 106 [.ipt 2 [[.isl 6 (map zc a),.imp (map (rKV (fun x=>iA x)) b)]] 0 0,sA c] (.tup [.agg (zc r.1),bA r.2]):=by
 refine zj Tryz.func106 y kz y y<|A ?_
 refine zh<|A ?_
 refine zeh h y (fun d h=>?_) fun d h=>?_
 ·refine A ?_
  exact RT0
 ·refine zf ?_
  obtain ⟨e,f,h⟩:=bs h
  refine A ?_
  exact RT0
instance (a:List za)(b:T2)(c:T0):PF Tryz.prog 106 [.ipt 2 [[.isl 6 (map zc a),.imp (map (rKV (fun x=>iA x)) b)]] 0 0,sA c] (zz a b c) (fun r=>(.tup [.agg (zc r.1),bA r.2])):=⟨fun _=>zic a b c⟩
def zid(b:List za)(c:T2)(a:T0):Option (Bool):=
  some ((a == [73])||(zbd b c a))
def zdo(d:T0)(a:T0)(c:Bool):Option (Sum (T0×T0×Bool) (Sum (T0) (Bool))):=
  cond c ((zfH a).bind fun b=>some (.inl (a,b.1,b.2))) (some (.inr (.inl d)))
def zeM(d:List za)(e:T2)(a:T0):Option (Bool):=
  (zfH a).bind fun c=>(zm (fun z=>zdo z.1 z.2.1 z.2.2) (a,c.1,c.2)).bind fun o=>zI o (fun b=>zid d e b) some
instance (c:List za)(d:T2)(e:T0):PF Tryz.prog 275 [.ipt 2 [[.isl 6 (map zc c),.imp (map (rKV (fun x=>iA x)) d)]] 0 0,sA e] (zeM c d e) bA:=⟨fun r h=>by
 refine zj Tryz.func275 y kz y y<|A ?_
 refine zh ?_
 obtain ⟨p,q,h⟩:=bs h
 refine A ?_
 obtain ⟨o,ho,h⟩:=bs h
 refine lpB ho (fun z=>[(0,.ipt 2 [[.isl 6 (map zc c),.imp (map (rKV (fun x=>iA x)) d)]] 0 0),(1,sA z.1),(5,sA z.2.1),(6,bA z.2.2)]) (fun z=>[]) (fun b=>[(0,.ipt 2 [[.isl 6 (map zc c),.imp (map (rKV (fun x=>iA x)) d)]] 0 0),(1,sA b)]) (fun b=>[]) (pG Tryz.f275 bA) (zcs []) ?_ ?_
 ·rintro ⟨s,l,m⟩ r h
  refine zh<|A ?_
  refine zeh h y (fun f h=>?_) fun f h=>?_
  ·refine zf<|zh<|zp<|A ?_
   obtain ⟨n,v,h⟩:=bs h
   refine A ?_
   obtain rfl:=sm h
   exact ⟨_,y,zH []⟩
  ·refine zG ?_
   obtain rfl:=sm h
   exact ⟨y,_,y,zH []⟩
 ·rintro i rfl
  refine zv ?_
  refine rg y<|u<|mv y<|u<|nep ti y y y y y y<|u<|mv y<|g y y<|mv y<|g y y<|seq ti y y<|g y y<|mv y<|zwC (j:=5) 3 y y y y y (gps y y y) (fun a=>g y a<|mv y<|g y a<|mv y<|g y a<|pc (zkV c d i y) y y y<|zJ (egO [25,26,27] 3 a y y y y)) orT<|u<|pk (b:=true) y y<|u<|asg y<|zJ ?_
  exact RT0⟩
def zk0(a:T1):Option (T1):=
  some a
def zbo(b:List za)(c:T2)(a:T0)(d:T1):Option (Sum (T0×T1) (Sum (T1) (T1))):=
  cond (zbd b c a) ((zgT 16 d [a]).bind fun e=>(zdk b c a).bind fun f=>some (.inl (f.Super,e))) (some (.inr (.inl d)))
def zak(a:List za)(c:T2)(d:T0):Option (T1):=
  (zm (fun z=>zbo a c z.1 z.2) (d,[])).bind fun o=>zI o (fun b=>zk0 b) some
theorem zaE(a:List za)(c:T2)(d:T0){r:T1}(h:zak a c d=some r):SC Tryz.prog 109 [.ipt 2 [[.isl 6 (map zc a),.imp (map (rKV (fun x=>iA x)) c)]] 0 0,sA d] [] (.msl 0 0 (length r)) [.many 1 (map zn r)]:=by
 refine ⟨⟨zg0 (sz:=1) (fun _=>y),t⟩,zai Tryz.func109 y kz y ?_⟩
 refine A ?_
 refine A ?_
 obtain ⟨o,ho,h⟩:=bs h
 refine lpA ho (fun z=>[(0,.ipt 2 [[.isl 6 (map zc a),.imp (map (rKV (fun x=>iA x)) c)]] 0 0),(1,sA z.1),(5,.msl 0 0 (length z.2))]) (fun z=>[some (1,map zn z.2)]) (fun b=>[(5,.msl 0 0 (length b))]) (fun b=>[some (1,map zn b)]) (pF Tryz.f109 (fun r=>.msl 0 0 (length r)) fun r=>[some (1,map zn r)]) ⟨[.fresh 1],ce y y<|ce y y<|cv y (.nilown y)<|cn,y,⟨w,t⟩,y,k⟩ ?_ ?_
 ·rintro ⟨i,p⟩ r h
  refine zh<|A ?_
  refine zeh h y (fun e h=>?_) fun e h=>?_
  ·refine zf<|zp ?_
   obtain ⟨l,j,h⟩:=bs h
   refine A ?_
   refine u<|apM 2 ti y ti y y (by decide) ti y y y y (roX (f:=zn) (z:=[i]) y y) (fun _=>y) y j<|A ?_
   obtain ⟨m,q,h⟩:=bs h
   refine A ?_
   obtain rfl:=sm h
   exact ⟨_,y,zH [.old 2]⟩
  ·refine zG ?_
   obtain rfl:=sm h
   exact ⟨y,_,y,zH [.old 0]⟩
 ·rintro n rfl
  refine A ?_
  exact RT1
def zhB(a:T1):Option (T1):=
  (zwL a).bind fun b=>some b
def zhA(a:Int)(b:T1)(c:T1):Option (Sum (T1×T1×Int) (Sum (T1) (T1))):=
  some (.inl (b,c,(IntKind.i64.wrap (a+1))))
def zeK(a:Int)(b:T1):Option (Sum (T1×Int) (Sum (T1) (T1))):=
  some (.inl (b,(IntKind.i64.wrap (a+1))))
def zdn(c:za)(a:T1)(b:Int):Option (Sum (T1×Int) (Sum (T1) (T1))):=
  cond (decide (b<(length c.Impl:Int))) ((idx c.Impl b).bind fun d=>(zx a d).bind fun e=>cond (!e) ((zgT 16 a [d]).bind fun f=>zeK b f) (zeK b a)) (some (.inr (.inl a)))
def zdm(a:T1)(c:Int)(d:za)(e:T1):Option (Sum (T1×T1×Int) (Sum (T1) (T1))):=
  (zm (fun z=>zdn d z.1 z.2) (a,0)).bind fun o=>zI o (fun b=>zhA c e b) (fun r=>some (.inr (.inr r)))
def zbn(i:List za)(j:T2)(d:T1)(a:T1)(b:Int):Option (Sum (T1×T1×Int) (Sum (T1) (T1))):=
  cond (decide (b<((length a):Int))) ((idx a b).bind fun e=>(zdk i j e).bind fun c=>cond c.Interface ((zgT 16 d [c.Name]).bind fun f=>zdm a b c f) (zdm a b c d)) (some (.inr (.inl d)))
def zdB(a:List za)(c:T2)(d:T0):Option (T1):=
  cond (!(zbd a c d)) (some []) ((zak a c d).bind fun e=>(zm (fun z=>zbn a c z.1 z.2.1 z.2.2) ([],e,0)).bind fun o=>zI o (fun b=>zhB b) some)
theorem zgi(d:List za)(e:T2)(s:T0){r:T1}(h:zdB d e s=some r):SC Tryz.prog 276 [.ipt 2 [[.isl 6 (map zc d),.imp (map (rKV (fun x=>iA x)) e)]] 0 0,sA s] [] (.msl 0 0 (length r)) [.many 1 (map zn r)]:=by
 refine ⟨⟨zg0 (sz:=1) (fun _=>y),t⟩,zai Tryz.func276 y kz y ?_⟩
 refine A ?_
 refine zh<|A ?_
 refine zeh h y (fun E h=>?_) fun E h=>?_
 ·refine A ?_
  refine zK ?_
  obtain rfl:=sm h
  exact ⟨_,y,[.fresh 1],.nilown y,y,⟨w,t⟩,y,k⟩
 ·refine zf<|A ?_
  obtain ⟨F,N,h⟩:=bs h
  refine A ?_
  refine u<|sx [] (zaE d e s N)<|zL (env0:=[(0,.ipt 2 [[.isl 6 (map zc d),.imp (map (rKV (fun x=>iA x)) e)]] 0 0),(5,.lit (.slice none 0 0)),(17,.msl 0 0 (length F))]) (st0:=[some (1,map zn F)]) (zH [.old 0])<|A ?_
  refine zh<|A ?_
  obtain ⟨o,ho,h⟩:=bs h
  refine lpB ho (fun z=>[(0,.ipt 2 [[.isl 6 (map zc d),.imp (map (rKV (fun x=>iA x)) e)]] 0 0),(5,.msl 0 0 (length z.1)),(6,.msl 1 0 (length z.2.1)),(7,iA z.2.2)]) (fun z=>[some (1,map zn z.1),some (1,map zn z.2.1)]) (fun b=>[(5,.msl 0 0 (length b))]) (fun b=>[some (1,map zn b)]) (pF Tryz.f276 (fun r=>.msl 0 0 (length r)) fun r=>[some (1,map zn r)]) ⟨[.fresh 1,.old 0],ce y y<|cv y (.nilown y)<|cv y (.msl y)<|ce y y<|cn,y,⟨w,⟨_,y,zP (fun _=>y)⟩,t⟩,y,k⟩ ?_ ?_
  ·rintro ⟨G,j,i⟩ r h
   refine zh<|A ?_
   refine zeh h y (fun v h=>?_) fun v h=>?_
   ·refine zf<|zh<|zp ?_
    obtain ⟨O,P,a,Q,h⟩:=bs2 h
    refine A ?_
    refine zcX (X:=T1) (fun z=>[(0,.ipt 2 [[.isl 6 (map zc d),.imp (map (rKV (fun x=>iA x)) e)]] 0 0),(5,.msl 0 0 (length z)),(6,.msl 1 0 (length j)),(7,iA i),(8,.mpt 2 0 0)]) (fun z=>[some (1,map zn z),some (1,map zn j),some (6,[(zc a)])]) (fun z=>zdm j i a z=some r) ?_ ?_
    ·refine A ?_
     refine zeh h y (fun B h=>?_) fun B h=>?_
     ·obtain ⟨H,I,h⟩:=bs h
      refine A ?_
      refine u<|apM 4 ti y ti y y (by decide) ti y y y y (roX (f:=zn) (z:=[a.Name]) y y) (fun _=>y) y I<|A ?_
      exact (⟨H,h,zH [.old 4,.old 1,.old 2]⟩)
     ·refine zf ?_
      exact ⟨G,h,zH [.old 0,.old 1,.old 2]⟩
    ·rintro c h
     refine A ?_
     obtain ⟨o,ho,h⟩:=bs h
     refine lpS ho (fun z=>[(0,.ipt 2 [[.isl 6 (map zc d),.imp (map (rKV (fun x=>iA x)) e)]] 0 0),(5,.msl 0 0 (length c)),(6,.msl 1 0 (length z.1)),(7,iA i),(38,.isl 1 (map zn a.Impl)),(39,iA (length a.Impl:Int)),(40,iA z.2)]) (fun z=>[some (1,map zn c),some (1,map zn z.1)]) (fun b=>[(0,.ipt 2 [[.isl 6 (map zc d),.imp (map (rKV (fun x=>iA x)) e)]] 0 0),(5,.msl 0 0 (length c)),(6,.msl 1 0 (length b)),(7,iA i)]) (fun b=>[some (1,map zn c),some (1,map zn b)]) (pF Tryz.f276 (fun r=>.msl 0 0 (length r)) fun r=>[some (1,map zn r)]) (zcs [.old 0,.old 1]) ?_ ?_ ?_
     ·rintro ⟨l,m⟩ r h
      refine A ?_
      refine zh ?_
      refine zeh h y (fun C h=>?_) fun C h=>?_
      ·refine zf ?_
       refine zcX (X:=T1) (fun z=>[(0,.ipt 2 [[.isl 6 (map zc d),.imp (map (rKV (fun x=>iA x)) e)]] 0 0),(5,.msl 0 0 (length c)),(6,.msl 1 0 (length z)),(7,iA i),(38,.isl 1 (map zn a.Impl)),(39,iA (length a.Impl:Int)),(40,iA m)]) (fun z=>[some (1,map zn c),some (1,map zn z)]) (fun z=>zeK m z=some r) ?_ ?_
       ·refine zp ?_
        obtain ⟨n,R,h⟩:=bs h
        refine A ?_
        obtain ⟨S,J,h⟩:=bs h
        refine rg y<|u<|mv y<|u<|mv y<|u<|pcs (zW l n J) y y (.cons (zgN y (fun _=>y)) (.cons (si y) .nil)) zbQ<|A ?_
        refine zeh h y (fun D h=>?_) fun D h=>?_
        ·obtain ⟨K,L,h⟩:=bs h
         refine A ?_
         refine u<|apM 3 ti y ti y y (by decide) ti y y y y (roX (f:=zn) (z:=[n]) y y) (fun _=>y) y L<|A ?_
         exact (⟨K,h,zH [.old 0,.old 3]⟩)
        ·refine zf ?_
         exact ⟨l,h,zH [.old 0,.old 1]⟩
       ·rintro T h
        refine A ?_
        obtain rfl:=sm h
        exact ⟨_,y,zH [.old 0,.old 1]⟩
      ·refine zG ?_
       obtain rfl:=sm h
       exact ⟨y,_,y,zH [.old 0,.old 1]⟩
     ·rintro U rfl
      refine zv<|A ?_
      obtain rfl:=sm h
      exact ⟨_,y,zH [.old 0,.old 1]⟩
     ·rintro r' rfl env st hp
      obtain rfl:=sm h
      exact ⟨_,y,hp⟩
   ·refine zG ?_
    obtain rfl:=sm h
    exact ⟨y,_,y,zH [.old 0]⟩
  ·rintro M rfl
   refine zv ?_
   obtain ⟨p,q,h⟩:=bs h
   refine rg y<|u<|mv y<|u<|sx [0] (zAG M q)<|zL (env0:=[(5,.msl 0 0 (length p))]) (st0:=[some (1,map zn p)]) ⟨[.old 0],cv y (zDQ (zyU q) y)<|cn,y,⟨⟨_,y,zP (fun _=>y)⟩,t⟩,y,k⟩<|zJ ?_
   refine A ?_
   exact RT1
def zb0(q:((List za)×T2×T0×T0→Option Bool))(b:List za)(c:T2)(d:T0)(a:T0):Option (Bool):=
  (zeM b c d).bind fun s=>(cond (!s) (some true) ((zeM b c a).bind fun v=>some (!v))).bind fun x=>cond x (some false) ((zfH d).bind fun e=>(zfH a).bind fun f=>cond (d == a) (some true) (cond (e.2&&f.2) ((cond ((!(e.1 == [73]))&&(!(f.1 == [73]))) ((q (b,c,e.1,f.1)).bind fun i=>some i) (some false)).bind fun j=>some j) (cond e.2 (some (a == [79,98,106,101,99,116])) ((zak b c d).bind fun l=>(zx l a).bind fun m=>(cond m (some true) ((zdB b c d).bind fun n=>(zx n a).bind fun o=>some o)).bind fun p=>some p))))
theorem zlv(p:((List za)×T2×T0×T0→Option Bool))(hrec:∀z r,p z=some r→zaj Tryz.prog 196 [.ipt 2 [[.isl 6 (map zc z.1),.imp (map (rKV (fun x=>iA x)) z.2.1)]] 0 0,sA z.2.2.1,sA z.2.2.2] (bA r))(e:List za)(f:T2)(i:T0)(l:T0){r:Bool}(h:zb0 p e f i l=some r):zaj Tryz.prog 196 [.ipt 2 [[.isl 6 (map zc e),.imp (map (rKV (fun x=>iA x)) f)]] 0 0,sA i,sA l] (bA r):=by
 refine zj Tryz.func196 y kz y y<|A ?_
 refine zh ?_
 obtain ⟨N,O,P,Q,h⟩:=bs2 h
 refine A ?_
 refine zeh h y (fun q h=>?_) fun q h=>?_
 ·refine A ?_
  exact RT0
 ·refine zf ?_
  obtain ⟨I,R,h⟩:=bs h
  refine A ?_
  obtain ⟨J,S,h⟩:=bs h
  refine A ?_
  refine zh<|zp<|A ?_
  refine zeh h y (fun s h=>?_) fun s h=>?_
  ·refine A ?_
   exact RT0
  ·refine A ?_
   refine zeh h y (fun n h=>?_) fun n h=>?_
   ·obtain ⟨v,d,h⟩:=bs h
    refine A ?_
    refine zik (x:=v) (j:=6) 4 y y y y y gpn (fun c=>by replace d:=bT c d;obtain ⟨K,B,d⟩:=bs d;obtain rfl:=sm d;exact g y c<|mv y<|g y c<|mv y<|g y c<|mv y<|g y c<|pc (hrec (e,f,I.1,J.1) _ B) y y y<|zJ (eg [47,48,49,50] 4 y y y y)) (fun hb=>(sm (bF hb d)).symm)<|A ?_
    exact RT0
   ·refine A ?_
    refine zeh h y (fun o h=>?_) fun o h=>?_
    ·refine A ?_
     exact RT0
    ·refine zf ?_
     obtain ⟨m,C,L,D,E,b,h⟩:=bs3 h
     refine A ?_
     refine u<|sx [] (zaE e f i C)<|zL (env0:=[(0,.ipt 2 [[.isl 6 (map zc e),.imp (map (rKV (fun x=>iA x)) f)]] 0 0),(1,sA i),(2,sA l),(58,.msl 0 0 (length m))]) (st0:=[some (1,map zn m)]) (zH [.old 0])<|u<|mv y<|u<|pcs (zW m l D) y y (.cons (zgN y (fun _=>y)) (.cons (si y) .nil)) zbQ<|u<|mv y<|zEk (x:=E) (j:=5) 5 1 y y y y y gpn (fun a=>by replace b:=bF a b;obtain ⟨F,G,b⟩:=bs b;obtain ⟨M,H,b⟩:=bs b;obtain rfl:=sm b;exact g y a<|mv y<|g y a<|mv y<|g y a<|sx [] (zgi e f i G)<|g y a<|mv y<|g y a<|pcs (zW F l H) y y (.cons (zgN y (fun _=>y)) (.cons (si y) .nil)) zbQ<|zJ (xg [62,63,64,65,66] 5 y y y y y y)) (fun hb=>(sm (bT hb b)).symm)<|A ?_
     exact RT0
def zcb(a:List za)(b:T2)(c:T0)(d:T0):Option Bool:=
  zCC (fun e z=>zb0 e z.1 z.2.1 z.2.2.1 z.2.2.2) (a,b,c,d)
theorem zc3(b:List za)(c:T2)(d:T0)(e:T0){r:Bool}(h:zcb b c d e=some r):zaj Tryz.prog 196 [.ipt 2 [[.isl 6 (map zc b),.imp (map (rKV (fun x=>iA x)) c)]] 0 0,sA d,sA e] (bA r):=
  zCE (F:=(fun a z=>zb0 a z.1 z.2.1 z.2.2.1 z.2.2.2)) (Q:=fun z r=>zaj Tryz.prog 196 [.ipt 2 [[.isl 6 (map zc z.1),.imp (map (rKV (fun x=>iA x)) z.2.1)]] 0 0,sA z.2.2.1,sA z.2.2.2] (bA r)) (fun a hv z r h=>zlv a hv z.1 z.2.1 z.2.2.1 z.2.2.2 h) h
def zdl(b:List za)(c:T2)(a:T0):Option (Bool):=
  (cond ((a == [78])||(a == [84])) (some true) ((zcb b c a a).bind fun d=>some d)).bind fun e=>some e
instance (f:List za)(i:T2)(e:T0):PF Tryz.prog 193 [.ipt 2 [[.isl 6 (map zc f),.imp (map (rKV (fun x=>iA x)) i)]] 0 0,sA e] (zdl f i e) bA:=⟨fun r h=>by
 refine zj Tryz.func193 y kz y y<|A ?_
 obtain ⟨l,c,h⟩:=bs h
 refine rg y<|u<|mv y<|u<|nep ti y y y y y y<|u<|mv y<|g y y<|mv y<|g y y<|seq ti y y<|g y y<|mv y<|zwC (j:=5) 2 y y y y y (gps y y y) (fun d=>g y d<|mv y<|g y d<|seq ti y y<|zJ (egO [11,12] 2 d y y y y)) orT<|g y y<|mv y<|zwC (x:=l) (j:=9) 4 y y y y y (gps y y y) (fun a=>by replace c:=bF a c;obtain ⟨n,m,c⟩:=bs c;obtain rfl:=sm c;exact g y a<|mv y<|g y a<|mv y<|g y a<|mv y<|g y a<|pc (zc3 f i e e m) y y y<|zJ (eg [15,16,17,18] 4 y y y y)) (fun hb=>(sm (bT hb c)).symm)<|u<|pk (b:=true) y y<|u<|asg y<|zJ ?_
 exact RT0⟩
def zdZ(a:T0)(b:List za)(c:T2):Option (Bool):=
  (cond ((!(a == [86]))&&(!(a == []))) ((zdl b c a).bind fun d=>some (!d)) (some false)).bind fun e=>some e
instance (a:T0)(b:List za)(c:T2):PF Tryz.prog 299 [sA a,.ipt 1 [[.ipt 2 [[.isl 6 (map zc b),.imp (map (rKV (fun x=>iA x)) c)]] 0 0]] 0 0] (zdZ a b c) bA:=⟨fun r h=>by
 refine zj Tryz.func299 y kz y y<|A ?_
 obtain ⟨d,e,h⟩:=bs h
 refine A ?_
 exact RT0⟩
def zjE(a:zi)(b:List za)(c:T2):Option (Bool):=
  (zdZ a.Type_ b c).bind fun d=>some d
instance (a:zi)(b:List za)(c:T2):PF Tryz.prog 300 [.agg (zD a),.ipt 1 [[.fn (.func 299) [] [.ipt 1 [[.ipt 2 [[.isl 6 (map zc b),.imp (map (rKV (fun x=>iA x)) c)]] 0 0]] 0 0]]] 0 0] (zjE a b c) bA:=⟨fun r h=>by
 refine zj Tryz.func300 y kz y y<|A ?_
 obtain ⟨d,e,h⟩:=bs h
 refine A ?_
 exact RT0⟩
def zcU:Option (Int):=
  some (-1)
def zaB(b:List zi)(c:List za)(d:T2)(a:Int):Option (Sum (Int) (Sum (Unit) (Int))):=
  cond (decide (a<(length b:Int))) ((idx b a).bind fun e=>(zjE e c d).bind fun f=>cond f (some (.inr (.inr a))) (some (.inl (IntKind.i64.wrap (a+1))))) (some (.inr (.inl ())))
def zbN(a:List zi)(c:List za)(d:T2):Option (Int):=
  (zm (fun z=>zaB a c d z) 0).bind fun o=>zI o (fun b=>zcU) some
instance (a:List zi)(c:List za)(d:T2):PF Tryz.prog 315 [.isl 3 (map zD a),.fn (.func 300) [] [.ipt 1 [[.fn (.func 299) [] [.ipt 1 [[.ipt 2 [[.isl 6 (map zc c),.imp (map (rKV (fun x=>iA x)) d)]] 0 0]] 0 0]]] 0 0]] (zbN a c d) iA:=⟨fun r h=>by
 refine zj Tryz.func315 y kz y y<|A ?_
 refine zh<|A ?_
 obtain ⟨o,ho,h⟩:=bs h
 refine lpB ho (fun z=>[(0,.isl 3 (map zD a)),(1,.fn (.func 300) [] [.ipt 1 [[.fn (.func 299) [] [.ipt 1 [[.ipt 2 [[.isl 6 (map zc c),.imp (map (rKV (fun x=>iA x)) d)]] 0 0]] 0 0]]] 0 0]),(7,iA (length a:Int)),(8,iA z)]) (fun z=>[]) (fun b=>[]) (fun b=>[]) (pG Tryz.f315 iA) (zcs []) ?_ ?_
 ·rintro i r h
  refine A ?_
  refine zh ?_
  refine zeh h y (fun e h=>?_) fun e h=>?_
  ·refine zf<|zh<|zp<|A ?_
   obtain ⟨j,l,m,n,h⟩:=bs2 h
   refine A ?_
   refine zeh h y (fun f h=>?_) fun f h=>?_
   ·refine A ?_
    refine zK ?_
    obtain rfl:=sm h
    exact ⟨_,y,_,y,zbG []⟩
   ·refine zf<|A ?_
    obtain rfl:=sm h
    exact ⟨_,y,zH []⟩
  ·refine zG ?_
   obtain rfl:=sm h
   exact ⟨y,_,y,zH []⟩
 ·rintro ⟨⟩ rfl
  refine zv<|A ?_
  exact RT0⟩
def zab(a:List zi)(b:List za)(c:T2):Option (Bool):=
  (zbN a b c).bind fun d=>some (decide (0≤d))
theorem zcr(a:List zi)(b:List za)(c:T2){r:Bool}(h:zab a b c=some r):zaj Tryz.prog 234 [.isl 3 (map zD a),.fn (.func 300) [] [.ipt 1 [[.fn (.func 299) [] [.ipt 1 [[.ipt 2 [[.isl 6 (map zc b),.imp (map (rKV (fun x=>iA x)) c)]] 0 0]] 0 0]]] 0 0]] (bA r):=by
 refine zj Tryz.func234 y kz y y<|A ?_
 obtain ⟨d,e,h⟩:=bs h
 refine A ?_
 exact RT0
instance (a:List zi)(b:List za)(c:T2):PF Tryz.prog 234 [.isl 3 (map zD a),.fn (.func 300) [] [.ipt 1 [[.fn (.func 299) [] [.ipt 1 [[.ipt 2 [[.isl 6 (map zc b),.imp (map (rKV (fun x=>iA x)) c)]] 0 0]] 0 0]]] 0 0]] (zab a b c) bA:=⟨fun _=>zcr a b c⟩
def zir(a:zN)(b:List za)(c:T2):Option (Bool):=
  (zdZ a.C b c).bind fun d=>some d
instance (a:zN)(b:List za)(c:T2):PF Tryz.prog 303 [.agg (zaa a),.ipt 1 [[.fn (.func 299) [] [.ipt 1 [[.ipt 2 [[.isl 6 (map zc b),.imp (map (rKV (fun x=>iA x)) c)]] 0 0]] 0 0]]] 0 0] (zir a b c) bA:=⟨fun r h=>by
 refine zj Tryz.func303 y kz y y<|A ?_
 obtain ⟨d,e,h⟩:=bs h
 refine A ?_
 exact RT0⟩
def zdj:Option (Int):=
  some (-1)
def zaK(b:List zN)(c:List za)(d:T2)(a:Int):Option (Sum (Int) (Sum (Unit) (Int))):=
  cond (decide (a<(length b:Int))) ((idx b a).bind fun e=>(zir e c d).bind fun f=>cond f (some (.inr (.inr a))) (some (.inl (IntKind.i64.wrap (a+1))))) (some (.inr (.inl ())))
def zbZ(a:List zN)(c:List za)(d:T2):Option (Int):=
  (zm (fun z=>zaK a c d z) 0).bind fun o=>zI o (fun b=>zdj) some
instance (a:List zN)(c:List za)(d:T2):PF Tryz.prog 348 [.isl 4 (map zaa a),.fn (.func 303) [] [.ipt 1 [[.fn (.func 299) [] [.ipt 1 [[.ipt 2 [[.isl 6 (map zc c),.imp (map (rKV (fun x=>iA x)) d)]] 0 0]] 0 0]]] 0 0]] (zbZ a c d) iA:=⟨fun r h=>by
 refine zj Tryz.func348 y kz y y<|A ?_
 refine zh<|A ?_
 obtain ⟨o,ho,h⟩:=bs h
 refine lpB ho (fun z=>[(0,.isl 4 (map zaa a)),(1,.fn (.func 303) [] [.ipt 1 [[.fn (.func 299) [] [.ipt 1 [[.ipt 2 [[.isl 6 (map zc c),.imp (map (rKV (fun x=>iA x)) d)]] 0 0]] 0 0]]] 0 0]),(7,iA (length a:Int)),(8,iA z)]) (fun z=>[]) (fun b=>[]) (fun b=>[]) (pG Tryz.f348 iA) (zcs []) ?_ ?_
 ·rintro i r h
  refine A ?_
  refine zh ?_
  refine zeh h y (fun e h=>?_) fun e h=>?_
  ·refine zf<|zh<|zp<|A ?_
   obtain ⟨j,l,m,n,h⟩:=bs2 h
   refine A ?_
   refine zeh h y (fun f h=>?_) fun f h=>?_
   ·refine A ?_
    refine zK ?_
    obtain rfl:=sm h
    exact ⟨_,y,_,y,zbG []⟩
   ·refine zf<|A ?_
    obtain rfl:=sm h
    exact ⟨_,y,zH []⟩
  ·refine zG ?_
   obtain rfl:=sm h
   exact ⟨y,_,y,zH []⟩
 ·rintro ⟨⟩ rfl
  refine zv<|A ?_
  exact RT0⟩
def zaJ(a:List zN)(b:List za)(c:T2):Option (Bool):=
  (zbZ a b c).bind fun d=>some (decide (0≤d))
instance (a:List zN)(b:List za)(c:T2):PF Tryz.prog 302 [.isl 4 (map zaa a),.fn (.func 303) [] [.ipt 1 [[.fn (.func 299) [] [.ipt 1 [[.ipt 2 [[.isl 6 (map zc b),.imp (map (rKV (fun x=>iA x)) c)]] 0 0]] 0 0]]] 0 0]] (zaJ a b c) bA:=⟨fun r h=>by
 refine zj Tryz.func302 y kz y y<|A ?_
 obtain ⟨d,e,h⟩:=bs h
 refine A ?_
 exact RT0⟩
def zoQ:Option (T0×zi×Bool):=
  some ([],(zi.mk [] [] false),false)
def zeD(i:List za)(j:T2)(l:T0)(e:T1)(a:Int):Option (Sum (Int) (Sum (Unit) (T0×zi×Bool))):=
  cond (decide (a<((length e):Int))) ((idx e a).bind fun b=>(zz i j b).bind fun c=>(ziV c.1 l).bind fun d=>cond (decide (0≤d)) ((idx c.1.Fields d).bind fun f=>some (.inr (.inr (b,f,true)))) (some (.inl (IntKind.i64.wrap (a+1))))) (some (.inr (.inl ())))
def zgB(a:List za)(c:T2)(d:T0)(e:T0):Option (T0×zi×Bool):=
  (zak a c d).bind fun f=>(zm (fun z=>zeD a c e f z) 0).bind fun o=>zI o (fun b=>zoQ) some
instance (a:List za)(c:T2)(f:T0)(d:T0):PF Tryz.prog 134 [.ipt 2 [[.isl 6 (map zc a),.imp (map (rKV (fun x=>iA x)) c)]] 0 0,sA f,sA d] (zgB a c f d) (fun r=>(.tup [sA r.1,.agg (zD r.2.1),bA r.2.2])):=⟨fun r h=>by
 refine zj Tryz.func134 y kz y y<|A ?_
 refine zh ?_
 obtain ⟨e,p,h⟩:=bs h
 refine A ?_
 refine u<|sx [] (zaE a c f p)<|zL (env0:=[(0,.ipt 2 [[.isl 6 (map zc a),.imp (map (rKV (fun x=>iA x)) c)]] 0 0),(2,sA d),(7,.mpt 0 0 0),(16,.msl 1 0 (length e))]) (st0:=[some (3,[[sA [],sA [],bA false]]),some (1,map zn e)]) (zH [.old 0,.old 1])<|A ?_
 obtain ⟨o,ho,h⟩:=bs h
 refine lpB ho (fun z=>[(0,.ipt 2 [[.isl 6 (map zc a),.imp (map (rKV (fun x=>iA x)) c)]] 0 0),(2,sA d),(7,.mpt 0 0 0),(16,.msl 1 0 (length e)),(17,iA ((length e):Int)),(18,iA z)]) (fun z=>[some (3,[[sA [],sA [],bA false]]),some (1,map zn e)]) (fun b=>[(7,.mpt 0 0 0)]) (fun b=>[some (3,[[sA [],sA [],bA false]])]) (pG Tryz.f134 (fun r=>.tup [sA r.1,.agg (zD r.2.1),bA r.2.2])) (zcs [.old 0,.old 1]) ?_ ?_
 ·rintro q r h
  refine A ?_
  refine zh ?_
  refine zeh h y (fun j h=>?_) fun j h=>?_
  ·refine zf<|zh<|zp ?_
   obtain ⟨s,D,h⟩:=bs h
   refine A ?_
   obtain ⟨l,v,h⟩:=bs h
   refine A ?_
   obtain ⟨B,m,h⟩:=bs h
   refine rg y<|u<|ld ti y y<|u<|mv y<|u<|pc (zmn l.1 d m) y y y<|u<|asg y<|zJ ?_
   refine rg y<|u<|mv y<|u<|geq ti y y<|zJ ?_
   refine zeh h y (fun i h=>?_) fun i h=>?_
   ·obtain ⟨n,C,h⟩:=bs h
    refine rdA [(6,_),(7,_),(8,_)] [some (3,[(zD n)])] [7] [0,1,2,3,4,5,6] [(6,_),(38,_),(37,_),(36,_),(35,_),(34,_),(33,_)] 1 (zgE (z:=by exact ⟨(fun _ _=>⟨_,y,y,sto ti y y y<|⟨.any,[8],[(8,_)],y,y,y,t,zhx (z:=zcs [.old 0])⟩⟩),t⟩)) ?_
    refine zK ?_
    obtain rfl:=sm h
    exact ⟨_,y,_,y,zbG []⟩
   ·refine zf<|A ?_
    obtain rfl:=sm h
    exact ⟨_,y,zH [.old 0,.old 1]⟩
  ·refine zG ?_
   obtain rfl:=sm h
   exact ⟨y,_,y,zH [.old 0]⟩
 ·rintro ⟨⟩ rfl
  refine zv<|A ?_
  exact RT0⟩
def zaU(a:zb):Bool:=
  (!(a.Name == [36,105,110,105,116]))
theorem ziv(a:zb){r:Bool}(h:zaU a=r):zaj Tryz.prog 219 [.agg (zd a)] (bA r):=by
 refine zj Tryz.func219 y kz y y ?_
 unfold zaU at h
 refine A ?_
 refine A ?_
 refine zK ?_
 obtain rfl:=h
 exact ⟨_,y,zbG []⟩
instance (a:zb):PF Tryz.prog 219 [.agg (zd a)] (some (zaU a)) bA:=.of fun _=>ziv a
def zpE:Option (T0×zb×Bool):=
  some ([],(zb.mk [] [] [] false false 0 0 [] [] []),false)
def zfn(l:List za)(m:T2)(e:T1)(n:T0)(a:Int):Option (Sum (Int) (Sum (Unit) (T0×zb×Bool))):=
  cond (decide (a<(length e:Int))) ((idx e a).bind fun d=>(zz l m d).bind fun b=>(zeG b.1 n).bind fun c=>(cond (decide (0≤c)) ((idx b.1.Methods c).bind fun f=>some (zaU f)) (some false)).bind fun i=>cond i ((idx b.1.Methods c).bind fun j=>some (.inr (.inr (d,j,true)))) (some (.inl (IntKind.i64.wrap (a+1))))) (some (.inr (.inl ())))
def zij(a:List za)(c:T2)(d:T1)(e:T0):Option (T0×zb×Bool):=
  (zm (fun z=>zfn a c d e z) 0).bind fun o=>zI o (fun b=>zpE) some
instance (i:List za)(l:T2)(d:T1)(e:T0):PF Tryz.prog 218 [.ipt 2 [[.isl 6 (map zc i),.imp (map (rKV (fun x=>iA x)) l)]] 0 0,.isl 1 (map zn d),sA e,.fn (.func 219) [] []] (zij i l d e) (fun r=>(.tup [sA r.1,.agg (zd r.2.1),bA r.2.2])):=⟨fun r h=>by
 refine zj Tryz.func218 y kz y y<|A ?_
 refine zh<|A ?_
 obtain ⟨o,ho,h⟩:=bs h
 refine lpB ho (fun z=>[(0,.ipt 2 [[.isl 6 (map zc i),.imp (map (rKV (fun x=>iA x)) l)]] 0 0),(2,sA e),(3,.fn (.func 219) [] []),(9,.mpt 0 0 0),(16,.isl 1 (map zn d)),(17,iA (length d:Int)),(18,iA z)]) (fun z=>[some (10,[[sA [],.lit (.slice none 0 0),sA [],bA false,bA false,iA 0,iA 0,.lit (.slice none 0 0),.lit (.slice none 0 0),.lit (.slice none 0 0)]])]) (fun b=>[(9,.mpt 0 0 0)]) (fun b=>[some (10,[[sA [],.lit (.slice none 0 0),sA [],bA false,bA false,iA 0,iA 0,.lit (.slice none 0 0),.lit (.slice none 0 0),.lit (.slice none 0 0)]])]) (pG Tryz.f218 (fun r=>.tup [sA r.1,.agg (zd r.2.1),bA r.2.2])) (zcs [.old 0]) ?_ ?_
 ·rintro C r h
  refine A ?_
  refine zh ?_
  refine zeh h y (fun m h=>?_) fun m h=>?_
  ·refine zf<|zh<|zp ?_
   obtain ⟨D,E,h⟩:=bs h
   refine A ?_
   obtain ⟨p,F,h⟩:=bs h
   refine A ?_
   obtain ⟨G,q,h⟩:=bs h
   refine rg y<|u<|ld ti y y<|u<|mv y<|u<|pc (zge p.1 e q) y y y<|u<|asg y<|zJ ?_
   obtain ⟨s,c,h⟩:=bs h
   refine rg y<|u<|mv y<|u<|geq ti y y<|u<|mv y<|zik (x:=s) (j:=2) 7 y y y y y gpn (fun a=>by replace c:=bT a c;obtain ⟨v,f,c⟩:=bs c;obtain rfl:=sm c;exact g y a<|mv y<|g y a<|fa ti y y y<|g y a<|ld ti y y<|g y a<|mv y<|g y a<|ixI ti y ti y y y f<|g y a<|ldI ti y (zbI f).2.2 y<|g y a<|pc (ziv v y) y y y<|zJ (eg [34,35,36,37,38,39,40] 7 y y y y)) (fun hb=>(sm (bF hb c)).symm)<|zJ ?_
   refine zeh h y (fun n h=>?_) fun n h=>?_
   ·obtain ⟨B,H,h⟩:=bs h
    refine rdA [(8,_),(9,_),(10,_)] [some (10,[(zd B)])] [7] [0,1,2,3,4,5,6] [(8,_),(47,_),(46,_),(45,_),(44,_),(43,_),(42,_)] 1 (zgE (z:=by exact ⟨(fun _ _=>⟨_,y,y,sto ti y y y<|⟨.any,[8],[(10,_)],y,y,y,t,zhx (z:=zcs [.old 0])⟩⟩),t⟩)) ?_
    refine zK ?_
    obtain rfl:=sm h
    exact ⟨_,y,_,y,zbG []⟩
   ·refine zf<|A ?_
    obtain rfl:=sm h
    exact ⟨_,y,zH [.old 0]⟩
  ·refine zG ?_
   obtain rfl:=sm h
   exact ⟨y,_,y,zH [.old 0]⟩
 ·rintro ⟨⟩ rfl
  refine zv<|A ?_
  exact RT0⟩
def zfT(b:List za)(c:T2)(d:T0)(e:T0):Option (T0×zb×Bool):=
  (zak b c d).bind fun f=>(zij b c f e).bind fun a=>some (a.1,a.2.1,a.2.2)
instance (a:List za)(b:T2)(d:T0)(c:T0):PF Tryz.prog 124 [.ipt 2 [[.isl 6 (map zc a),.imp (map (rKV (fun x=>iA x)) b)]] 0 0,sA d,sA c] (zfT a b d c) (fun r=>(.tup [sA r.1,.agg (zd r.2.1),bA r.2.2])):=⟨fun r h=>by
 refine zj Tryz.func124 y kz y y<|A ?_
 obtain ⟨e,f,i,j,h⟩:=bs2 h
 refine A ?_
 refine u<|sx [] (zaE a b d f)<|zL (env0:=[(2,sA c),(7,.mpt 0 0 0),(9,.ipt 2 [[.isl 6 (map zc a),.imp (map (rKV (fun x=>iA x)) b)]] 0 0),(12,.msl 1 0 (length e))]) (st0:=[some (10,[[sA [],.lit (.slice none 0 0),sA [],bA false,bA false,iA 0,iA 0,.lit (.slice none 0 0),.lit (.slice none 0 0),.lit (.slice none 0 0)]]),some (1,map zn e)]) (zH [.old 0,.old 1])<|u<|mv y<|zL (env0:=[(7,.mpt 0 0 0),(9,.ipt 2 [[.isl 6 (map zc a),.imp (map (rKV (fun x=>iA x)) b)]] 0 0),(12,.isl 1 (map zn e)),(13,sA c)]) (st0:=[some (10,[[sA [],.lit (.slice none 0 0),sA [],bA false,bA false,iA 0,iA 0,.lit (.slice none 0 0),.lit (.slice none 0 0),.lit (.slice none 0 0)]])]) (zH [.old 0])<|A ?_
 exact RT0⟩
def ze1(a:zb):Bool:=
  true
theorem zmx(a:zb){r:Bool}(h:ze1 a=r):zaj Tryz.prog 329 [.agg (zd a)] (bA r):=by
 refine zj Tryz.func329 y kz y y ?_
 unfold ze1 at h
 refine A ?_
 refine A ?_
 refine zK ?_
 obtain rfl:=h
 exact ⟨_,y,zbG []⟩
instance (a:zb):PF Tryz.prog 329 [.agg (zd a)] (some (ze1 a)) bA:=.of fun _=>zmx a
def zpF:Option (T0×zb×Bool):=
  some ([],(zb.mk [] [] [] false false 0 0 [] [] []),false)
def zfo(l:List za)(m:T2)(e:T1)(n:T0)(a:Int):Option (Sum (Int) (Sum (Unit) (T0×zb×Bool))):=
  cond (decide (a<(length e:Int))) ((idx e a).bind fun d=>(zz l m d).bind fun b=>(zeG b.1 n).bind fun c=>(cond (decide (0≤c)) ((idx b.1.Methods c).bind fun f=>some (ze1 f)) (some false)).bind fun i=>cond i ((idx b.1.Methods c).bind fun j=>some (.inr (.inr (d,j,true)))) (some (.inl (IntKind.i64.wrap (a+1))))) (some (.inr (.inl ())))
def zjx(a:List za)(c:T2)(d:T1)(e:T0):Option (T0×zb×Bool):=
  (zm (fun z=>zfo a c d e z) 0).bind fun o=>zI o (fun b=>zpF) some
instance (i:List za)(l:T2)(d:T1)(e:T0):PF Tryz.prog 218 [.ipt 2 [[.isl 6 (map zc i),.imp (map (rKV (fun x=>iA x)) l)]] 0 0,.isl 1 (map zn d),sA e,.fn (.func 329) [] []] (zjx i l d e) (fun r=>(.tup [sA r.1,.agg (zd r.2.1),bA r.2.2])):=⟨fun r h=>by
 refine zj Tryz.func218 y kz y y<|A ?_
 refine zh<|A ?_
 obtain ⟨o,ho,h⟩:=bs h
 refine lpB ho (fun z=>[(0,.ipt 2 [[.isl 6 (map zc i),.imp (map (rKV (fun x=>iA x)) l)]] 0 0),(2,sA e),(3,.fn (.func 329) [] []),(9,.mpt 0 0 0),(16,.isl 1 (map zn d)),(17,iA (length d:Int)),(18,iA z)]) (fun z=>[some (10,[[sA [],.lit (.slice none 0 0),sA [],bA false,bA false,iA 0,iA 0,.lit (.slice none 0 0),.lit (.slice none 0 0),.lit (.slice none 0 0)]])]) (fun b=>[(9,.mpt 0 0 0)]) (fun b=>[some (10,[[sA [],.lit (.slice none 0 0),sA [],bA false,bA false,iA 0,iA 0,.lit (.slice none 0 0),.lit (.slice none 0 0),.lit (.slice none 0 0)]])]) (pG Tryz.f218 (fun r=>.tup [sA r.1,.agg (zd r.2.1),bA r.2.2])) (zcs [.old 0]) ?_ ?_
 ·rintro C r h
  refine A ?_
  refine zh ?_
  refine zeh h y (fun m h=>?_) fun m h=>?_
  ·refine zf<|zh<|zp ?_
   obtain ⟨D,E,h⟩:=bs h
   refine A ?_
   obtain ⟨p,F,h⟩:=bs h
   refine A ?_
   obtain ⟨G,q,h⟩:=bs h
   refine rg y<|u<|ld ti y y<|u<|mv y<|u<|pc (zge p.1 e q) y y y<|u<|asg y<|zJ ?_
   obtain ⟨s,c,h⟩:=bs h
   refine rg y<|u<|mv y<|u<|geq ti y y<|u<|mv y<|zik (x:=s) (j:=2) 7 y y y y y gpn (fun a=>by replace c:=bT a c;obtain ⟨v,f,c⟩:=bs c;obtain rfl:=sm c;exact g y a<|mv y<|g y a<|fa ti y y y<|g y a<|ld ti y y<|g y a<|mv y<|g y a<|ixI ti y ti y y y f<|g y a<|ldI ti y (zbI f).2.2 y<|g y a<|pc (zmx v y) y y y<|zJ (eg [34,35,36,37,38,39,40] 7 y y y y)) (fun hb=>(sm (bF hb c)).symm)<|zJ ?_
   refine zeh h y (fun n h=>?_) fun n h=>?_
   ·obtain ⟨B,H,h⟩:=bs h
    refine rdA [(8,_),(9,_),(10,_)] [some (10,[(zd B)])] [7] [0,1,2,3,4,5,6] [(8,_),(47,_),(46,_),(45,_),(44,_),(43,_),(42,_)] 1 (zgE (z:=by exact ⟨(fun _ _=>⟨_,y,y,sto ti y y y<|⟨.any,[8],[(10,_)],y,y,y,t,zhx (z:=zcs [.old 0])⟩⟩),t⟩)) ?_
    refine zK ?_
    obtain rfl:=sm h
    exact ⟨_,y,_,y,zbG []⟩
   ·refine zf<|A ?_
    obtain rfl:=sm h
    exact ⟨_,y,zH [.old 0]⟩
  ·refine zG ?_
   obtain rfl:=sm h
   exact ⟨y,_,y,zH [.old 0]⟩
 ·rintro ⟨⟩ rfl
  refine zv<|A ?_
  exact RT0⟩
def zii(a:List za)(b:T2)(c:T0)(e:T0):Option (T0×zb×Bool):=
  (zz a b c).bind fun f=>cond (!f.1.Interface) (some ([],(zb.mk [] [] [] false false 0 0 [] [] []),false)) ((zdB a b c).bind fun i=>(zgT 16 [c] i).bind fun j=>(zjx a b j e).bind fun d=>some (d.1,d.2.1,d.2.2))
instance (a:List za)(b:T2)(c:T0)(d:T0):PF Tryz.prog 252 [.ipt 2 [[.isl 6 (map zc a),.imp (map (rKV (fun x=>iA x)) b)]] 0 0,sA c,sA d] (zii a b c d) (fun r=>(.tup [sA r.1,.agg (zd r.2.1),bA r.2.2])):=⟨fun r h=>by
 refine zj Tryz.func252 y kz y y<|A ?_
 obtain ⟨n,o,h⟩:=bs h
 refine A ?_
 refine zh<|A ?_
 refine zeh h y (fun e h=>?_) fun e h=>?_
 ·refine A ?_
  exact RT0
 ·refine zf ?_
  obtain ⟨p,i,j,m,q,s,h⟩:=bs3 h
  refine A ?_
  refine u<|sx [] (zgi a b c i)<|u<|apM (l:=[c]) (f:=zn) 4 ti y ti y y (by decide) ti y y y y (roM y) (fun _=>y) y m<|u<|mv y<|zL (env0:=[(7,.mpt 0 0 0),(21,.ipt 2 [[.isl 6 (map zc a),.imp (map (rKV (fun x=>iA x)) b)]] 0 0),(27,.isl 1 (map zn j)),(28,sA d)]) (st0:=[some (10,[[sA [],.lit (.slice none 0 0),sA [],bA false,bA false,iA 0,iA 0,.lit (.slice none 0 0),.lit (.slice none 0 0),.lit (.slice none 0 0)]])]) (zH [.old 0])<|A ?_
  exact RT0⟩
def zfj(a:Bool):Option (Bool):=
  some a
def zgg(b:List za)(c:T2)(a:zl)(d:za×Bool)(e:Bool):Option (Bool):=
  cond e ((zfT b c a.C a.M).bind fun f=>zfj (f.2.2&&(!d.1.Interface))) (cond (a.Op == (45:Int)) ((zii b c a.C a.M).bind fun i=>zfj i.2.2) (zfj true))
def zfi(b:List za)(c:T2)(a:zl)(d:za×Bool)(e:Bool):Option (Bool):=
  cond e ((zgB b c a.C a.M).bind fun f=>zfj f.2.2) (cond (a.Op == (42:Int)) (zgg b c a d (a.Op == (42:Int))) (cond (a.Op == (43:Int)) (zgg b c a d (a.Op == (43:Int))) (zgg b c a d (a.Op == (44:Int)))))
def zjr(b:List za)(c:T2)(a:zl):Option (Bool):=
  (zz b c a.C).bind fun d=>cond (a.Op == (38:Int)) (zfi b c a d (a.Op == (38:Int))) (cond (a.Op == (39:Int)) (zfi b c a d (a.Op == (39:Int))) (cond (a.Op == (40:Int)) (zfi b c a d (a.Op == (40:Int))) (zfi b c a d (a.Op == (41:Int)))))
instance (b:List za)(c:T2)(a:zl):PF Tryz.prog 306 [.ipt 2 [[.isl 6 (map zc b),.imp (map (rKV (fun x=>iA x)) c)]] 0 0,.agg (zA a)] (zjr b c a) bA:=⟨fun r h=>by
 refine zj Tryz.func306 y kz y y<|A ?_
 obtain ⟨d,D,h⟩:=bs h
 refine A ?_
 refine A ?_
 refine zcX (X:=Bool) (fun z=>[(7,bA z)]) (fun z=>[]) (fun z=>zfj z=some r) ?_ ?_
 ·refine A ?_
  refine zp ?_
  refine zcX (X:=Bool) (fun z=>[(0,.ipt 2 [[.isl 6 (map zc b),.imp (map (rKV (fun x=>iA x)) c)]] 0 0),(3,.mpt 0 0 0),(5,.mpt 1 0 0),(7,bA true),(16,iA a.Op),(17,bA z)]) (fun z=>[some (4,[(zA a)]),some (6,[(zc d.1)])]) (fun z=>zfi b c a d z=some r) ?_ ?_
  ·refine A ?_
   refine zeh h y (fun f h=>?_) fun f h=>?_
   ·refine zf ?_
    exact ⟨(a.Op == (38:Int)),h,zH [.old 0,.old 1]⟩
   ·refine A ?_
    refine zeh h y (fun i h=>?_) fun i h=>?_
    ·refine zf ?_
     exact ⟨(a.Op == (39:Int)),h,zH [.old 0,.old 1]⟩
    ·refine A ?_
     refine zeh h y (fun j h=>?_) fun j h=>?_
     ·refine zf ?_
      exact ⟨(a.Op == (40:Int)),h,zH [.old 0,.old 1]⟩
     ·refine A ?_
      exact (⟨(a.Op == (41:Int)),h,zH [.old 0,.old 1]⟩)
  ·rintro E h
   refine zeh h y (fun l h=>?_) fun l h=>?_
   ·obtain ⟨p,F,h⟩:=bs h
    refine A ?_
    exact (⟨p.2.2,h,zH []⟩)
   ·refine zcX (X:=Bool) (fun z=>[(0,.ipt 2 [[.isl 6 (map zc b),.imp (map (rKV (fun x=>iA x)) c)]] 0 0),(3,.mpt 0 0 0),(5,.mpt 1 0 0),(7,bA true),(16,iA a.Op),(32,bA z)]) (fun z=>[some (4,[(zA a)]),some (6,[(zc d.1)])]) (fun z=>zgg b c a d z=some r) ?_ ?_
    ·refine A ?_
     refine zeh h y (fun m h=>?_) fun m h=>?_
     ·refine zf ?_
      exact ⟨(a.Op == (42:Int)),h,zH [.old 0,.old 1]⟩
     ·refine A ?_
      refine zeh h y (fun n h=>?_) fun n h=>?_
      ·refine zf ?_
       exact ⟨(a.Op == (43:Int)),h,zH [.old 0,.old 1]⟩
      ·refine A ?_
       exact (⟨(a.Op == (44:Int)),h,zH [.old 0,.old 1]⟩)
    ·rintro G h
     refine zeh h y (fun o h=>?_) fun o h=>?_
     ·obtain ⟨q,v,h⟩:=bs h
      refine A ?_
      refine A ?_
      exact (⟨(q.2.2&&(!d.1.Interface)),h,zH []⟩)
     ·refine A ?_
      refine zeh h y (fun e h=>?_) fun e h=>?_
      ·obtain ⟨s,B,h⟩:=bs h
       refine A ?_
       exact (⟨s.2.2,h,zH []⟩)
      ·refine zf ?_
       exact ⟨true,h,zH []⟩
 ·rintro C h
  refine A ?_
  exact RT0⟩
def zgV(a:zl)(b:List za)(c:T2)(d:List za)(e:T2):Option (Bool):=
  (zdZ a.C b c).bind fun f=>(cond f (some true) ((zjr d e a).bind fun i=>some (!i))).bind fun j=>some j
instance (a:zl)(b:List za)(c:T2)(d:List za)(e:T2):PF Tryz.prog 305 [.agg (zA a),.ipt 1 [[.fn (.func 299) [] [.ipt 1 [[.ipt 2 [[.isl 6 (map zc b),.imp (map (rKV (fun x=>iA x)) c)]] 0 0]] 0 0]]] 0 0,.ipt 1 [[.ipt 2 [[.isl 6 (map zc d),.imp (map (rKV (fun x=>iA x)) e)]] 0 0]] 0 0] (zgV a b c d e) bA:=⟨fun r h=>by
 refine zj Tryz.func305 y kz y y<|A ?_
 obtain ⟨f,i,j,l,h⟩:=bs2 h
 refine A ?_
 exact RT0⟩
def zdH:Option (Int):=
  some (-1)
def zaR(b:List zl)(e:List za)(f:T2)(i:List za)(j:T2)(a:Int):Option (Sum (Int) (Sum (Unit) (Int))):=
  cond (decide (a<(length b:Int))) ((idx b a).bind fun c=>(zgV c e f i j).bind fun d=>cond d (some (.inr (.inr a))) (some (.inl (IntKind.i64.wrap (a+1))))) (some (.inr (.inl ())))
def zcj(a:List zl)(c:List za)(d:T2)(e:List za)(f:T2):Option (Int):=
  (zm (fun z=>zaR a c d e f z) 0).bind fun o=>zI o (fun b=>zdH) some
instance (a:List zl)(c:List za)(d:T2)(e:List za)(f:T2):PF Tryz.prog 349 [.isl 4 (map zA a),.fn (.func 305) [] [.ipt 1 [[.fn (.func 299) [] [.ipt 1 [[.ipt 2 [[.isl 6 (map zc c),.imp (map (rKV (fun x=>iA x)) d)]] 0 0]] 0 0]]] 0 0,.ipt 1 [[.ipt 2 [[.isl 6 (map zc e),.imp (map (rKV (fun x=>iA x)) f)]] 0 0]] 0 0]] (zcj a c d e f) iA:=⟨fun r h=>by
 refine zj Tryz.func349 y kz y y<|A ?_
 refine zh<|A ?_
 obtain ⟨o,ho,h⟩:=bs h
 refine lpB ho (fun z=>[(0,.isl 4 (map zA a)),(1,.fn (.func 305) [] [.ipt 1 [[.fn (.func 299) [] [.ipt 1 [[.ipt 2 [[.isl 6 (map zc c),.imp (map (rKV (fun x=>iA x)) d)]] 0 0]] 0 0]]] 0 0,.ipt 1 [[.ipt 2 [[.isl 6 (map zc e),.imp (map (rKV (fun x=>iA x)) f)]] 0 0]] 0 0]),(7,iA (length a:Int)),(8,iA z)]) (fun z=>[]) (fun b=>[]) (fun b=>[]) (pG Tryz.f349 iA) (zcs []) ?_ ?_
 ·rintro n r h
  refine A ?_
  refine zh ?_
  refine zeh h y (fun i h=>?_) fun i h=>?_
  ·refine zf<|zh<|zp<|A ?_
   obtain ⟨l,p,m,q,h⟩:=bs2 h
   refine A ?_
   refine zeh h y (fun j h=>?_) fun j h=>?_
   ·refine A ?_
    refine zK ?_
    obtain rfl:=sm h
    exact ⟨_,y,_,y,zbG []⟩
   ·refine zf<|A ?_
    obtain rfl:=sm h
    exact ⟨_,y,zH []⟩
  ·refine zG ?_
   obtain rfl:=sm h
   exact ⟨y,_,y,zH []⟩
 ·rintro ⟨⟩ rfl
  refine zv<|A ?_
  exact RT0⟩
def zaQ(a:List zl)(b:List za)(c:T2)(d:List za)(e:T2):Option (Bool):=
  (zcj a b c d e).bind fun f=>some (decide (0≤f))
instance (a:List zl)(b:List za)(c:T2)(d:List za)(e:T2):PF Tryz.prog 304 [.isl 4 (map zA a),.fn (.func 305) [] [.ipt 1 [[.fn (.func 299) [] [.ipt 1 [[.ipt 2 [[.isl 6 (map zc b),.imp (map (rKV (fun x=>iA x)) c)]] 0 0]] 0 0]]] 0 0,.ipt 1 [[.ipt 2 [[.isl 6 (map zc d),.imp (map (rKV (fun x=>iA x)) e)]] 0 0]] 0 0]] (zaQ a b c d e) bA:=⟨fun r h=>by
 refine zj Tryz.func304 y kz y y<|A ?_
 obtain ⟨f,i,h⟩:=bs h
 refine A ?_
 exact RT0⟩
def zed:Option (Int):=
  some (-1)
def zba(b:T1)(c:List za)(d:T2)(a:Int):Option (Sum (Int) (Sum (Unit) (Int))):=
  cond (decide (a<(length b:Int))) ((idx b a).bind fun e=>(zdZ e c d).bind fun f=>cond f (some (.inr (.inr a))) (some (.inl (IntKind.i64.wrap (a+1))))) (some (.inr (.inl ())))
def zcN(a:T1)(c:List za)(d:T2):Option (Int):=
  (zm (fun z=>zba a c d z) 0).bind fun o=>zI o (fun b=>zed) some
instance (a:T1)(c:List za)(d:T2):PF Tryz.prog 181 [.isl 1 (map zn a),.fn (.func 299) [] [.ipt 1 [[.ipt 2 [[.isl 6 (map zc c),.imp (map (rKV (fun x=>iA x)) d)]] 0 0]] 0 0]] (zcN a c d) iA:=⟨fun r h=>by
 refine zj Tryz.func181 y kz y y<|A ?_
 refine zh<|A ?_
 obtain ⟨o,ho,h⟩:=bs h
 refine lpB ho (fun z=>[(0,.isl 1 (map zn a)),(1,.fn (.func 299) [] [.ipt 1 [[.ipt 2 [[.isl 6 (map zc c),.imp (map (rKV (fun x=>iA x)) d)]] 0 0]] 0 0]),(7,iA (length a:Int)),(8,iA z)]) (fun z=>[]) (fun b=>[]) (fun b=>[]) (pG Tryz.f181 iA) (zcs []) ?_ ?_
 ·rintro i r h
  refine A ?_
  refine zh ?_
  refine zeh h y (fun e h=>?_) fun e h=>?_
  ·refine zf<|zh<|zp<|A ?_
   obtain ⟨j,l,m,n,h⟩:=bs2 h
   refine A ?_
   refine zeh h y (fun f h=>?_) fun f h=>?_
   ·refine A ?_
    refine zK ?_
    obtain rfl:=sm h
    exact ⟨_,y,_,y,zbG []⟩
   ·refine zf<|A ?_
    obtain rfl:=sm h
    exact ⟨_,y,zH []⟩
  ·refine zG ?_
   obtain rfl:=sm h
   exact ⟨y,_,y,zH []⟩
 ·rintro ⟨⟩ rfl
  refine zv<|A ?_
  exact RT0⟩
def za3(a:T1)(b:List za)(c:T2):Option (Bool):=
  (zcN a b c).bind fun d=>some (decide (0≤d))
instance (a:T1)(b:List za)(c:T2):PF Tryz.prog 99 [.isl 1 (map zn a),.fn (.func 299) [] [.ipt 1 [[.ipt 2 [[.isl 6 (map zc b),.imp (map (rKV (fun x=>iA x)) c)]] 0 0]] 0 0]] (za3 a b c) bA:=⟨fun r h=>by
 refine zj Tryz.func99 y kz y y<|A ?_
 obtain ⟨d,e,h⟩:=bs h
 refine A ?_
 exact RT0⟩
def zh3(a:zb)(b:List za)(c:T2)(e:List za)(f:T2):Option (Bool):=
  (zaJ a.Traps b c).bind fun i=>(zaQ a.Code b c e f).bind fun j=>(zdZ a.Ret b c).bind fun l=>(cond l (some true) ((za3 a.Params b c).bind fun m=>some m)).bind fun d=>some ((d||i)||j)
instance (a:zb)(b:List za)(c:T2)(d:List za)(e:T2):PF Tryz.prog 301 [.agg (zd a),.ipt 1 [[.fn (.func 299) [] [.ipt 1 [[.ipt 2 [[.isl 6 (map zc b),.imp (map (rKV (fun x=>iA x)) c)]] 0 0]] 0 0]]] 0 0,.ipt 1 [[.ipt 2 [[.isl 6 (map zc d),.imp (map (rKV (fun x=>iA x)) e)]] 0 0]] 0 0] (zh3 a b c d e) bA:=⟨fun r h=>by
 refine zj Tryz.func301 y kz y y<|A ?_
 obtain ⟨i,j,h⟩:=bs h
 refine A ?_
 obtain ⟨l,m,h⟩:=bs h
 refine A ?_
 obtain ⟨n,o,f,p,h⟩:=bs2 h
 refine A ?_
 exact RT0⟩
def zcx:Option (Int):=
  some (-1)
def zam(b:List zb)(e:List za)(f:T2)(i:List za)(j:T2)(a:Int):Option (Sum (Int) (Sum (Unit) (Int))):=
  cond (decide (a<(length b:Int))) ((idx b a).bind fun c=>(zh3 c e f i j).bind fun d=>cond d (some (.inr (.inr a))) (some (.inl (IntKind.i64.wrap (a+1))))) (some (.inr (.inl ())))
def zbu(a:List zb)(c:List za)(d:T2)(e:List za)(f:T2):Option (Int):=
  (zm (fun z=>zam a c d e f z) 0).bind fun o=>zI o (fun b=>zcx) some
instance (a:List zb)(c:List za)(d:T2)(e:List za)(f:T2):PF Tryz.prog 225 [.isl 10 (map zd a),.fn (.func 301) [] [.ipt 1 [[.fn (.func 299) [] [.ipt 1 [[.ipt 2 [[.isl 6 (map zc c),.imp (map (rKV (fun x=>iA x)) d)]] 0 0]] 0 0]]] 0 0,.ipt 1 [[.ipt 2 [[.isl 6 (map zc e),.imp (map (rKV (fun x=>iA x)) f)]] 0 0]] 0 0]] (zbu a c d e f) iA:=⟨fun r h=>by
 refine zj Tryz.func225 y kz y y<|A ?_
 refine zh<|A ?_
 obtain ⟨o,ho,h⟩:=bs h
 refine lpB ho (fun z=>[(0,.isl 10 (map zd a)),(1,.fn (.func 301) [] [.ipt 1 [[.fn (.func 299) [] [.ipt 1 [[.ipt 2 [[.isl 6 (map zc c),.imp (map (rKV (fun x=>iA x)) d)]] 0 0]] 0 0]]] 0 0,.ipt 1 [[.ipt 2 [[.isl 6 (map zc e),.imp (map (rKV (fun x=>iA x)) f)]] 0 0]] 0 0]),(7,iA (length a:Int)),(8,iA z)]) (fun z=>[]) (fun b=>[]) (fun b=>[]) (pG Tryz.f225 iA) (zcs []) ?_ ?_
 ·rintro n r h
  refine A ?_
  refine zh ?_
  refine zeh h y (fun i h=>?_) fun i h=>?_
  ·refine zf<|zh<|zp<|A ?_
   obtain ⟨l,p,m,q,h⟩:=bs2 h
   refine A ?_
   refine zeh h y (fun j h=>?_) fun j h=>?_
   ·refine A ?_
    refine zK ?_
    obtain rfl:=sm h
    exact ⟨_,y,_,y,zbG []⟩
   ·refine zf<|A ?_
    obtain rfl:=sm h
    exact ⟨_,y,zH []⟩
  ·refine zG ?_
   obtain rfl:=sm h
   exact ⟨y,_,y,zH []⟩
 ·rintro ⟨⟩ rfl
  refine zv<|A ?_
  exact RT0⟩
def zX(a:List zb)(b:List za)(c:T2)(d:List za)(e:T2):Option (Bool):=
  (zbu a b c d e).bind fun f=>some (decide (0≤f))
theorem zb5(a:List zb)(b:List za)(c:T2)(d:List za)(e:T2){r:Bool}(h:zX a b c d e=some r):zaj Tryz.prog 239 [.isl 10 (map zd a),.fn (.func 301) [] [.ipt 1 [[.fn (.func 299) [] [.ipt 1 [[.ipt 2 [[.isl 6 (map zc b),.imp (map (rKV (fun x=>iA x)) c)]] 0 0]] 0 0]]] 0 0,.ipt 1 [[.ipt 2 [[.isl 6 (map zc d),.imp (map (rKV (fun x=>iA x)) e)]] 0 0]] 0 0]] (bA r):=by
 refine zj Tryz.func239 y kz y y<|A ?_
 obtain ⟨f,i,h⟩:=bs h
 refine A ?_
 exact RT0
instance (a:List zb)(b:List za)(c:T2)(d:List za)(e:T2):PF Tryz.prog 239 [.isl 10 (map zd a),.fn (.func 301) [] [.ipt 1 [[.fn (.func 299) [] [.ipt 1 [[.ipt 2 [[.isl 6 (map zc b),.imp (map (rKV (fun x=>iA x)) c)]] 0 0]] 0 0]]] 0 0,.ipt 1 [[.ipt 2 [[.isl 6 (map zc d),.imp (map (rKV (fun x=>iA x)) e)]] 0 0]] 0 0]] (zX a b c d e) bA:=⟨fun _=>zb5 a b c d e⟩
def zia(a:List za)(b:T2)(c:za):Option (Bool):=
  (zab c.Fields a b).bind fun d=>(zX c.Methods a b a b).bind fun e=>some ((!d)&&(!e))
theorem zlo(a:List za)(b:T2)(c:za){r:Bool}(h:zia a b c=some r):zaj Tryz.prog 213 [.ipt 2 [[.isl 6 (map zc a),.imp (map (rKV (fun x=>iA x)) b)]] 0 0,.agg (zc c)] (bA r):=by
 refine zj Tryz.func213 y kz y y<|A ?_
 refine A ?_
 obtain ⟨f,d,h⟩:=bs h
 refine A ?_
 refine u<|pcs (zcr c.Fields a b d) y y (.cons (si y) (.cons (zfx t ⟨(zbY y ⟨(zfx t ⟨(zbY y ⟨(si y),t⟩),t⟩),t⟩),t⟩) .nil)) zbQ<|A ?_
 obtain ⟨i,e,h⟩:=bs h
 refine A ?_
 refine u<|pcs (zb5 c.Methods a b a b e) y y (.cons (si y) (.cons (zfx t ⟨(zbY y ⟨(zfx t ⟨(zbY y ⟨(si y),t⟩),t⟩),t⟩),(zbY y ⟨(si y),t⟩),t⟩) .nil)) zbQ<|A ?_
 refine A ?_
 exact RT0
instance (a:List za)(b:T2)(c:za):PF Tryz.prog 213 [.ipt 2 [[.isl 6 (map zc a),.imp (map (rKV (fun x=>iA x)) b)]] 0 0,.agg (zc c)] (zia a b c) bA:=⟨fun _=>zlo a b c⟩

end
end Go.Proofs.YthmnlfenkhmmhaaGreat
