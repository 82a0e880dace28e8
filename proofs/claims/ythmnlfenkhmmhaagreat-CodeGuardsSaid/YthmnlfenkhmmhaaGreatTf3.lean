/- What the proofs of this seat's laws rest on: how the program's functions compute, each for every input. No further condition. Part 3 of 8. -/
import Derived.Test.YthmnlfenkhmmhaaGreatTf2
namespace Go.Proofs.YthmnlfenkhmmhaaGreat
noncomputable section
open List (length map)
set_option linter.unusedVariables false
set_option linter.unusedSectionVars false
set_option linter.unusedSimpArgs false
set_option maxRecDepth 100000
set_option maxHeartbeats 4000000
structure Zz(q:Prop):Prop where
 z:q
inductive LsE:List AV→List AV→Prop
 |nil:LsE [] []
 |cons {x:AV} {l l':List AV}:LsE l l'→LsE (x ::l) (x ::l')
theorem LsE.eq{l l':List AV}(h:LsE l l'):l=l':=by
 induction h with
 |nil=>rfl
 |cons _ ih=>rw [ih]
section
variable {P : Program} {env : Ev} {st : St} {d : Nat} {ty : TypeId} {pos : String} {aft : Array Edge} {gu : Option (Nat × Bool)} {K : Ev → St → Prop}
theorem ldR{t:TypeId}{x:Operand}{ti:TI}{p:AV}{r:List AV}(ht:zcg P t=some ti)(hx:ev env x=some p)(hr:zrz st p=some (r,0))(hv:zwh ti r 0=some (.agg r))(k:K ((d,.agg r)::env) st):SOp P ⟨some d,.load t x,ty,pos,aft,gu⟩ env st K:=ld ht hx ((zqQ hr).trans hv) k
theorem ldJ{α:Type}{t:TypeId}{x:Operand}{ti:TI}{sz i:Nat}{l:List α}{f:α→List AV}{c:α}(ht:zcg P t=some ti)(hx:ev env x=some (.ipt sz (l.map f) i 0))(h:l[i]?=some c)(hv:zwh ti (f c) 0=some (.agg (f c)))(k:K ((d,.agg (f c))::env) st):SOp P ⟨some d,.load t x,ty,pos,aft,gu⟩ env st K:=ldI ht hx h hv k
theorem ldQ{α:Type}{t:TypeId}{x:Operand}{ti:TI}{sz b i:Nat}{l:List α}{f:α→List AV}{c:α}(ht:zcg P t=some ti)(hx:ev env x=some (.mpt b i 0))(hb:st[b]?=some (some (sz,l.map f)))(h:l[i]?=some c)(hv:zwh ti (f c) 0=some (.agg (f c)))(k:K ((d,.agg (f c))::env) st):SOp P ⟨some d,.load t x,ty,pos,aft,gu⟩ env st K:=ldM ht hx hb h hv k
theorem gLd{t:TypeId}{x:Operand}(h:SOp P ⟨some d,.load t x,ty,pos,aft,gu⟩ env st K):SOp P ⟨some d,.load t x,ty,pos,aft,gu⟩ env st K:=h
theorem zG8{o:BinOp}{t u':TypeId}{x y:Operand}(h:SOp P ⟨some d,.binOp o t x y u',ty,pos,aft,gu⟩ env st K):SOp P ⟨some d,.binOp o t x y u',ty,pos,aft,gu⟩ env st K:=h
theorem zGr{c:Call}(h:SOp P ⟨some d,.call c,ty,pos,aft,gu⟩ env st K):SOp P ⟨some d,.call c,ty,pos,aft,gu⟩ env st K:=h
theorem gPk{c x y:Operand}(h:SOp P ⟨some d,.pick c x y,ty,pos,aft,gu⟩ env st K):SOp P ⟨some d,.pick c x y,ty,pos,aft,gu⟩ env st K:=h
theorem gIx{t:TypeId}{x y:Operand}(h:SOp P ⟨some d,.indexAddr t x y,ty,pos,aft,gu⟩ env st K):SOp P ⟨some d,.indexAddr t x y,ty,pos,aft,gu⟩ env st K:=h
end
class PF(P:Program)(f:FuncId)(args:List AV){R:outParam Type}(m:outParam (Option R))(enc:outParam (R→AV)):Prop where
 ok:∀r,m=some r→zan P f args (enc r)
theorem PF.of{P:Program}{f:FuncId}{args:List AV}{R:Type}{x:R}{enc:R→AV}(h:∀r,x=r→zan P f args (enc r)):PF P f args (some x) enc:=⟨fun r e=>h r (Option.some.inj e)⟩
theorem pcI{P:Program}{env:Ev}{st:St}{d:Nat}{ty:TypeId}{pos:String}{aft:Array Edge}{gu:Option (Nat×Bool)}{K:Ev→St→Prop}{c:Call}{g:FuncId}{args args':List AV}{R:Type}{m:Option R}{enc:R→AV}{r:R}(hc:zhF (.call c)=true)(hg:zo2 env (.call c)=some (g,args))(he:LsE args args')(hi:ziv args'=true)(pf:PF P g args' m enc)(q:m=some r)
  (k:K ((d,enc r)::env) st):SOp P ⟨some d,.call c,ty,pos,aft,gu⟩ env st K:=by
 have e:=he.eq;subst e;exact pc (pf.ok r q) hc hg hi k
theorem opS{p q:Prop}(z:q)(h:Zz q→p:=by (intro z;(first |((with_reducible apply mv);exact rfl) |((with_reducible apply fa);exact ti;exact rfl;exact rfl;exact rfl) |((with_reducible apply gLd);(first |((with_reducible apply ldR);exact ti;exact rfl;exact rfl;exact rfl) |((with_reducible apply ldJ);exact ti;exact rfl;exact (zt (by assumption)).2.2;exact rfl) |((with_reducible apply ldQ);exact ti;exact rfl;exact rfl;exact (zt (by assumption)).2.2;exact rfl) |((with_reducible apply ld);exact ti;exact rfl;exact rfl) |((with_reducible apply ldI);exact ti;exact rfl;exact (zt (by assumption)).2.2;exact rfl) |((with_reducible apply ldM);exact ti;exact rfl;exact rfl;exact (zt (by assumption)).2.2;exact rfl))) |((with_reducible apply asg);exact rfl) |((with_reducible apply zG8);(first |((with_reducible apply eql);exact ti;exact rfl;exact rfl) |((with_reducible apply lss);exact ti;exact rfl;exact rfl) |((with_reducible apply geq);exact ti;exact rfl;exact rfl) |((with_reducible apply seq);exact ti;exact rfl;exact rfl) |((with_reducible apply add);exact ti;exact rfl;exact rfl) |((with_reducible apply leq);exact ti;exact rfl;exact rfl) |((with_reducible apply sne);exact ti;exact rfl;exact rfl) |((with_reducible apply gtr);exact ti;exact rfl;exact rfl) |((with_reducible apply neq);exact ti;exact rfl;exact rfl) |((with_reducible apply sub);exact ti;exact rfl;exact rfl) |((with_reducible apply mul);exact ti;exact rfl;exact rfl) |((with_reducible apply beq);exact ti;exact rfl;exact rfl;exact rfl) |((with_reducible apply bne);exact ti;exact rfl;exact rfl;exact rfl) |((with_reducible apply slt);exact ti;exact rfl;exact rfl) |((with_reducible apply quo);exact ti;exact rfl;exact rfl;exact (by assumption)) |((with_reducible apply rem);exact ti;exact rfl;exact rfl;exact (by assumption)) |((with_reducible apply zHi);exact ti;exact rfl;exact rfl;exact (by assumption)) |((with_reducible apply shl);exact ti;exact rfl;exact rfl;exact (by assumption)) |((with_reducible apply shr);exact ti;exact rfl;exact rfl;exact (by assumption)) |((with_reducible apply nep);exact ti;exact rfl;exact rfl;exact rfl;exact rfl;exact rfl;exact rfl) |((with_reducible apply eqp);exact ti;exact rfl;exact rfl;exact rfl;exact rfl;exact rfl;exact rfl))) |((with_reducible apply zGr);(first |((with_reducible apply lnI);exact ti;exact rfl;exact rfl) |((with_reducible apply lnS);exact ti;exact rfl;exact rfl) |((with_reducible apply lnM);exact ti;exact rfl;exact rfl;exact rfl) |((with_reducible apply lnN);exact ti;exact rfl;exact rfl) |((with_reducible apply pcI);exact rfl;exact rfl;(repeat (first |exact LsE.nil |apply LsE.cons));exact rfl;exact inferInstance;(first |with_reducible exact rfl |assumption)))) |((with_reducible apply nc);exact rfl;exact rfl) |((with_reducible apply ex);exact rfl;exact rfl) |((with_reducible apply nt);exact rfl) |((with_reducible apply sto);exact ti;exact rfl;exact rfl;exact rfl) |((with_reducible apply gIx);(first |((with_reducible apply ixI);exact ti;exact rfl;exact ti;exact rfl;exact rfl;exact rfl;exact (by assumption)) |((with_reducible apply ixM);exact ti;exact rfl;exact ti;exact rfl;exact rfl;exact rfl;exact rfl;exact (by assumption)))) |((with_reducible apply ixS);exact ti;exact rfl;exact rfl;exact rfl;exact (by assumption)) |((with_reducible apply bd);exact ti;exact rfl;exact rfl;exact rfl) |((with_reducible apply mf);exact rfl;exact rfl) |((with_reducible apply fdV);exact rfl;exact rfl) |((with_reducible apply al);exact ti;(first |exact (rfl:_=0) |exact (rfl:_=1) |exact (rfl:_=2) |exact (rfl:_=3) |exact (rfl:_=4) |exact (rfl:_=5) |exact (rfl:_=6) |exact (rfl:_=7) |exact (rfl:_=8))) |((with_reducible apply bx);exact rfl;exact rfl;(first |exact (rfl:_=1) |exact (rfl:_=2) |exact (rfl:_=3) |exact (rfl:_=4) |exact (rfl:_=5) |exact (rfl:_=6) |exact (rfl:_=7) |exact (rfl:_=8) |exact (rfl:_=9) |exact (rfl:_=10) |exact (rfl:_=11) |exact (rfl:_=12) |exact (rfl:_=13) |exact (rfl:_=14) |exact (rfl:_=15) |exact (rfl:_=16));(first |exact (rfl:_=0) |exact (rfl:_=1) |exact (rfl:_=2) |exact (rfl:_=3) |exact (rfl:_=4) |exact (rfl:_=5) |exact (rfl:_=6) |exact (rfl:_=7) |exact (rfl:_=8))) |((with_reducible apply bl);exact ti;exact rfl;exact ti;(first |exact (rfl:_=1) |exact (rfl:_=2) |exact (rfl:_=3) |exact (rfl:_=4) |exact (rfl:_=5) |exact (rfl:_=6) |exact (rfl:_=7) |exact (rfl:_=8) |exact (rfl:_=9) |exact (rfl:_=10) |exact (rfl:_=11) |exact (rfl:_=12) |exact (rfl:_=13) |exact (rfl:_=14) |exact (rfl:_=15) |exact (rfl:_=16));decide;decide;exact rfl;exact rfl;(first |exact (rfl:_=0) |exact (rfl:_=1) |exact (rfl:_=2) |exact (rfl:_=3) |exact (rfl:_=4) |exact (rfl:_=5) |exact (rfl:_=6) |exact (rfl:_=7) |exact (rfl:_=8))) |((with_reducible apply ng);exact rfl) |((with_reducible apply gPk);(first |((with_reducible apply pk (b:=true));exact rfl;exact rfl) |((with_reducible apply pk (b:=false));exact rfl;exact rfl) |((with_reducible apply pkb);exact rfl;exact (by assumption);exact rfl))));exact z.1)):p:=h ⟨z⟩
def zw0(w:Bool):List Oper→Option Nat
 | []=>none
 |o :: _=>match o.guard with |some (j,x)=>(match x == w with |true=>some j |false=>none) |none=>none
inductive Ext:List Nat→Ev→Ev→Prop
 |z (e:Ev):Ext [] e e
 |s {a:Nat} {x:AV} {ds:List Nat} {e' e:Ev}:Ext ds e' e→Ext (a ::ds) ((a,x)::e') e
theorem Ext.look'{ds:List Nat}{e' e:Ev}(h:Ext ds e' e){t:Nat}{v:AV}(hl:look e t=some v):t ∉ ds→look e' t=some v:=by
 induction h with
 |z e=>exact fun _=>hl
 | @s a x ds e' e h ih =>
  intro hn;have h1:=ih hl (fun hm=>hn (Jh _ hm));have h2:a≠t:=fun e=>hn (e ▸ List.mem_cons_self);simpa [look,h2] using h1
theorem Ext.look{ds:List Nat}{e' e:Ev}(h:Ext ds e' e)(hk:zdY ds e=true):∀t v,look e t=some v→look e' t=some v:=fun t v hl=>h.look' hl (zeF hk hl)
inductive Spl:List Oper→List Oper→List Oper→Prop
 |z (l:List Oper):Spl [] l l
 |s {o:Oper} {a l r:List Oper}:Spl a l r→Spl (o ::a) (o ::l) r
theorem Spl.eq{a l r:List Oper}(h:Spl a l r):l.take a.length=a∧l.drop a.length=r:=by
 induction h with
 |z l=>exact ⟨by simp,by simp⟩
 |s _ ih=>exact ⟨by simp [ih.1],by simp [ih.2]⟩
section
variable {P : Program} {n nb0 : Nat} {all l1 l2 lk : List Oper} {K : Ev → St → Prop} {env env' : Ev} {st : St}
theorem egB{ds:List Nat}{y:Operand}{b v:Bool}(hb:b=true)(h1:Ext ds env' env)(h2:zdY ds env=true)(h4:ev env' y=some (.lit (.bool v))):zyI env st y (b&&v) env' st:=⟨rfl,h1.look h2,by rw [hb];exact h4⟩
theorem egC{ds:List Nat}{y:Operand}{b v:Bool}(hb:b=false)(h1:Ext ds env' env)(h2:zdY ds env=true)(h4:ev env' y=some (.lit (.bool v))):zyI env st y (b||v) env' st:=⟨rfl,h1.look h2,by rw [hb];exact h4⟩
theorem hAA{p:Prop}(h:p:=by (intro hb;refine A ?_;apply egB hb;(repeat (first |exact Ext.z _ |apply Ext.s));exact rfl;exact rfl)):p:=h
theorem hOA{p:Prop}(h:p:=by (intro hb;refine A ?_;apply egC hb;(repeat (first |exact Ext.z _ |apply Ext.s));exact rfl;exact rfl)):p:=h
theorem aA{dp c:Nat}{y:Operand}{ty':TypeId}{pos':String}{aft':Array Edge}{gp:Option (Nat×Bool)}{j:Nat}{b v:Bool}{l:List Oper}(hj0:zw0 true l1=some j)(hj:(all[j]?).bind (·.dst)=some c)
  (hs:Spl lk l1 (⟨some dp,.pick (.tmp c) y (.const (.bool false)),ty',pos',aft',gp⟩::l)) (hc:look env c=some (.lit (.bool b))) (hg:zBh all j true [] lk=true) (hk:zdY (zom lk) env=true)
  (hgp:∀env':Ev,(∀t v,look env t=some v→look env' t=some v)→zg6 all env' ⟨some dp,.pick (.tmp c) y (.const (.bool false)),ty',pos',aft',gp⟩=some true)
  (hT:b=true→SR P n nb0 all lk ((⟨some dp,.pick (.tmp c) y (.const (.bool false)),ty',pos',aft',gp⟩::l)++l2) (zyI env st y (b&&v)) env st)
  (h:SR P n nb0 all l l2 K ((dp,.lit (.bool (b&&v)))::env) st):SR P n nb0 all l1 l2 K env st:=
 zgn lk.length hs.eq.2 hj hc (hs.eq.1.symm ▸ hg) (hs.eq.1.symm ▸ hk) hgp (hs.eq.1.symm ▸ hs.eq.2.symm ▸ hT) zue h
theorem oA{dp c:Nat}{y:Operand}{ty':TypeId}{pos':String}{aft':Array Edge}{gp:Option (Nat×Bool)}{j:Nat}{b v:Bool}{l:List Oper}(hj0:zw0 false l1=some j)(hj:(all[j]?).bind (·.dst)=some c)
  (hs:Spl lk l1 (⟨some dp,.pick (.tmp c) (.const (.bool true)) y,ty',pos',aft',gp⟩::l)) (hc:look env c=some (.lit (.bool b))) (hg:zBh all j false [] lk=true) (hk:zdY (zom lk) env=true)
  (hgp:∀env':Ev,(∀t v,look env t=some v→look env' t=some v)→zg6 all env' ⟨some dp,.pick (.tmp c) (.const (.bool true)) y,ty',pos',aft',gp⟩=some true)
  (hF:b=false→SR P n nb0 all lk ((⟨some dp,.pick (.tmp c) (.const (.bool true)) y,ty',pos',aft',gp⟩::l)++l2) (zyI env st y (b||v)) env st)
  (h:SR P n nb0 all l l2 K ((dp,.lit (.bool (b||v)))::env) st):SR P n nb0 all l1 l2 K env st:=
 ztF lk.length hs.eq.2 hj hc (hs.eq.1.symm ▸ hg) (hs.eq.1.symm ▸ hk) hgp (hs.eq.1.symm ▸ hs.eq.2.symm ▸ hF) orT h
end
section
variable {P : Program} {n nb0 : Nat} {all l1 l2 lk : List Oper} {K : Ev → St → Prop} {env env' : Ev} {st : St}
theorem egD{ds:List Nat}{y:Operand}{e x:Bool}(he:e=x)(h1:Ext ds env' env)(h2:zdY ds env=true)(h4:ev env' y=some (.lit (.bool e))):zyI env st y x env' st:=⟨rfl,h1.look h2,by rw [←he];exact h4⟩
def Imp(a p:Prop):Prop:=a→p
theorem bI{α β:Type}{p:Prop}{m:Option α}{k:α→Option β}{r:β}(f:∀x,m=some x→Imp (k x=some r) p):Imp (m.bind k=some r) p:=fun h=>by
 obtain ⟨x,h1,h2⟩:=bs h;exact f x h1 h2
theorem sI{β:Type}{p:Prop}{a r:β}(f:a=r→p):Imp (some a=some r) p:=fun h=>f (sm h)
theorem hQA{p:Prop}(h:p:=by (intro hb;(repeat ((with_reducible apply bI);intro _ _));(with_reducible apply sI);intro hq;refine A ?_;apply egD hq;(repeat (first |exact Ext.z _ |apply Ext.s));exact rfl;exact rfl)):p:=h
theorem aQ{dp c:Nat}{y:Operand}{ty':TypeId}{pos':String}{aft':Array Edge}{gp:Option (Nat×Bool)}{j:Nat}{b x:Bool}{m:Option Bool}{l:List Oper}(hj0:zw0 true l1=some j)(hj:(all[j]?).bind (·.dst)=some c)(hc:look env c=some (.lit (.bool b)))(q:cond b m (some false)=some x)
  (hs:Spl lk l1 (⟨some dp,.pick (.tmp c) y (.const (.bool false)),ty',pos',aft',gp⟩::l)) (hg:zBh all j true [] lk=true) (hk:zdY (zom lk) env=true)
  (hgp:∀env':Ev,(∀t v,look env t=some v→look env' t=some v)→zg6 all env' ⟨some dp,.pick (.tmp c) y (.const (.bool false)),ty',pos',aft',gp⟩=some true)
  (hT:b=true→Imp (m=some x) (SR P n nb0 all lk ((⟨some dp,.pick (.tmp c) y (.const (.bool false)),ty',pos',aft',gp⟩::l)++l2) (zyI env st y x) env st))
  (h:SR P n nb0 all l l2 K ((dp,.lit (.bool x))::env) st):SR P n nb0 all l1 l2 K env st:=
 zgn lk.length hs.eq.2 hj hc (hs.eq.1.symm ▸ hg) (hs.eq.1.symm ▸ hk) hgp (hs.eq.1.symm ▸ hs.eq.2.symm ▸ fun e=>hT e (bT e q)) (fun e=>(sm (bF e q)).symm) h
theorem oQ{dp c:Nat}{y:Operand}{ty':TypeId}{pos':String}{aft':Array Edge}{gp:Option (Nat×Bool)}{j:Nat}{b x:Bool}{m:Option Bool}{l:List Oper}(hj0:zw0 false l1=some j)(hj:(all[j]?).bind (·.dst)=some c)(hc:look env c=some (.lit (.bool b)))(q:cond b (some true) m=some x)
  (hs:Spl lk l1 (⟨some dp,.pick (.tmp c) (.const (.bool true)) y,ty',pos',aft',gp⟩::l)) (hg:zBh all j false [] lk=true) (hk:zdY (zom lk) env=true)
  (hgp:∀env':Ev,(∀t v,look env t=some v→look env' t=some v)→zg6 all env' ⟨some dp,.pick (.tmp c) (.const (.bool true)) y,ty',pos',aft',gp⟩=some true)
  (hF:b=false→Imp (m=some x) (SR P n nb0 all lk ((⟨some dp,.pick (.tmp c) (.const (.bool true)) y,ty',pos',aft',gp⟩::l)++l2) (zyI env st y x) env st))
  (h:SR P n nb0 all l l2 K ((dp,.lit (.bool x))::env) st):SR P n nb0 all l1 l2 K env st:=
 ztF lk.length hs.eq.2 hj hc (hs.eq.1.symm ▸ hg) (hs.eq.1.symm ▸ hk) hgp (hs.eq.1.symm ▸ hs.eq.2.symm ▸ fun e=>hF e (bF e q)) (fun e=>(sm (bT e q)).symm) h
end
theorem A{p q:Prop}(z:q)(h:Zz q→p:=by (intro z;(first |(apply rg;exact rfl) |(apply rl;exact rfl) |skip);(repeat (first |((first |(with_reducible apply u) |((with_reducible apply g);exact rfl;(first |assumption |exact rfl)));refine opS ?_) |(apply aQ;exact rfl;exact rfl;exact rfl;assumption;(repeat (first |exact Spl.z _ |apply Spl.s));exact rfl;exact rfl;(first |exact gpn |exact gps rfl rfl (by assumption));exact hQA) |(apply oQ;exact rfl;exact rfl;exact rfl;assumption;(repeat (first |exact Spl.z _ |apply Spl.s));exact rfl;exact rfl;(first |exact gpn |exact gps rfl rfl (by assumption));exact hQA) |(apply aA;exact rfl;exact rfl;(repeat (first |exact Spl.z _ |apply Spl.s));exact rfl;exact rfl;exact rfl;(first |exact gpn |exact gps rfl rfl (by assumption));exact hAA) |(apply oA;exact rfl;exact rfl;(repeat (first |exact Spl.z _ |apply Spl.s));exact rfl;exact rfl;exact rfl;(first |exact gpn |exact gps rfl rfl (by assumption));exact hOA)));(first |exact zz z.1 |exact z.1))):p:=h ⟨z⟩
theorem zF8{st:St}{L:zgC}{l i j:Nat}(h:zgH L l=some l):Rs st L (.mpt l i j) (.mpt l i j):=.mpt h
theorem zGa{st:St}{L:zgC}{l i n:Nat}(h:zgH L l=some l):Rs st L (.msl l i n) (.msl l i n):=.msl h
section
variable {P : Program} {n nb0 : Nat} {env env0 : Ev} {st st0 : St}
theorem zbZ(L:zgC)(h1:zln st L env0 env:=by repeat' (first |exact True.intro |exact cn |exact ci rfl |exact zF8 rfl |exact zGa rfl |exact .msl rfl |exact .mpt rfl |exact .nil |exact zgo fun _=>rfl |refine cv rfl ?_ ?_ |exact zkg rfl rfl fun _=>rfl |refine zm5 rfl rfl ?_ |exact ci (zlE fun _=>rfl) |exact .mmp rfl |refine zBl rfl ?_ |refine zfU ?_ |refine zoa ?_ |refine ⟨_,rfl,?_⟩ |refine And.intro ?_ ?_ |refine zsg ?_ |refine ztP ?_ |exact rfl))(h2:zmV L=true:=by exact rfl)(h3:zjy st L L st0:=by repeat' (first |exact True.intro |exact cn |exact ci rfl |exact zF8 rfl |exact zGa rfl |exact .msl rfl |exact .mpt rfl |exact .nil |exact zgo fun _=>rfl |refine cv rfl ?_ ?_ |exact zkg rfl rfl fun _=>rfl |refine zm5 rfl rfl ?_ |exact ci (zlE fun _=>rfl) |exact .mmp rfl |refine zBl rfl ?_ |refine zfU ?_ |refine zoa ?_ |refine ⟨_,rfl,?_⟩ |refine And.intro ?_ ?_ |refine zsg ?_ |refine ztP ?_ |exact rfl))(h4:zzL nb0 L=true:=by exact rfl)(h5:nb0≤st0.length:=by exact QA rfl):Can nb0 env0 st0 env st:=⟨L,h1,h2,h3,h4,h5⟩
end
section
variable {P : Program} {all : List Oper} {env0 F env : Ev} {st : St} {ss p en : List Nat} {K : Ev → St → Prop}
theorem peC{i:Nat}{G:Prop}(h:G→zi6 P all env0 F st i:=by first |exact nz |(intro _;refine pa rfl rfl rfl rfl ?_;refine opS ?_;exact ⟨rfl,rfl⟩) |exact fun _=>pau rfl rfl rfl rfl rfl |(intro _;refine pas rfl rfl rfl rfl ?_ rfl;(first |exact rfl |assumption)) |(intro _;refine pag rfl rfl rfl rfl ?_ rfl ?_;(first |exact rfl |assumption);refine opS ?_;exact ⟨rfl,rfl⟩)):G→zi6 P all env0 F st i:=h
theorem ze7{n:Nat}(h1:zvl P all env0 F st p en:=by repeat' (first |exact True.intro |refine And.intro ?_ ?_ |first |exact nz |(intro _;refine pa rfl rfl rfl rfl ?_;refine opS ?_;exact ⟨rfl,rfl⟩) |exact fun _=>pau rfl rfl rfl rfl rfl |(intro _;refine pas rfl rfl rfl rfl ?_ rfl;(first |exact rfl |assumption)) |(intro _;refine pag rfl rfl rfl rfl ?_ rfl ?_;(first |exact rfl |assumption);refine opS ?_;exact ⟨rfl,rfl⟩)))(z:zt3 P all ss env0 K n p en F st ss)(h2:zhS all ss p en=true:=by kernel_rfl)(h3:zlo p ss=false:=by exact rfl):DT P all ss env0 K (n+1) p en F st:=dtS h1 h2 h3 z
theorem zgE(h1:zvl P all env0 F st p en:=by repeat' (first |exact True.intro |refine And.intro ?_ ?_ |first |exact nz |(intro _;refine pa rfl rfl rfl rfl ?_;refine opS ?_;exact ⟨rfl,rfl⟩) |exact fun _=>pau rfl rfl rfl rfl rfl |(intro _;refine pas rfl rfl rfl rfl ?_ rfl;(first |exact rfl |assumption)) |(intro _;refine pag rfl rfl rfl rfl ?_ rfl ?_;(first |exact rfl |assumption);refine opS ?_;exact ⟨rfl,rfl⟩)))(z:K (F++zo9 (zwO all) env0) st)(h2:zhS all ss p en=true:=by kernel_rfl)(h3:zlo p ss=true:=by exact rfl):DT P all ss env0 K 0 p en F st:=dt0 h1 h2 h3 z
end
theorem rdQ{P:Program}{n nb0:Nat}{Q:Exit→Ev→St→Prop}{env:Ev}{st:St}{id:Nat}{ops:Array Oper}(ss en:List Nat)(F:Ev)(k:Nat)
  (h:DT P ops.toList ss env (Q .normal) k [] en F st) (hm:P.follows .mixedOrders=true:=by kernel_rfl) (hok:zs1 n ops.toList=true:=by kernel_rfl) (hss:zsb ops.size ss=true:=by exact rfl) (hks:zjz ops.toList en (zdM F)=true:=by kernel_rfl):
  SW P n nb0 (.region id ops true) Q env st:=zbx ss en F k hm hok hss hks h
section
variable {P : Program} {n nb0 : Nat} {env : Ev} {st st0 : St}
theorem zeh{Q:Exit→Ev→St→Prop}{c:Operand}{x y:Code}{b:Bool}{α:Type}{m1 m2 r:α}(h:cond b m1 m2=r)(hc:ev env c=some (.lit (.bool b)))(ht:b=true→m1=r→SW P n nb0 x Q env st)(hf:b=false→m2=r→SW P n nb0 y Q env st):SW P n nb0 (.cond c x y) Q env st:=
 zd7 hc (fun e=>ht e (bT e h)) (fun e=>hf e (bF e h))
theorem zx1{av0 av:AV}(L:zgC)(h1:Rs st L av0 av:=by repeat' (first |exact True.intro |exact cn |exact ci rfl |exact zF8 rfl |exact zGa rfl |exact .msl rfl |exact .mpt rfl |exact .nil |exact zgo fun _=>rfl |refine cv rfl ?_ ?_ |exact zkg rfl rfl fun _=>rfl |refine zm5 rfl rfl ?_ |exact ci (zlE fun _=>rfl) |exact .mmp rfl |refine zBl rfl ?_ |refine zfU ?_ |refine zoa ?_ |refine ⟨_,rfl,?_⟩ |refine And.intro ?_ ?_ |refine zsg ?_ |refine ztP ?_ |exact rfl))(h2:zmV L=true:=by exact rfl)(h3:zjy st L L st0:=by repeat' (first |exact True.intro |exact cn |exact ci rfl |exact zF8 rfl |exact zGa rfl |exact .msl rfl |exact .mpt rfl |exact .nil |exact zgo fun _=>rfl |refine cv rfl ?_ ?_ |exact zkg rfl rfl fun _=>rfl |refine zm5 rfl rfl ?_ |exact ci (zlE fun _=>rfl) |exact .mmp rfl |refine zBl rfl ?_ |refine zfU ?_ |refine zoa ?_ |refine ⟨_,rfl,?_⟩ |refine And.intro ?_ ?_ |refine zsg ?_ |refine ztP ?_ |exact rfl))(h4:zzL nb0 L=true:=by exact rfl)(h5:nb0≤st0.length:=by exact QA rfl):zE3 nb0 av0 st0 av st:=⟨L,h1,h2,h3,h4,h5⟩
end
theorem RT0{p:Prop}(z:p:=by (refine zL ?_;obtain rfl:=sm h;exact ⟨_,rfl,zx1 []⟩)):p:=z
theorem RT1{p:Prop}(z:p:=by (refine zL ?_;obtain rfl:=sm h;exact ⟨_,rfl,zx1 [.old 0]⟩)):p:=z
theorem RT3{p:Prop}(z:p:=by (refine zL ?_;obtain rfl:=sm h;exact ⟨_,rfl,zx1 [.old 0,.old 1,.old 2]⟩)):p:=z
theorem RT4{p:Prop}(z:p:=by (refine zL ?_;obtain rfl:=sm h;exact ⟨_,rfl,zx1 [.old 0,.old 1,.old 2,.old 3]⟩)):p:=z
theorem RT5{p:Prop}(z:p:=by (refine zL ?_;obtain rfl:=sm h;exact ⟨_,rfl,zx1 [.old 0,.old 1,.old 2,.old 3,.old 4]⟩)):p:=z
theorem RT6{p:Prop}(z:p:=by (refine zL ?_;obtain rfl:=sm h;exact ⟨_,rfl,zx1 [.old 0,.old 1,.old 2,.old 3,.old 4,.old 5]⟩)):p:=z
theorem bs2{α β γ:Type}{a:Option α}{b:α→Option β}{k:α→β→Option γ}{r:γ}(h:(a.bind fun x=>(b x).bind (k x))=some r):∃x,a=some x∧∃y,b x=some y∧k x y=some r:=by
 obtain ⟨x,h1,h⟩:=bs h;obtain ⟨y,h2,h⟩:=bs h;exact ⟨x,h1,y,h2,h⟩
theorem bs3{α β γ δ:Type}{a:Option α}{b:α→Option β}{c:α→β→Option γ}{k:α→β→γ→Option δ}{r:δ}(h:(a.bind fun x=>(b x).bind fun y=>(c x y).bind (k x y))=some r):∃x,a=some x∧∃y,b x=some y∧∃z,c x y=some z∧k x y z=some r:=by
 obtain ⟨x,h1,h⟩:=bs h;exact ⟨x,h1,bs2 h⟩
theorem bs4{α β γ δ ε:Type}{a:Option α}{b:α→Option β}{c:α→β→Option γ}{d:α→β→γ→Option δ}{k:α→β→γ→δ→Option ε}{r:ε}(h:(a.bind fun x=>(b x).bind fun y=>(c x y).bind fun z=>(d x y z).bind (k x y z))=some r):∃x,a=some x∧∃y,b x=some y∧∃z,c x y=some z∧∃u,d x y z=some u∧k x y z u=some r:=by
 obtain ⟨x,h1,h⟩:=bs h;exact ⟨x,h1,bs3 h⟩
abbrev pG{R:Type}(fn:Func)(e:R→AV):R→Ev→St→Prop:=fun r env st=>zoe Tryz.prog fn 0 (e r) [] env st
abbrev pF{R:Type}(fn:Func)(e:R→AV)(s:R→St):R→Ev→St→Prop:=fun r env st=>zoe Tryz.prog fn 0 (e r) (s r) env st
section
variable {P : Program} {n nb0 : Nat} {env : Ev} {st : St} {id : Nat} {c y : Code} {Q : Exit → Ev → St → Prop} {X B R : Type} {body : X → Option (Sum X (Sum B R))} {z0 : X} {o : Sum B R}
theorem lpA(ho:zr body z0=some o)(E:X→Ev)(S:X→St)(E':B→Ev)(S':B→St)(post:R→Ev→St→Prop)(hc:Can nb0 (E z0) (S z0) env st)(round:∀z r,body z=some r→SW P n nb0 c (LQ id nb0 E S E' S' post r) (E z) (S z))
  (hb:∀b,o=.inl b→SW P n nb0 y Q (E' b) (S' b)) (hr:∀r,o=.inr r→∀env st,post r env st→Q .ret env st:=by (rintro r' rfl env st hp;obtain rfl:=sm h;exact hp)):SW P n nb0 (.seq (.block id (.loop c)) y) Q env st:=zGK E S E' S' post ho hc round hb hr
theorem lpS(ho:zr body z0=some o)(E:X→Ev)(S:X→St)(E':B→Ev)(S':B→St)(post:R→Ev→St→Prop)(hc:Can nb0 (E z0) (S z0) env st)(round:∀z r,body z=some r→SW P n nb0 c (LQ id nb0 E S E' S' post r) (E z) (S z))(hb:∀b,o=.inl b→OW n nb0 (Q .normal) (E' b) (S' b))(hr:∀r,o=.inr r→∀env st,post r env st→Q .ret env st):SW P n nb0 (.block id (.loop c)) Q env st:=zvg E S E' S' post ho hc round hb hr
theorem lpB(ho:zr body z0=some o)(E:X→Ev)(S:X→St)(E':B→Ev)(S':B→St)(post:R→Ev→St→Prop)(hc:Can nb0 (E z0) (S z0) env st)(round:∀z r,body z=some r→SW P n nb0 c (LQ id nb0 E S E' S' post r) (E z) (S z))(hb:∀b,o=.inl b→OW n nb0 (Q .normal) (E' b) (S' b))(hr:∀r,o=.inr r→∀env st,post r env st→Q .ret env st:=by (rintro r' rfl env st hp;obtain rfl:=sm h;exact hp)):SW P n nb0 (.block id (.loop c)) Q env st:=zvg E S E' S' post ho hc round hb hr
end
section
open Go.ChangeShapes Go.WideShapes Go.ChangeAt Go.RowKit Go.WideMaps Go.WideElems
open Go.ChangeMaps (open_string shut_string)
theorem znc.below{w w':World}(h:znc w w'):Below w.heap.size w w':=⟨h.os,h.tape,h.output,h.size,h.heap⟩
theorem Tryz.ownNot:ownKnob Tryz.prog.godebug=none:=by kernel_rfl
theorem Tryz.laidOut:laidOutB Tryz.prog=true:=by kernel_rfl
section
variable {H : Type} {enc : TypeId × Value → H} {P : Program}
theorem zui(hl:laidOutB P=true){W W':World}(hg:znc W W'){sp:Nat→Bool}:∀{ts:List TypeId} {vs:List Value} {ds:List (DataW H)} {ps:List MemPlace},
  ts.all (fun t=>P.readableRec t&&decide (t<P.types.size))=true→DataW.TrodAll enc P W 0 (fun _=>true) true ts vs ds ps→(∀p∈ps,p.block<W.heap.size)→(∀p∈ps,sp p.block=true)→DataW.TrodAll enc P W' 0 sp true ts vs ds ps
 | [],[],[],ps,_,h,_,_=>h
 |t ::ts,v ::vs,d ::ds,ps,ht,h,hlt,hs=>by
  obtain ⟨p,q,h1,h2,rfl⟩:=h;simp only [List.all_cons,Qd,decide_eq_true_eq] at ht
  exact ⟨p,q,WideElems.Trod_stays hl ht.1.1 ht.1.2 h1 (fun x hx=>hg.below.same (hlt x (by simp [hx]))) (fun x hx=>hs x (by simp [hx])),
   zui hl hg ht.2 h2 (fun x hx=>hlt x (by simp [hx])) (fun x hx=>hs x (by simp [hx])),rfl⟩
 | [],_ :: _,_,_,_,h,_,_=>h.elim
 | [],[],_ :: _,_,_,h,_,_=>h.elim
 |_ :: _,[],_,_,_,h,_,_=>h.elim
 |_ :: _,_ :: _,[],_,_,h,_,_=>h.elim
theorem zFQ{f:Func}{s:ChangeSpec}{apart fresh handsOn again:Bool}{W W':World}{args:Array Value}{ds gs:List (DataW H)}{before:List MemPlace}{tb:TypeId}
  (hl:laidOutB P=true) (hW:DataW.Whole enc P f.params.toList s.vars apart W args.toList ds gs before) (hg:znc W W')
  (hts:f.params.toList.all (fun t=>P.readableRec t&&decide (t<P.types.size))=true) (hvars:s.vars=[]) (hr:f.resultTypes=#[tb]) (hb:P.underlying tb=some .bool)
  (hfn:s.fn H (ds++gs)={ results:=[.lit (.bool true)],args:=ds }):
  s.post enc P f apart fresh handsOn again W args (.bool true) W':=by
 have hlt:=hW.lt;have hW':=hW;obtain ⟨p,q,hA,hV,hpq,hz,hn⟩:=hW';rw [hvars] at hV;obtain ⟨rfl,rfl⟩:=trodVars_none hV;simp only [Qz] at hpq;subst hpq;have hargs:∀sp:Nat→Bool,(∀x∈before,sp x.block=true)→DataW.TrodAll enc P W' 0 sp true f.params.toList args.toList ds before:=fun sp hsp=>zui hl hg hts hA hlt hsp
 have hres:∀(b:Nat) (sp:Nat→Bool) (hd:Bool),DataW.TrodAll enc P W' b sp hd f.resultTypes.toList ((Value.bool true).resultList f.resultTypes.size) [.lit (.bool true)] []:=fun b sp hd=>by
  rw [hr];exact trodAll_mk1 (shut_bool hb true)
 have hvs:∀sp:Nat→Bool,DataW.TrodVars enc P W' sp s.vars ([]:List (DataW H)) []:=fun sp=>by rw [hvars];rfl
 refine ⟨ds,[],before,[],before,[],hW,by rw [hfn];exact hres _ _ _,by rw [hfn];exact hargs _ (fun x hx=>by simpa using hlt x hx),by rw [hfn];exact hvs _,hg.below.frame _,fun _=>⟨?_,_,_,([]++before)++[],⟨[]++before,[],trodAll_append (hargs _ (fun _ _=>rfl)) (hres _ _ _),hvs _,rfl,?_,?_⟩,?_⟩⟩
 ·exact ok_one hr rfl (okWide_bool_mk hb _)
 ·intro b off hp
  have hp':MemPlace.cell b off∈before:=by simpa using hp
  rw [hg.below.frozen (p:=⟨b,off,none⟩) (hlt _ hp')];exact hz b off hp'
 ·intro ha;simpa using hn ha
 ·intro x hx _;simpa using hx
theorem zan.truly{f:FuncId}{args:List AV}(h:zan P f args (.lit (.bool true))){W:World}{vals:Array Value}(hv:VIL (fun B=>B<W.heap.size) W args vals):
  Calls P f vals W fun e w'=>e=.returned (.bool true)∧znc W w':=
 (h.2 _ W vals (fun _ h=>h) hv).mono fun e w' ⟨v,he,hg,hvi⟩=>by
  cases hvi;exact ⟨he,hg⟩
theorem zGN{A w}:VIL A w [] #[]:=⟨rfl,fun i h=>by simp at h⟩
theorem zGf{A w}{c:AV}{v:Value}{cs:List AV}{vs:List Value}(h:VI A w c v)(t:VIL A w cs vs.toArray):VIL A w (c ::cs) (v ::vs).toArray:=by
 obtain ⟨h1,h2⟩:=t;refine ⟨by simpa using h1,fun i hi=>?_⟩
 cases i with
 |zero=>simpa using h
 |succ i =>
  have:=h2 i (by simpa using hi);simpa [Array.getD] using this
end
end
section
open Go.ChangeShapes Go.WideShapes Go.ChangeAt Go.RowKit Go.WideMaps Go.WideElems
def zuz(P:Program):Nat→List Field→Option Nat
 |o,[]=>some o
 |o,f ::r=>if f.offset=o then zuz P (o+P.cellsOf f.type) r else none
def zuZ(P:Program):Nat→TypeId→Bool
 | 0,_=>false
 |n+1,t =>
  match P.underlying t with
  |some .bool=>true
  |some (.int _)=>true
  |some .string=>true
  |some (.slice e)=>Nat.blt 0 (P.cellsOf e)&&zuZ P n e
  |some (.struct fs)=>(zuz P 0 fs.toList == some (P.cellsOf t))&&fs.toList.all fun f=>zuZ P n f.type
  |_=>false
def zpH(P:Program):Nat→TypeId→List AV→Prop
 | 0,_,_=>False
 |n+1,t,avs =>
  match P.underlying t with
  |some .bool=>∃b,avs=[.lit (.bool b)]
  |some (.int k)=>∃m,avs=[.lit (.int k m)]∧(Lit.int k m).wf=true
  |some .string=>∃s:List UInt8,avs=[.lit (.string (B s))]∧s.length≤9223372036854775807
  |some (.slice e)=>∃els,avs=[.isl (P.cellsOf e) els]∧els.length≤9223372036854775807∧∀r∈els,zpH P n e r
  |some (.struct fs)=>∃parts:List (List AV),avs=parts.flatten∧parts.length=fs.size∧∀(i:Nat) f p,fs[i]?=some f→parts[i]?=some p→zpH P n f.type p
  |_=>False
section
variable {H : Type} {enc : TypeId × Value → H} {P : Program} {W : World}
abbrev zrR(W:World)(avs:List AV)(cs:List Value):Prop:=avs.length=cs.length∧∀(i:Nat) av v,avs[i]?=some av→cs[i]?=some v→VI (fun B=>B<W.heap.size) W av v
theorem zu7{a b:List AV}{cs ds:List Value}(h:zrR W a cs)(k:zrR W b ds):zrR W (a++b) (cs++ds):=by
 refine ⟨by simp [h.1,k.1],fun i av v h1 h2=>?_⟩;by_cases hi:i<a.length
 ·rw [Qm hi] at h1;rw [Qm (by rw [←h.1];exact hi)] at h2;exact h.2 i av v h1 h2
 ·rw [Qn (by omega)] at h1;rw [Qn (by rw [←h.1];omega),←h.1] at h2;exact k.2 _ av v h1 h2
theorem zlh{av:AV}{v:Value}(h:VI (fun B=>B<W.heap.size) W av v):zrR W [av] [v]:=
 ⟨rfl,fun i a u h1 h2=>by
  cases i with
  |zero=>cases h1;cases h2;exact h
  |succ i=>simp at h1⟩
theorem zza{w:World}{base:Nat}{a:Addr}{n:Nat}{cs:List Value}(h:w.cells? base a n=some cs):cs.length=n∧∀j,j<n→w.cell? (a.add j)=cs[j]?:=by
 unfold World.cells? at h;split at h
 ·have key:∀(l:List Nat) (r:List Value),l.mapM (fun i=>w.cell? (a.add i))=some r→r.length=l.length∧∀(j:Nat) x,l[j]?=some x→w.cell? (a.add x)=r[j]?:=by
   intro l
   induction l with
   |nil=>intro r hr;simp at hr;subst hr;exact ⟨rfl,fun j x hx=>by simp at hx⟩
   |cons y l ih =>
    intro r hr;simp only [Yx,Option.bind_eq_bind,Option.pure_def] at hr
    cases h1:w.cell? (a.add y) with
    |none=>simp [h1] at hr
    |some b =>
     cases h2:l.mapM (fun i=>w.cell? (a.add i)) with
     |none=>simp [h1,h2] at hr
     |some r' =>
      simp [h1,h2] at hr;subst hr;obtain ⟨k1,k2⟩:=ih r' h2;refine ⟨by simp [k1],fun j x hx=>?_⟩
      cases j with
      |zero=>simp at hx;subst hx;simpa using h1
      |succ j=>simpa using k2 j x (by simpa using hx)
  obtain ⟨h1,h2⟩:=key _ _ h;refine ⟨by simpa using h1,fun j hj=>h2 j j (by simp [hj])⟩
 ·cases h
theorem ztH:∀(n fuel:Nat) (t:TypeId) (cs:List Value) (x:DataW H×List MemPlace),zuZ P n t=true→DataW.trod enc P W 0 (fun _=>true) true fuel t cs=some x→(∀p∈x.2,p.block<W.heap.size)→∃avs,zpH P n t avs∧zrR W avs cs
 | 0,_,_,_,_,h,_,_=>by cases h
 |n+1,fuel,t,cs,x,hp,hx,hlt=>by
  have hmax:maxLen=9223372036854775807:=by unfold maxLen;decide
  unfold zuZ at hp;unfold zpH
  cases hu:P.underlying t with
  |none=>rw [hu] at hp;cases hp
  |some d =>
   rw [hu] at hp
   cases d with
   |bool =>
    obtain ⟨b,rfl,_⟩:=DataW.trod_bool hu hx;exact ⟨_,⟨b,rfl⟩,zlh (.lit _)⟩
   |int k =>
    obtain ⟨m,rfl,_,hw⟩:=DataW.trod_int hu hx;exact ⟨_,⟨m,rfl,hw⟩,zlh (.lit _)⟩
   |string =>
    obtain ⟨s,rfl,_,hl⟩:=DataW.trod_string hu hx;exact ⟨_,⟨s.data.toList,rfl,by rw [←hmax];exact hl⟩,zlh (.lit _)⟩
   |slice e =>
    simp only [Qd] at hp;have hk:0<P.cellsOf e:=QA hp.1
    rcases DataW.trod_slice hu hx with ⟨rfl,rfl⟩ |⟨a,len,cap,elems,rest,n',rfl,rfl,rfl,hb,hl,hm,hlen,hel,hsp,hns⟩
    ·exact ⟨_,⟨[],rfl,by simp,fun r hr=>by cases hr⟩,zlh (.inil _ _ _)⟩
    rcases Jq len with h0 |h0
    ·subst h0;exact ⟨_,⟨[],rfl,by simp,fun r hr=>by cases hr⟩,zlh (.inil _ _ _)⟩
    have hrow:∀i,∃r,i<len→zpH P n e r∧r.length=P.cellsOf e∧∃cl:List Value,cl.length=P.cellsOf e∧(∀j,j<P.cellsOf e→W.cell? ((a.add (i*P.cellsOf e)).add j)=cl[j]?)∧zrR W r cl:=fun i=>by
     by_cases hi:i<len
     ·have h1:=hel i hi;have h2:elems[i]?=some elems[i]:=Qe (by omega);rw [h2] at h1
      cases hc:W.cells? 0 (a.add (i*P.cellsOf e)) (P.cellsOf e) with
      |none=>rw [hc] at h1;cases h1
      |some cl =>
       rw [hc] at h1;obtain ⟨k1,k2⟩:=zza hc
       obtain ⟨r,g1,g2⟩:=ztH n n' e cl elems[i] hp.2 h1 (fun p hpp=>hlt p (by
        simp only [Qu,Yg]
        exact .inr ⟨elems[i],.inl (Qi _),hpp⟩))
       exact ⟨r,fun _=>⟨g1,by rw [g2.1,k1],cl,k1,k2,g2⟩⟩
     ·exact ⟨[],fun h=>absurd h hi⟩
    obtain ⟨f,hf⟩:=Classical.axiomOfChoice hrow
    have hspot:a.spot=none:=by
     obtain ⟨_,_,cl,k1,k2,_⟩:=hf 0 h0;have h2:=k2 0 hk;rw [Qe (by omega)] at h2;simp only [Nat.zero_mul,Addr.add,if_true] at h2
     cases hs:a.spot with
     |none=>rfl
     |some q =>
      rw [World.cell?] at h2;split at h2
      ·rw [hs] at h2;simp at h2
      ·cases h2
    obtain ⟨B,o,p⟩:=a;simp only at hspot;subst hspot
    have hB:B<W.heap.size:=hlt (.cell B (o+0)) (by
     refine Qu.2 (.inl (QS.2 ⟨0,JA.2 ?_,rfl⟩))
     exact Nat.mul_pos (by omega) hk)
    have hadd:∀i j,(((⟨B,o,none⟩:Addr).add (i*P.cellsOf e)).add j)=⟨B,o+i*P.cellsOf e+j,none⟩:=fun i j=>by rw [ziW,ziW]
    refine ⟨_,⟨(List.range len).map f,rfl,by simp;omega,fun r hr=>?_⟩,zlh ?_⟩
    ·obtain ⟨i,hi,rfl⟩:=QS.1 hr;exact (hf i (JA.1 hi)).1
    ·have hl2:((List.range len).map f).length=len:=by simp
     have:=VI.isl (A:=fun B=>B<W.heap.size) (w:=W) (P.cellsOf e) ((List.range len).map f) B o cap (fun i j=>(W.cell? ⟨B,o+i*P.cellsOf e+j,none⟩).getD undef) hB (by rw [hl2];exact hl)
      (fun i hi=>by simp at hi;simpa using (hf i hi).2.1)
      (fun i j hi hj=>by
       rw [hl2] at hi;obtain ⟨_,_,cl,k1,k2,_⟩:=hf i hi;have:=k2 j hj;rw [hadd,Qe (by omega)] at this
       rw [this];rfl)
      (fun i hi j hj=>by
       have hi':i<len:=by rw [hl2] at hi;exact hi
       obtain ⟨_,g,cl,k1,k2,g2⟩:=hf i hi'
       have e1:((List.range len).map f)[i]=f i:=by simp
       have hj':j<(f i).length:=by rw [e1] at hj;exact hj
       have h3:=k2 j (by omega);rw [hadd] at h3;show VI _ W _ ((W.cell? _).getD undef);rw [h3,Qe (by omega)];have h4:=g2.2 j (f i)[j] cl[j] (Qe hj') (Qe (by omega))
       have e2:((List.range len).map f)[i][j]=(f i)[j]:=by simp
       rw [e2]
       exact h4)
     rw [hl2] at this;exact this
   |struct fs =>
    simp only [Qd,beq_iff_eq,Qs] at hp;obtain ⟨xs,n',rfl,rfl,hcl,hxl,hfs⟩:=DataW.trod_struct hu hx;have hfs':∀(i:Nat) (f:Field),fs.toList[i]?=some f→DataW.trod enc P W 0 (fun _=>true) true n' f.type ((cs.drop f.offset).take (P.cellsOf f.type))=xs[i]?:=fun i f h=>hfs i f (by simpa using h)
    have key:∀(l:List Field) (k o e:Nat),fs.toList.drop k=l→zuz P o l=some e→∃parts:List (List AV),parts.length=l.length∧(∀(i:Nat) f p,l[i]?=some f→parts[i]?=some p→zpH P n f.type p)∧zrR W parts.flatten ((cs.drop o).take (e-o))∧o≤e:=by
     intro l
     induction l with
     |nil =>
      intro k o e _ hl;simp only [zuz,Option.some.injEq] at hl;subst hl;exact ⟨[],rfl,fun i f p h=>by simp at h,⟨by simp,fun i av v h=>by simp at h⟩,Qg _⟩
     |cons f l ih =>
      intro k o e hd hl;unfold zuz at hl;split at hl
      ·rename_i hoff
       have hk:fs.toList[k]?=some f:=by
        have:(fs.toList.drop k)[0]?=some f:=by rw [hd];rfl
        simpa using this
       have hd':fs.toList.drop (k+1)=l:=by
        have:=congrArg List.tail hd;simpa [Yz] using this
       obtain ⟨parts,p1,p2,p3,p4⟩:=ih (k+1) _ e hd' hl;have hr:=hfs' k f hk
       have hkl:k<xs.length:=by
        have:=(Qb.1 hk).1;simp at this;omega
       rw [Qe hkl,hoff] at hr;obtain ⟨r,g1,g2⟩:=ztH n n' f.type _ xs[k] (hp.2 f (Qc hk)) hr (fun p hpp=>hlt p (Yg.2 ⟨xs[k],Qi _,hpp⟩));refine ⟨r ::parts,by simp [p1],fun i f' p h1 h2=>?_,?_,by omega⟩
       ·cases i with
        |zero=>simp at h1 h2;subst h1 h2;exact g1
        |succ i=>exact p2 i f' p (by simpa using h1) (by simpa using h2)
       ·have e1:(cs.drop o).take (e-o)=(cs.drop o).take (P.cellsOf f.type)++(cs.drop (o+P.cellsOf f.type)).take (e-(o+P.cellsOf f.type)):=by
         have:e-o=P.cellsOf f.type+(e-(o+P.cellsOf f.type)):=by omega
         rw [this,List.take_add,List.drop_drop]
        rw [e1,List.flatten_cons];exact zu7 g2 p3
      ·cases hl
    obtain ⟨parts,p1,p2,p3,_⟩:=key fs.toList 0 0 _ rfl hp.1;refine ⟨parts.flatten,⟨parts,rfl,by simpa using p1,fun i f p h1 h2=>p2 i f p (by simpa using h1) h2⟩,?_⟩
    rwa [J3,J2,Jt (by omega)] at p3
   |_=>cases hp
theorem zGd{n:Nat}{t:TypeId}{v:Value}{d:DataW H}{ps:List MemPlace}(hp:zuZ P n t=true)(h:DataW.Trod enc P W 0 (fun _=>true) true t v d ps)(hlt:∀p∈ps,p.block<W.heap.size):∃avs,zpH P n t avs∧zrR W avs v.cells.toList:=by
 obtain ⟨fuel,hf⟩:=h;exact ztH n fuel t _ _ hp hf hlt
end
section
variable {P : Program} {n : Nat} {t : TypeId} {avs : List AV}
abbrev wI(k:IntKind)(x:Int):Prop:=(Lit.int k x).wf=true
abbrev wS(s:List UInt8):Prop:=s.length≤9223372036854775807
abbrev wT{α:Type}(_:α):Prop:=True
abbrev wL{α:Type}(w:α→Prop)(l:List α):Prop:=l.length≤9223372036854775807∧∀y∈l,w y
theorem gdB(hu:P.underlying t=some .bool)(h:zpH P (n+1) t avs):∃x:Bool,avs=rB x∧wT x:=by
 unfold zpH at h;rw [hu] at h;obtain ⟨b,rfl⟩:=h;exact ⟨b,rfl,trivial⟩
theorem gdI{k:IntKind}(hu:P.underlying t=some (.int k))(h:zpH P (n+1) t avs):∃x:Int,avs=rI k x∧wI k x:=by
 unfold zpH at h;rw [hu] at h;obtain ⟨m,rfl,hw⟩:=h;exact ⟨m,rfl,hw⟩
theorem gdS(hu:P.underlying t=some .string)(h:zpH P (n+1) t avs):∃x:List UInt8,avs=zm x∧wS x:=by
 unfold zpH at h;rw [hu] at h;obtain ⟨s,rfl,hw⟩:=h;exact ⟨s,rfl,hw⟩
theorem gdL{α:Type}{e:TypeId}{k:Nat}{f:α→List AV}{w:α→Prop}(hu:P.underlying t=some (.slice e))(hc:P.cellsOf e=k)(he:∀{r},zpH P n e r→∃x:α,r=f x∧w x)(h:zpH P (n+1) t avs):∃x:List α,avs=rL k f x∧wL w x:=by
 unfold zpH at h;rw [hu] at h;obtain ⟨els,rfl,hl,hg⟩:=h;subst hc
 have key:∀els:List (List AV),(∀r∈els,zpH P n e r)→∃x:List α,els=x.map f∧∀y∈x,w y:=by
  intro els
  induction els with
  |nil=>intro _;exact ⟨[],rfl,fun y hy=>by cases hy⟩
  |cons r els ih =>
   intro h;obtain ⟨x,rfl,hx⟩:=he (h r (by simp));obtain ⟨xs,rfl,hxs⟩:=ih fun r hr=>h r (by simp [hr])
   exact ⟨x ::xs,rfl,fun y hy=>by
    rcases Qr.1 hy with rfl |hy
    ·exact hx
    ·exact hxs y hy⟩
 obtain ⟨x,rfl,hx⟩:=key els hg;exact ⟨x,rfl,by simpa using hl,hx⟩
theorem gdF{fs:Array Field}(hu:P.underlying t=some (.struct fs))(h:zpH P (n+1) t avs):∃parts:List (List AV),avs=parts.flatten∧parts.length=fs.size∧∀(i:Nat) f p,fs[i]?=some f→parts[i]?=some p→zpH P n f.type p:=by
 unfold zpH at h;rw [hu] at h;exact h
variable {W : World}
theorem zGm{av:AV}{v:Value}(h:zrR W [av] v.cells.toList)(hv:v.cells.toList=[v]):VI (fun B=>B<W.heap.size) W av v:=by
 rw [hv] at h;exact h.2 0 av v rfl rfl
theorem zGl{cs:Array Value}(h:zrR W avs (Value.agg cs).cells.toList):VI (fun B=>B<W.heap.size) W (.agg avs) (.agg cs):=by
 have h1:(Value.agg cs).cells.toList=cs.toList:=rfl;rw [h1] at h;refine .agg _ _ (by simpa using h.1.symm) fun i hi=>?_
 have hi':i<cs.size:=by have:=h.1;simp at this;omega
 have:=h.2 i avs[i] cs[i] (Qe hi) (by simp [hi']);simpa [Qh,hi'] using this
theorem zCg{r:Reach}{base:Nat}{v:Value}{fs:Array Field}(hu:P.underlying t=some (.struct fs))(h:Value.okWide P W r base t v):∃cs,v=.agg cs:=by
 unfold Value.okWide at h;rw [hu] at h;obtain ⟨cs,h1,_⟩:=h;exact ⟨cs,h1⟩
end
end
theorem zHn:zan Tryz.prog 355 [] (.lit (.bool true)):=zi4 [] 90 (by kernel_rfl) (fun g h=>by cases h) (by kernel_rfl)
theorem zHo:zan Tryz.prog 232 [] (.lit (.bool true)):=zi4 [355] 90 (by kernel_rfl) (kn1 zHn) (by kernel_rfl)
theorem zHp:zan Tryz.prog 69 [] (.lit (.bool true)):=zi4 [232] 90 (by kernel_rfl) (kn1 zHo) (by kernel_rfl)
theorem zHq:zan Tryz.prog 364 [] (.lit (.bool true)):=zi4 [69] 90 (by kernel_rfl) (kn1 zHp) (by kernel_rfl)
theorem zr6:zan Tryz.prog 331 [] (.lit (.bool true)):=zi4 [364] 90 (by kernel_rfl) (kn1 zHq) (by kernel_rfl)
theorem zHr:zan Tryz.prog 254 [] (.lit (.bool true)):=zi4 [331] 90 (by kernel_rfl) (kn1 zr6) (by kernel_rfl)
theorem znZ:zan Tryz.prog 179 [] (.lit (.bool true)):=zi4 [254] 90 (by kernel_rfl) (kn1 zHr) (by kernel_rfl)
theorem ztm{r:Bool}(_:true=r):zan Tryz.prog 179 [] (bA true):=znZ
theorem zHs:zan Tryz.prog 95 [] (.lit (.bool true)):=zi4 [179] 90 (by kernel_rfl) (kn1 znZ) (by kernel_rfl)
theorem zr7:zan Tryz.prog 191 [] (.lit (.bool true)):=zi4 [95] 90 (by kernel_rfl) (kn1 zHs) (by kernel_rfl)
theorem ztn{r:Bool}(_:true=r):zan Tryz.prog 191 [] (bA true):=zr7
end
end Go.Proofs.YthmnlfenkhmmhaaGreat
namespace Go.Proofs
open Go.Shelf
def Tryz.lays190_ren:Go.Shelf.Ren:=⟨fun | 190=>338 | 125=>369 | 258=>368 | 128=>390 | 129=>391 | 302=>381 | 303=>382 | 304=>383 | 305=>384 | 306=>385 | 307=>386 | 308=>387 | 309=>388 | 310=>389 | 333=>392 | 329=>393 | 330=>394 | 334=>395 | 335=>396 | 336=>397 | 344=>398 |n=>n,fun | 31=>22 | 9=>9 | 3=>3 | 46=>211 | 0=>0 | 51=>319 | 53=>210 | 4=>4 | 183=>313 | 182=>312 | 131=>157 | 5=>5 | 218=>321 | 222=>325 | 228=>327 | 229=>248 |n=>n,fun |n=>n⟩
theorem Tryz.lays190:Go.Proofs.Lays.n190 Tryz.prog Tryz.lays190_ren:={
 mixed:=by kernel_rfl
 f125:=Tryz.func369.trans (congrArg some (by kernel_rfl))
 f128:=Tryz.func390.trans (congrArg some (by kernel_rfl))
 f129:=Tryz.func391.trans (congrArg some (by kernel_rfl))
 f190:=Tryz.func338.trans (congrArg some (by kernel_rfl))
 f258:=Tryz.func368.trans (congrArg some (by kernel_rfl))
 f302:=Tryz.func381.trans (congrArg some (by kernel_rfl))
 f303:=Tryz.func382.trans (congrArg some (by kernel_rfl))
 f304:=Tryz.func383.trans (congrArg some (by kernel_rfl))
 f305:=Tryz.func384.trans (congrArg some (by kernel_rfl))
 f306:=Tryz.func385.trans (congrArg some (by kernel_rfl))
 f307:=Tryz.func386.trans (congrArg some (by kernel_rfl))
 f308:=Tryz.func387.trans (congrArg some (by kernel_rfl))
 f309:=Tryz.func388.trans (congrArg some (by kernel_rfl))
 f310:=Tryz.func389.trans (congrArg some (by kernel_rfl))
 f329:=Tryz.func393.trans (congrArg some (by kernel_rfl))
 f330:=Tryz.func394.trans (congrArg some (by kernel_rfl))
 f333:=Tryz.func392.trans (congrArg some (by kernel_rfl))
 f334:=Tryz.func395.trans (congrArg some (by kernel_rfl))
 f335:=Tryz.func396.trans (congrArg some (by kernel_rfl))
 f336:=Tryz.func397.trans (congrArg some (by kernel_rfl))
 f344:=Tryz.func398.trans (congrArg some (by kernel_rfl))
 t0:=Tryz.underlying0
 a0:=Tryz.isAgg0
 z0:=Tryz.sizeOf0
 v0:=Tryz.zeroValue0
 t3:=Tryz.underlying3
 a3:=Tryz.isAgg3
 z3:=Tryz.sizeOf3
 v3:=Tryz.zeroValue3
 t4:=Tryz.underlying4
 a4:=Tryz.isAgg4
 z4:=Tryz.sizeOf4
 v4:=Tryz.zeroValue4
 t5:=Tryz.underlying5
 a5:=Tryz.isAgg5
 z5:=Tryz.sizeOf5
 v5:=Tryz.zeroValue5
 t9:=Tryz.underlying9
 a9:=Tryz.isAgg9
 z9:=Tryz.sizeOf9
 v9:=Tryz.zeroValue9
 t31:=Tryz.underlying22
 a31:=Tryz.isAgg22
 z31:=Tryz.sizeOf22
 v31:=Tryz.zeroValue22
 t46:=Tryz.underlying211
 a46:=Tryz.isAgg211
 z46:=Tryz.sizeOf211
 v46:=Tryz.zeroValue211
 t51:=Tryz.underlying319
 a51:=Tryz.isAgg319
 z51:=Tryz.sizeOf319
 v51:=Tryz.zeroValue319
 t53:=Tryz.underlying210
 a53:=Tryz.isAgg210
 z53:=Tryz.sizeOf210
 v53:=Tryz.zeroValue210
 t131:=Tryz.underlying157
 a131:=Tryz.isAgg157
 z131:=Tryz.sizeOf157
 v131:=Tryz.zeroValue157
 t182:=Tryz.underlying312
 a182:=Tryz.isAgg312
 z182:=Tryz.sizeOf312
 v182:=Tryz.zeroValue312
 t183:=Tryz.underlying313
 a183:=Tryz.isAgg313
 z183:=Tryz.sizeOf313
 v183:=Tryz.zeroValue313
 t218:=Tryz.underlying321
 a218:=Tryz.isAgg321
 z218:=Tryz.sizeOf321
 v218:=Tryz.zeroValue321
 t222:=Tryz.underlying325
 a222:=Tryz.isAgg325
 z222:=Tryz.sizeOf325
 v222:=Tryz.zeroValue325
 t228:=Tryz.underlying327
 a228:=Tryz.isAgg327
 z228:=Tryz.sizeOf327
 v228:=Tryz.zeroValue327
 t229:=Tryz.underlying248
 a229:=Tryz.isAgg248
 z229:=Tryz.sizeOf248
 v229:=Tryz.zeroValue248 }
end Go.Proofs
namespace Go.Proofs.YthmnlfenkhmmhaaGreat
noncomputable section
open List (length map)
set_option linter.unusedVariables false
set_option linter.unusedSectionVars false
set_option linter.unusedSimpArgs false
set_option maxRecDepth 100000
set_option maxHeartbeats 4000000
section
open Go.Sort Go.RowKit
theorem R.redo{A:Nat→Prop}{m:BM}{w w':World}{st:St}(hR:R A m w st){l k:Nat}{els els':List (List AV)}(hl:st[l]?=some (some (k,els))){b:Blk}(hb:m l=some b)(hh:b.has=true)(hm:b.mp=false)
  (hsize:w.heap.size≤w'.heap.size) (hos:w'.os=w.os) (htape:w'.tape=w.tape) (hout:w'.output=w.output) (hother:∀B,B<w.heap.size→B≠b.B→w'.heap[B]?=w.heap[B]?)
  (hlen:els'.length=els.length) (hthere:∀off,off<b.top→∃v,w'.cell? ⟨b.B,off,none⟩=some v) (hfree:∀off,off<b.top→fz w' ⟨b.B,off,none⟩=false) (hw:∀i (h:i<els'.length),els'[i].length=b.k)
  (hv:∀i (h:i<els'.length) j (h':j<els'[i].length),∃v,w'.cell? ⟨b.B,b.o+i*b.k+j,none⟩=some v∧V A m st.length w els'[i][j] v):
  R A m w' (st.set l (some (k,els')))∧ze0 A m st.length w A m st.length w':=by
 obtain ⟨hbk,hok,_⟩:=hR.at hb hl;replace hok:=hok hh
 have hS:ze0 A m st.length w A m st.length w':=
  ⟨Qg _,hsize,fun _ h=>h,fun _ h=>.inl h,fun _ _=>.inl rfl,fun l b h hh=>.inr ⟨l,b,h,hh,rfl⟩,fun B hB ho=>hother B hB (fun e=>ho l b hb hh e.symm),hos,htape,hout⟩
 have hV:∀av v,V A m st.length w av v→V A m st.length w' av v:=fun av v h=>h.step hR hS;have hlt:l<st.length:=hR.lt hb;refine ⟨⟨fun B hB=>QU (hR.aLow B hB) hsize,hR.aOwn,hR.inj,fun l' b' h=>?_,fun l' k' els1 he=>?_⟩,hS⟩
 ·obtain ⟨els1,he⟩:=hR.live l' b' h;by_cases e:l'=l
  ·subst e;have:b'=b:=Option.some.inj (h.symm.trans hb);subst this;exact ⟨els',by simp [hlt,hbk]⟩
  ·exact ⟨els1,by rw [QC (Ne.symm e)];exact he⟩
 ·rw [Q3];by_cases e:l'=l
  ·subst e;rw [QL hlt] at he;simp at he;obtain ⟨rfl,rfl⟩:=he;refine ⟨b,hb,hbk,fun _=>zqO.blk ⟨QU hok.low hsize,hthere,hfree,by rw [hlen];exact hok.fit hm,hw,fun i hi j hj=>?_⟩ hm,fun h=>by rw [hh] at h;cases h⟩;obtain ⟨v,h1,h2⟩:=hv i hi j hj;exact ⟨v,h1,hV _ _ h2⟩
  ·rw [QC (Ne.symm e)] at he;obtain ⟨b',h1,h2,h3,h4⟩:=hR.blk l' k' els1 he;refine ⟨b',h1,h2,fun hh'=>(h3 hh').keep hsize (hother _ (h3 hh').low (fun e'=>e (hR.inj l' l b' b h1 hb hh' hh e'))) hV,h4⟩
def zw1(s:List UInt8):List (List UInt8)→List (List UInt8)
 | []=>[s]
 |x ::r=>if s≤x then s ::x ::r else x ::zw1 s r
def zqk:List (List UInt8)→List (List UInt8)
 | []=>[]
 |x ::r=>zw1 x (zqk r)
theorem zmK(s:List UInt8):∀l,(zw1 s l).Perm (s ::l)
 | []=>.refl _
 |x ::r=>by
  unfold zw1;split
  ·exact .refl _
  ·exact (List.Perm.cons x (zmK s r)).trans (List.Perm.swap s x r)
theorem zhU:∀l,(zqk l).Perm l
 | []=>.refl _
 |x ::r=>(zmK x (zqk r)).trans (List.Perm.cons x (zhU r))
theorem zDi(a b:List UInt8):a≤b∨b≤a:=List.le_total a b
theorem zot(s:List UInt8):∀{l:List (List UInt8)},l.Pairwise (·≤·)→(zw1 s l).Pairwise (·≤·)
 | [],_=>by simp [zw1]
 |x ::r,h=>by
  obtain ⟨h1,h2⟩:=J5.1 h;unfold zw1;split
  ·rename_i hs;refine J5.2 ⟨fun y hy=>?_,h⟩
   rcases Qr.1 hy with rfl |hy
   ·exact hs
   ·exact List.le_trans hs (h1 y hy)
  ·rename_i hs;refine J5.2 ⟨fun y hy=>?_,zot s h2⟩
   rcases Qr.1 ((zmK s r).mem_iff.1 hy) with rfl |hy
   ·exact (zDi y x).resolve_left hs
   ·exact h1 y hy
theorem zlF:∀l:List (List UInt8),(zqk l).Pairwise (·≤·)
 | []=>List.Pairwise.nil
 |x ::r=>zot x (zlF r)
theorem zzQ(l:List (List UInt8)):(l.mergeSort fun x y=>decide (x≤y))=zqk l:=by
 have h1:(l.mergeSort fun x y=>decide (x≤y)).Pairwise (·≤·):=by
  have:=List.pairwise_mergeSort (le:=fun x y:List UInt8=>decide (x≤y)) (fun a b c h1 h2=>decide_eq_true (List.le_trans (of_decide_eq_true h1) (of_decide_eq_true h2))) (fun a b=>by
   rcases zDi a b with h |h
   ·simp [h]
   ·simp [h]) l
  exact this.imp fun h=>of_decide_eq_true h
 exact Ye (fun a b _ _ h1 h2=>List.le_antisymm h1 h2) h1 (zlF l) ((List.mergeSort_perm l _).trans (zhU l).symm)
def zyz(l:List (List UInt8)):Option (List (List UInt8)):=if l.length<4611686018427387904 then some (zqk l) else none
theorem zAI{l r:List (List UInt8)}(h:zyz l=some r):r.length=l.length:=by
 unfold zyz at h;split at h
 ·cases h;exact (zhU _).length_eq
 ·cases h
theorem zBN{w w':World}{b:Nat}(h:∀c e fr,w.heap[b]?=some (.cells c e fr)→∃c',w'.heap[b]?=some (.cells c' e fr))(hc:∃c e fr,w.heap[b]?=some (.cells c e fr))(off:Nat):fz w' ⟨b,off,none⟩=fz w ⟨b,off,none⟩:=by
 obtain ⟨c,e,fr,h1⟩:=hc;obtain ⟨c',h2⟩:=h c e fr h1;simp only [fz,h1,h2]
theorem zCC(l:List (List UInt8)){r:List (List UInt8)}(h:zyz l=some r):SC Tryz.prog 338 [.msl 0 0 (List.length l)] [.many 1 (List.map zm l)] (.tup []) [.many 1 (List.map zm r)]:=by
 unfold zyz at h;split at h
 case isFalse=>cases h
 rename_i hsz;cases h;refine ⟨⟨zdq (sz:=1) (fun _=>rfl),trivial⟩,?_⟩
 cases l with
 |nil =>
  exact zv9 (kn:=[]) (by kernel_rfl) (fun g h=>by cases h) 40 _ _ _ _ _ (by kernel_rfl)
 |cons x l =>
  generalize hl:x ::l=ss at *
  have hne:0<ss.length:=by rw [←hl];simp
  refine ⟨⟨_,Tryz.func338,by kernel_rfl,by kernel_rfl⟩,fun A m w vals hR hv=>?_⟩;have h0:V A m 1 w (.msl 0 0 ss.length) (vals.getD 0 undef):=hv.2 0 (by simp);obtain ⟨hlt,a,n',cap,hval,hb⟩:=h0.msl_inv;obtain ⟨b,h1,h2,h3,h4⟩:=hR.blk 0 1 (List.map zm ss) rfl;obtain ⟨rfl,hcap,hc⟩:=hb b h1
  rcases hc with rfl |⟨hh,hm,rfl,hfit⟩
  ·omega
  have hok:=(h3 hh).cells hm
  have hvals:vals=#[.slice (some ⟨b.B,b.o,none⟩) ss.length cap]:=by
   have h5:vals.size=1:=hv.1;obtain ⟨u,rfl⟩:=JP.1 h5;have:u=.slice (some ⟨b.B,b.o+0*b.k,none⟩) ss.length cap:=hval;rw [this];simp
  subst hvals;rw [h2] at hfit
  have hcell:∀j (hj:j<ss.length),w.cell? ⟨b.B,b.o+j,none⟩=some (.string (B ss[j])):=fun j hj=>by
   obtain ⟨v,h5,h6⟩:=hok.val j (by simpa using hj) 0 (by simp [zm]);rw [h2] at h5
   have e1:(List.map zm ss)[j]'(by simpa using hj)=[.lit (.string (B ss[j]))]:=by simp [zm]
   have h7:V A m 1 w (.lit (.string (B ss[j]))) v:=by
    have:((List.map zm ss)[j]'(by simpa using hj))[0]'(by simp [zm])=.lit (.string (B ss[j])):=by simp [zm]
    rw [←this];exact h6
   rw [h7.lit_inv] at h5;simpa using h5
  have hH:Holds encStr w b.B b.o ss.toArray:=fun j hj=>by
   have hj':j<ss.length:=by simpa using hj
   refine ⟨?_,zpe (hok.free _ (by omega))⟩;rw [hcell j hj'];congr 1;simp [encStr,hj']
  refine (Any.slices_Sort_string Tryz.lays190 b.B b.o cap ss w hH hok.low hsz).mono fun e w' ⟨he,n,os,hw'⟩=>?_;rw [zzQ] at hw';generalize hso:zqk ss=so at hw' ⊢
  have hsl:so.length=ss.length:=by rw [←hso];exact (zhU _).length_eq
  have hsa:so.toArray.size=ss.toArray.size:=by simp [hsl]
  have hlow:=hok.low
  have hheap:∀B,B<w.heap.size→B≠b.B→w'.heap[B]?=w.heap[B]?:=fun B hB hne=>by
   rw [hw',heap_grow_old _ _ (by simpa using hB)];show ((Go.Sort.ahead w n).heap.modify b.B _)[B]?=_;rw [QW,if_neg (Ne.symm hne)];rfl
  have hcs:∀a:Addr,a.block=b.B→w'.cell? a=(putRow encStr w b.B b.o so.toArray).cell? a:=fun a ha=>by
   rw [hw',cell?_grow _ _ _ (by rw [ha];simpa using hlow)];rfl
  have hin:∀j (hj:j<so.length),w'.cell? ⟨b.B,b.o+j,none⟩=some (.string (B so[j])):=fun j hj=>by
   rw [hcs _ rfl,cell?_putRow encStr w b.B b.o ss.toArray so.toArray hH hsa j (by simpa using hj)];simp [encStr,hj]
  have hobj:∃c e fr,w.heap[b.B]?=some (.cells c e fr):=by
   obtain ⟨v,h5⟩:=hok.there b.o (by omega);unfold World.cell? at h5;split at h5
   ·rename_i c e fr hq;exact ⟨c,e,_,hq⟩
   ·cases h5
  have hred:=hR.redo (w':=w') (l:=0) (k:=1) (els:=List.map zm ss) (els':=List.map zm so) rfl h1 hh hm (by rw [hw'];simp) (by rw [hw'];rfl) (by rw [hw'];rfl) (by rw [hw'];rfl) hheap (by simp [hsl])
   (fun off ho=>by
    rw [hcs _ rfl];by_cases hin2:b.o≤off∧off<b.o+so.length
    ·have:=hin (off-b.o) (by omega);rw [hcs _ rfl,show b.o+(off-b.o)=off by omega] at this;exact ⟨_,this⟩
    ·rw [cell?_putRow_other _ _ _ _ _ _ (by right;simp;omega)]
     exact hok.there off ho)
   (fun off ho=>by
    rw [zBN (w:=w) (fun c e fr hq=>?_) hobj]
    ·exact hok.free off ho
    ·refine ⟨putCells encStr b.o so.toArray c,?_⟩;rw [hw',heap_grow_old _ _ (by simpa using hlow)];show ((Go.Sort.ahead w n).heap.modify b.B _)[b.B]?=_;rw [QW,if_pos rfl];show (w.heap[b.B]?).map _=_
     rw [hq];rfl)
   (fun i hi=>by rw [h2];simp [zm])
   (fun i hi j hj=>by
    have hi':i<so.length:=by simpa using hi
    have hj0:j=0:=by simp [zm] at hj;exact hj
    subst hj0;refine ⟨.string (B so[i]),by rw [h2,Nat.mul_one,Jf];exact hin i hi',?_⟩
    have:(List.map zm so)[i][0]'hj=.lit (.string (B so[i])):=by simp [zm]
    rw [this];exact .imm (.lit _))
  exact ⟨.tuple #[],A,m,_,.tup [],he,hred.1,hred.2,.imm (.tup _ _ rfl fun i hi=>by cases hi),rfl,rfl⟩
end
structure zn where
  Op:Int
  A:Int
  C:T0
  M:T0
def zv(x:zn):List AV:=[iA x.Op,iA x.A,sA x.C,sA x.M]
def zhp(a:UInt8):Bool:=
  ((decide (97≤(a.toNat:Int)))&&(decide ((a.toNat:Int)≤122)))
instance (a:UInt8):PF Tryz.prog 237 [.lit (.int .u8 (a.toNat:Int))] (some (zhp a)) bA:=.of fun r h=>by
 refine zo Tryz.func237 y kz y y ?_;unfold zhp at h;refine A ?_;refine A ?_;refine zL ?_;obtain rfl:=h;exact ⟨_,y,zbc []⟩
def zeW(a:UInt8):Bool:=
  ((decide (65≤(a.toNat:Int)))&&(decide ((a.toNat:Int)≤90)))
instance (a:UInt8):PF Tryz.prog 249 [.lit (.int .u8 (a.toNat:Int))] (some (zeW a)) bA:=.of fun r h=>by
 refine zo Tryz.func249 y kz y y ?_;unfold zeW at h;refine A ?_;refine A ?_;refine zL ?_;obtain rfl:=h;exact ⟨_,y,zbc []⟩
def ziG(a:UInt8):Bool:=
  ((decide (48≤(a.toNat:Int)))&&(decide ((a.toNat:Int)≤57)))
instance (a:UInt8):PF Tryz.prog 322 [.lit (.int .u8 (a.toNat:Int))] (some (ziG a)) bA:=.of fun r h=>by
 refine zo Tryz.func322 y kz y y ?_;unfold ziG at h;refine A ?_;refine A ?_;refine zL ?_;obtain rfl:=h;exact ⟨_,y,zbc []⟩
def zuy(a:T0):Option (Bool):=
  some ((!(a == []))&&(decide ((length a:Int)≤8)))
def zh5(b:T0)(a:Int):Option (Sum (Int) (Sum (Unit) (Bool))):=
  cond (decide (a<(length b:Int))) ((idx b a).bind fun i=>(cond (!(zhp i)) ((idx b a).bind fun c=>some (!(zeW c))) (some false)).bind fun d=>(cond d ((idx b a).bind fun e=>some (!(ziG e))) (some false)).bind fun f=>cond f (some (.inr (.inr false))) (some (.inl (IntKind.i64.wrap (a+1))))) (some (.inr (.inl ())))
def zmM(a:T0):Option (Bool):=
  (zr (fun z=>zh5 a z) 0).bind fun o=>zQ o (fun b=>zuy a) some
instance (a:T0):PF Tryz.prog 236 [sA a] (zmM a) bA:=⟨fun r h=>by
 refine zo Tryz.func236 y kz y y<|A ?_;refine zi<|A ?_;obtain ⟨o,ho,h⟩:=bs h;refine lpB ho (fun z=>[(0,sA a),(5,iA (length a:Int)),(6,iA z)]) (fun z=>[]) (fun b=>[(0,sA a)]) (fun b=>[]) (pG Tryz.f236 bA) (zbZ []) ?_ ?_
 ·rintro m r h;refine A ?_;refine zi ?_;refine zeh h y (fun c h=>?_) fun c h=>?_
  ·refine zg<|zi<|zs<|A ?_;obtain ⟨n,e,f,i,j,l,h⟩:=bs3 h;refine A ?_;refine zeh h y (fun d h=>?_) fun d h=>?_
   ·refine A ?_;refine zL ?_;obtain rfl:=sm h;exact ⟨_,y,_,y,zbc []⟩
   ·refine zg<|A ?_;obtain rfl:=sm h;exact ⟨_,y,zy []⟩
  ·refine zJ ?_;obtain rfl:=sm h;exact ⟨y,_,y,zy []⟩
 ·rintro ⟨⟩ rfl;refine zA<|A ?_
  exact RT0⟩
def zhn(a:T0):Option (Bool):=
  (zmM a).bind fun b=>(cond (b&&(decide (1<(length a:Int)))) ((idx a 0).bind fun c=>some (zeW c)) (some false)).bind fun d=>some d
instance (a:T0):PF Tryz.prog 158 [sA a] (zhn a) bA:=⟨fun r h=>by
 refine zo Tryz.func158 y kz y y<|A ?_;obtain ⟨b,c,d,e,h⟩:=bs2 h;refine A ?_
 exact RT0⟩
def zk6(a:T0):Option (Bool):=
  (cond (a == [36,105,110,105,116]) (some true) ((zmM a).bind fun b=>(cond b ((idx a 0).bind fun c=>some (zhp c)) (some false)).bind fun d=>some d)).bind fun e=>some e
instance (a:T0):PF Tryz.prog 152 [sA a] (zk6 a) bA:=⟨fun r h=>by
 refine zo Tryz.func152 y kz y y<|A ?_;obtain ⟨b,c,h⟩:=bs h;refine A ?_
 exact RT0⟩
def zdX(b:T0)(a:T0):Option (Bool):=
  (cond (decide ((length a:Int)≤(length b:Int))) ((zkS b 0 (length a:Int)).bind fun c=>some (c == a)) (some false)).bind fun d=>some d
instance (f:T0)(e:T0):PF Tryz.prog 168 [sA f,sA e] (zdX f e) bA:=⟨fun r h=>by
 refine zo Tryz.func168 y kz y y<|A ?_;obtain ⟨l,d,h⟩:=bs h;refine A ?_;refine zgn (x:=l) (j:=5) 6 y y y y y gpn (fun c=>by replace d:=bT c d;obtain ⟨m,i,d⟩:=bs d;obtain rfl:=sm d;exact g y c<|mv y<|g y c<|mv y<|g y c<|lnS ti y y<|g y c<|slS (a:=0) (b:=(length e:Int)) ti y y y (zqT y i) i<|g y c<|mv y<|g y c<|seq ti y y<|zz (eg [11,12,13,14,15,16] 6 y y y y)) (fun hb=>(sm (bF hb d)).symm)<|A ?_
 exact RT0⟩
def zdB(a:T0)(b:T0):Option (T0):=
  (zdX a b).bind fun c=>cond c ((zkS a (length b:Int) (length a:Int)).bind fun d=>some d) (some a)
instance (c:T0)(d:T0):PF Tryz.prog 323 [sA c,sA d] (zdB c d) sA:=⟨fun r h=>by
 refine zo Tryz.func323 y kz y y<|A ?_;refine zi ?_;obtain ⟨i,j,h⟩:=bs h;refine A ?_;refine zeh h y (fun e h=>?_) fun e h=>?_
 ·obtain ⟨l,f,h⟩:=bs h;refine A ?_;refine u<|slS (a:=(length d:Int)) (b:=(length c:Int)) ti y y (zwD y f) y f<|A ?_;exact RT0
 ·refine zg<|A ?_
  exact RT0⟩
def zfH(a:T0)(b:T0):Option (T0):=
  (zdB a b).bind fun c=>some c
instance (a:T0)(b:T0):PF Tryz.prog 238 [sA a,sA b] (zfH a b) sA:=⟨fun r h=>by
 refine zo Tryz.func238 y kz y y<|A ?_;obtain ⟨c,d,h⟩:=bs h;refine A ?_
 exact RT0⟩
def zi0(b:T0):Option (Bool):=
  (zfH b [91]).bind fun c=>(zfH c [91]).bind fun a=>(cond (a == [73]) (some true) ((zhn a).bind fun d=>some d)).bind fun e=>some e
instance (a:T0):PF Tryz.prog 153 [sA a] (zi0 a) bA:=⟨fun r h=>by
 refine zo Tryz.func153 y kz y y<|A ?_;obtain ⟨b,c,d,e,h⟩:=bs2 h;refine A ?_;obtain ⟨f,i,h⟩:=bs h;refine A ?_
 exact RT0⟩
def zjE(a:T0):Option (Bool):=
  (cond (!(a == [73])) ((zi0 a).bind fun b=>some b) (some false)).bind fun c=>some c
instance (a:T0):PF Tryz.prog 107 [sA a] (zjE a) bA:=⟨fun r h=>by
 refine zo Tryz.func107 y kz y y<|A ?_;obtain ⟨b,c,h⟩:=bs h;refine A ?_
 exact RT0⟩
def zge(a:Int)(b:Int)(c:Int):Bool:=
  ((decide (b≤a))&&(decide (a≤c)))
instance (a:Int)(b:Int)(c:Int):PF Tryz.prog 288 [iA a,iA b,iA c] (some (zge a b c)) bA:=.of fun r h=>by
 refine zo Tryz.func288 y kz y y ?_;unfold zge at h;refine A ?_;refine A ?_;refine zL ?_;obtain rfl:=h;exact ⟨_,y,zbc []⟩
def znq(a:Int):Bool:=
  (zge a 1 61)
instance (a:Int):PF Tryz.prog 360 [iA a] (some (znq a)) bA:=.of fun r h=>by
 refine zo Tryz.func360 y kz y y ?_;unfold znq at h;refine A ?_;refine A ?_;refine zL ?_;obtain rfl:=h;exact ⟨_,y,zbc []⟩
def zgY(a:Int):Bool:=
  (zge a 20 36)
instance (a:Int):PF Tryz.prog 201 [iA a] (some (zgY a)) bA:=.of fun r h=>by
 refine zo Tryz.func201 y kz y y ?_;unfold zgY at h;refine A ?_;refine A ?_;refine zL ?_;obtain rfl:=h;exact ⟨_,y,zbc []⟩
def zoH(a:Int)(b:Int):Bool:=
  cond (a == (1:Int)) ((zge b (-2147483648) 2147483647)) (cond ((a == (3:Int))||(a == (4:Int))) ((zge b 0 15)) (cond (zgY a) ((zge b 0 99)) ((b == (0:Int)))))
instance (a:Int)(b:Int):PF Tryz.prog 361 [iA a,iA b] (some (zoH a b)) bA:=.of fun r h=>by
 refine zo Tryz.func361 y kz y y<|A ?_;refine zi<|zs<|A ?_;refine zeh h y (fun c h=>?_) fun c h=>?_
 ·refine A ?_;refine zL ?_;obtain rfl:=h;exact ⟨_,y,zbc []⟩
 ·refine A ?_;refine zeh h y (fun d h=>?_) fun d h=>?_
  ·refine A ?_;refine zL ?_;obtain rfl:=h;exact ⟨_,y,zbc []⟩
  ·refine A ?_;refine zeh h y (fun e h=>?_) fun e h=>?_
   ·refine A ?_;refine zL ?_;obtain rfl:=h;exact ⟨_,y,zbc []⟩
   ·refine zg<|A ?_;refine zL ?_;obtain rfl:=h;exact ⟨_,y,zbc []⟩
def zjI(a:Int):Bool:=
  (((a == (50:Int))||(a == (56:Int)))||(a == (57:Int)))
instance (a:Int):PF Tryz.prog 380 [iA a] (some (zjI a)) bA:=.of fun r h=>by
 refine zo Tryz.func380 y kz y y ?_;unfold zjI at h;refine A ?_;refine A ?_;refine zL ?_;obtain rfl:=h;exact ⟨_,y,zbc []⟩
def zEY(a:Int):Bool:=
  (zge a 38 45)
instance (a:Int):PF Tryz.prog 373 [iA a] (some (zEY a)) bA:=.of fun r h=>by
 refine zo Tryz.func373 y kz y y ?_;unfold zEY at h;refine A ?_;refine A ?_;refine zL ?_;obtain rfl:=h;exact ⟨_,y,zbc []⟩
def zEX(a:Int):Bool:=
  (((a == (37:Int))||(zEY a))||(zjI a))
instance (a:Int):PF Tryz.prog 372 [iA a] (some (zEX a)) bA:=.of fun r h=>by
 refine zo Tryz.func372 y kz y y ?_;unfold zEX at h;refine A ?_;refine A ?_;refine zL ?_;obtain rfl:=h;exact ⟨_,y,zbc []⟩
def ztD(b:Int)(a:T0):Option (Bool):=
  cond (zjI b) ((zjE a).bind fun c=>some c) (cond (zEX b) ((zhn a).bind fun d=>some d) (some (a == [])))
instance (a:Int)(b:T0):PF Tryz.prog 362 [iA a,sA b] (ztD a b) bA:=⟨fun r h=>by
 refine zo Tryz.func362 y kz y y<|A ?_;refine zi<|zs<|A ?_;refine zeh h y (fun c h=>?_) fun c h=>?_
 ·obtain ⟨e,f,h⟩:=bs h;refine A ?_;exact RT0
 ·refine A ?_;refine zeh h y (fun d h=>?_) fun d h=>?_
  ·obtain ⟨i,j,h⟩:=bs h;refine A ?_;exact RT0
  ·refine zg<|A ?_
   exact RT0⟩
def ztE(b:Int)(a:T0):Option (Bool):=
  cond (zEY b) ((zk6 a).bind fun c=>some (c&&(!(a == [36,105,110,105,116])))) (some (a == []))
instance (a:Int)(b:T0):PF Tryz.prog 363 [iA a,sA b] (ztE a b) bA:=⟨fun r h=>by
 refine zo Tryz.func363 y kz y y<|A ?_;refine zi<|A ?_;refine zeh h y (fun c h=>?_) fun c h=>?_
 ·obtain ⟨d,e,h⟩:=bs h;refine A ?_;exact RT0
 ·refine zg<|A ?_
  exact RT0⟩
def zxd(a:zn):Option (Bool):=
  (cond ((znq a.Op)&&(zoH a.Op a.A)) ((ztD a.Op a.C).bind fun b=>some b) (some false)).bind fun c=>(cond c ((ztE a.Op a.M).bind fun d=>some d) (some false)).bind fun e=>some e
instance (a:zn):PF Tryz.prog 326 [.agg (zv a)] (zxd a) bA:=⟨fun r h=>by
 refine zo Tryz.func326 y kz y y<|A ?_;obtain ⟨b,c,d,e,h⟩:=bs2 h;refine A ?_
 exact RT0⟩
def znu(a:UInt8):Bool:=
  ((decide (65≤(a.toNat:Int)))&&(decide ((a.toNat:Int)≤90)))
instance (a:UInt8):PF Tryz.prog 265 [.lit (.int .u8 (a.toNat:Int))] (some (znu a)) bA:=.of fun r h=>by
 refine zo Tryz.func265 y kz y y ?_;unfold znu at h;refine A ?_;refine A ?_;refine zL ?_;obtain rfl:=h;exact ⟨_,y,zbc []⟩
def zlS(a:UInt8):Bool:=
  ((decide (97≤(a.toNat:Int)))&&(decide ((a.toNat:Int)≤122)))
instance (a:UInt8):PF Tryz.prog 266 [.lit (.int .u8 (a.toNat:Int))] (some (zlS a)) bA:=.of fun r h=>by
 refine zo Tryz.func266 y kz y y ?_;unfold zlS at h;refine A ?_;refine A ?_;refine zL ?_;obtain rfl:=h;exact ⟨_,y,zbc []⟩
def znt(a:UInt8):Bool:=
  ((decide (48≤(a.toNat:Int)))&&(decide ((a.toNat:Int)≤57)))
instance (a:UInt8):PF Tryz.prog 267 [.lit (.int .u8 (a.toNat:Int))] (some (znt a)) bA:=.of fun r h=>by
 refine zo Tryz.func267 y kz y y ?_;unfold znt at h;refine A ?_;refine A ?_;refine zL ?_;obtain rfl:=h;exact ⟨_,y,zbc []⟩
def ztK(a:T0):Option (Bool):=
  some ((decide (2≤(length a:Int)))&&(decide ((length a:Int)≤8)))
def zez(b:T0)(a:Int):Option (Sum (Int) (Sum (Unit) (Bool))):=
  cond (decide (a<(length b:Int))) ((idx b a).bind fun c=>(cond (!(znu c)) ((cond (a == (0:Int)) (some true) ((idx b a).bind fun d=>(cond (!(zlS d)) ((idx b a).bind fun e=>some (!(znt e))) (some false)).bind fun f=>some f)).bind fun i=>some i) (some false)).bind fun j=>cond j (some (.inr (.inr false))) (some (.inl (IntKind.i64.wrap (a+1))))) (some (.inr (.inl ())))
def znr(a:T0):Option (Bool):=
  (zr (fun z=>zez a z) 0).bind fun o=>zQ o (fun b=>ztK a) some
instance (a:T0):PF Tryz.prog 185 [sA a] (znr a) bA:=⟨fun r h=>by
 refine zo Tryz.func185 y kz y y<|A ?_;refine zi<|A ?_;obtain ⟨o,ho,h⟩:=bs h;refine lpB ho (fun z=>[(0,sA a),(3,iA z)]) (fun z=>[]) (fun b=>[(0,sA a)]) (fun b=>[]) (pG Tryz.f185 bA) (zbZ []) ?_ ?_
 ·rintro l r h;refine zi<|A ?_;refine zeh h y (fun c h=>?_) fun c h=>?_
  ·refine zg<|zi<|zs ?_;obtain ⟨e,f,i,j,h⟩:=bs2 h;refine A ?_;refine zeh h y (fun d h=>?_) fun d h=>?_
   ·refine A ?_;refine zL ?_;obtain rfl:=sm h;exact ⟨_,y,_,y,zbc []⟩
   ·refine zg<|A ?_;obtain rfl:=sm h;exact ⟨_,y,zy []⟩
  ·refine zJ ?_;obtain rfl:=sm h;exact ⟨y,_,y,zy []⟩
 ·rintro ⟨⟩ rfl;refine zA<|A ?_
  exact RT0⟩
def zoJ(a:T0):Option (Bool):=
  (cond (a == [73]) (some true) ((znr a).bind fun b=>some b)).bind fun c=>some c
def ziQ(a:T0)(b:Int):Option (Sum (T0×Int) (Sum (T0) (Bool))):=
  (cond ((decide (b<2))&&(decide (0<(length a:Int)))) ((idx a 0).bind fun e=>some ((e.toNat:Int) == (91:Int))) (some false)).bind fun c=>cond c ((zkS a 1 (length a:Int)).bind fun d=>some (.inl (d,(IntKind.i64.wrap (b+1))))) (some (.inr (.inl a)))
def zns(a:T0):Option (Bool):=
  (zr (fun z=>ziQ z.1 z.2) (a,0)).bind fun o=>zQ o (fun b=>zoJ b) some
instance (e:T0):PF Tryz.prog 187 [sA e] (zns e) bA:=⟨fun r h=>by
 refine zo Tryz.func187 y kz y y<|A ?_;refine zi<|A ?_;obtain ⟨o,ho,h⟩:=bs h;refine lpB ho (fun z=>[(0,sA z.1),(3,iA z.2)]) (fun z=>[]) (fun b=>[(0,sA b)]) (fun b=>[]) (pG Tryz.f187 bA) (zbZ []) ?_ ?_
 ·rintro ⟨f,q⟩ r h;refine zi ?_;obtain ⟨i,j,h⟩:=bs h;refine A ?_;refine zeh h y (fun d h=>?_) fun d h=>?_
  ·refine zg<|zi<|zs ?_;obtain ⟨l,c,h⟩:=bs h;refine rl y<|u<|mv y<|u<|slS (a:=1) (b:=(length f:Int)) ti y y (zwD y c) y c<|A ?_;refine A ?_;obtain rfl:=sm h;exact ⟨_,y,zy []⟩
  ·refine zJ ?_;obtain rfl:=sm h;exact ⟨y,_,y,zy []⟩
 ·rintro m rfl;refine zA ?_;obtain ⟨n,p,h⟩:=bs h;refine A ?_
  exact RT0⟩
def ziO(a:Bool):Bool:=
  cond a (true) (false)
def zlP(a:Int):Bool:=
  cond (a == (20:Int)) (ziO (a == (20:Int))) (cond (a == (46:Int)) (ziO (a == (46:Int))) (cond (a == (47:Int)) (ziO (a == (47:Int))) (cond (a == (48:Int)) (ziO (a == (48:Int))) (cond (a == (58:Int)) (ziO (a == (58:Int))) (ziO (a == (61:Int)))))))
instance (a:Int):PF Tryz.prog 203 [iA a] (some (zlP a)) bA:=.of fun r h=>by
 refine zo Tryz.func203 y kz y y<|A ?_;refine zi<|A ?_;refine zs ?_;refine zbG (X:=Bool) (fun z=>[(4,bA z)]) (fun z=>[]) (fun z=>ziO z=r) ?_ ?_
 ·refine A ?_;refine zeh h y (fun b h=>?_) fun b h=>?_
  ·refine zg ?_;exact ⟨(a == (20:Int)),h,zy []⟩
  ·refine A ?_;refine zeh h y (fun c h=>?_) fun c h=>?_
   ·refine zg ?_;exact ⟨(a == (46:Int)),h,zy []⟩
   ·refine A ?_;refine zeh h y (fun d h=>?_) fun d h=>?_
    ·refine zg ?_;exact ⟨(a == (47:Int)),h,zy []⟩
    ·refine A ?_;refine zeh h y (fun e h=>?_) fun e h=>?_
     ·refine zg ?_;exact ⟨(a == (48:Int)),h,zy []⟩
     ·refine A ?_;refine zeh h y (fun f h=>?_) fun f h=>?_
      ·refine zg ?_;exact ⟨(a == (58:Int)),h,zy []⟩
      ·refine A ?_;exact (⟨(a == (61:Int)),h,zy []⟩)
 ·rintro j h;refine zeh h y (fun i h=>?_) fun i h=>?_
  ·refine A ?_;refine zL ?_;obtain rfl:=h;exact ⟨_,y,zbc []⟩
  ·refine zg<|A ?_;refine zL ?_;obtain rfl:=h;exact ⟨_,y,zbc []⟩
def zhf(a:Bool):Bool:=
  cond a (true) (false)
def zka(a:Int):Bool:=
  cond (a == (20:Int)) (zhf (a == (20:Int))) (cond (a == (46:Int)) (zhf (a == (46:Int))) (cond (a == (47:Int)) (zhf (a == (47:Int))) (cond (a == (48:Int)) (zhf (a == (48:Int))) (cond (a == (58:Int)) (zhf (a == (58:Int))) (zhf (a == (61:Int)))))))
instance (a:Int):PF Tryz.prog 212 [iA a] (some (zka a)) bA:=.of fun r h=>by
 refine zo Tryz.func212 y kz y y<|A ?_;refine zi<|A ?_;refine zs ?_;refine zbG (X:=Bool) (fun z=>[(4,bA z)]) (fun z=>[]) (fun z=>zhf z=r) ?_ ?_
 ·refine A ?_;refine zeh h y (fun b h=>?_) fun b h=>?_
  ·refine zg ?_;exact ⟨(a == (20:Int)),h,zy []⟩
  ·refine A ?_;refine zeh h y (fun c h=>?_) fun c h=>?_
   ·refine zg ?_;exact ⟨(a == (46:Int)),h,zy []⟩
   ·refine A ?_;refine zeh h y (fun d h=>?_) fun d h=>?_
    ·refine zg ?_;exact ⟨(a == (47:Int)),h,zy []⟩
    ·refine A ?_;refine zeh h y (fun e h=>?_) fun e h=>?_
     ·refine zg ?_;exact ⟨(a == (48:Int)),h,zy []⟩
     ·refine A ?_;refine zeh h y (fun f h=>?_) fun f h=>?_
      ·refine zg ?_;exact ⟨(a == (58:Int)),h,zy []⟩
      ·refine A ?_;exact (⟨(a == (61:Int)),h,zy []⟩)
 ·rintro j h;refine zeh h y (fun i h=>?_) fun i h=>?_
  ·refine A ?_;refine zL ?_;obtain rfl:=h;exact ⟨_,y,zbc []⟩
  ·refine zg<|A ?_;refine zL ?_;obtain rfl:=h;exact ⟨_,y,zbc []⟩
def zgG(a:T0):Option (T0×Bool):=
  (zi0 a).bind fun b=>(cond (!b) (some true) ((idx a 0).bind fun c=>some (!((c.toNat:Int) == (91:Int))))).bind fun d=>cond d (some ([],false)) ((zkS a 1 (length a:Int)).bind fun e=>some (e,true))
instance (c:T0):PF Tryz.prog 220 [sA c] (zgG c) (fun r=>(.tup [sA r.1,bA r.2])):=⟨fun r h=>by
 refine zo Tryz.func220 y kz y y<|A ?_;refine zi ?_;obtain ⟨f,i,j,l,h⟩:=bs2 h;refine A ?_;refine zeh h y (fun d h=>?_) fun d h=>?_
 ·refine A ?_;exact RT0
 ·refine zg ?_;obtain ⟨m,e,h⟩:=bs h;refine rg y<|u<|mv y<|u<|slS (a:=1) (b:=(length c:Int)) ti y y (zwD y e) y e<|A ?_
  exact RT0⟩
structure zj where
  Name:T0
  Type_:T0
  Static:Bool
def zD(x:zj):List AV:=[sA x.Name,sA x.Type_,bA x.Static]
structure zX where
  At:Int
  Locals:T1
  Stack:T1
def zae(x:zX):List AV:=[iA x.At,.isl 1 (map zm x.Locals),.isl 1 (map zm x.Stack)]
structure zT where
  From:Int
  To:Int
  At:Int
  C:T0
def z7(x:zT):List AV:=[iA x.From,iA x.To,iA x.At,sA x.C]
structure zc where
  Name:T0
  Params:T1
  Ret:T0
  Static:Bool
  Abstract:Bool
  Locals:Int
  Stack:Int
  Code:List zn
  Maps:List zX
  Traps:List zT
def zf(x:zc):List AV:=[sA x.Name,.isl 1 (map zm x.Params),sA x.Ret,bA x.Static,bA x.Abstract,iA x.Locals,iA x.Stack,.isl 4 (map zv x.Code),.isl 3 (map zae x.Maps),.isl 4 (map z7 x.Traps)]
structure za where
  Name:T0
  Super:T0
  Interface:Bool
  Impl:T1
  Fields:List zj
  Methods:List zc
def zb(x:za):List AV:=[sA x.Name,sA x.Super,bA x.Interface,.isl 1 (map zm x.Impl),.isl 3 (map zD x.Fields),.isl 10 (map zf x.Methods)]
def zjV(a:zj):Option (Bool):=
  (zk6 a.Name).bind fun b=>(cond (b&&(!(a.Name == [36,105,110,105,116]))) ((zi0 a.Type_).bind fun c=>some c) (some false)).bind fun d=>some d
theorem znM(a:zj){r:Bool}(h:zjV a=some r):zan Tryz.prog 151 [.agg (zD a)] (bA r):=by
 refine zo Tryz.func151 y kz y y<|A ?_;obtain ⟨b,c,d,e,h⟩:=bs2 h;refine A ?_;exact RT0
instance (a:zj):PF Tryz.prog 151 [.agg (zD a)] (zjV a) bA:=⟨fun _=>znM a⟩
def zjU(a:zj):T0:=
  a.Name
theorem znL(a:zj){r:T0}(h:zjU a=r):zan Tryz.prog 150 [.agg (zD a)] (sA r):=by
 refine zo Tryz.func150 y kz y y ?_;unfold zjU at h;refine A ?_;refine A ?_;refine zL ?_;obtain rfl:=h;exact ⟨_,y,zbc []⟩
instance (a:zj):PF Tryz.prog 150 [.agg (zD a)] (some (zjU a)) sA:=.of fun _=>znL a
def zg7(a:zj)(b:T0)(c:T0)(d:Bool):Bool:=
  ((zjU (zj.mk b c d)) == (zjU a))
instance (d:zj)(a:T0)(b:T0)(c:Bool):PF Tryz.prog 235 [.agg (zD d),.ipt 1 [[.fn (.func 150) [] []]] 0 0,.ipt 3 [[sA a,sA b,bA c]] 0 0] (some (zg7 d a b c)) bA:=.of fun r h=>by
 refine zo Tryz.func235 y kz y y ?_;unfold zg7 at h;refine A ?_;refine rdA [(4,_)] [] [] [0,1,2,3,4,5,6,7] [(4,_),(11,_),(10,_),(9,_),(8,_),(7,_),(6,_),(5,_)] 0 (zgE ⟨peC,peC,(by exact pb y (pc (znL (zj.mk a b c) y) y y y<|w)),peC,peC,peC,peC,peC,t⟩ (zbZ [])) ?_;refine zL ?_;obtain rfl:=h;exact ⟨_,y,zbc []⟩
def zd5:Option (Int):=
  some (-1)
def za3(b:List zj)(c:T0)(d:T0)(e:Bool)(a:Int):Option (Sum (Int) (Sum (Unit) (Int))):=
  cond (decide (a<(length b:Int))) ((idx b a).bind fun f=>cond (zg7 f c d e) (some (.inr (.inr a))) (some (.inl (IntKind.i64.wrap (a+1))))) (some (.inr (.inl ())))
def zcA(a:List zj)(c:T0)(d:T0)(e:Bool):Option (Int):=
  (zr (fun z=>za3 a c d e z) 0).bind fun o=>zQ o (fun b=>zd5) some
instance (a:List zj)(c:T0)(d:T0)(e:Bool):PF Tryz.prog 315 [.isl 3 (map zD a),.fn (.func 235) [] [.ipt 1 [[.fn (.func 150) [] []]] 0 0,.ipt 3 [[sA c,sA d,bA e]] 0 0]] (zcA a c d e) iA:=⟨fun r h=>by
 refine zo Tryz.func315 y kz y y<|A ?_;refine zi<|A ?_;obtain ⟨o,ho,h⟩:=bs h;refine lpB ho (fun z=>[(0,.isl 3 (map zD a)),(1,.fn (.func 235) [] [.ipt 1 [[.fn (.func 150) [] []]] 0 0,.ipt 3 [[sA c,sA d,bA e]] 0 0]),(7,iA (length a:Int)),(8,iA z)]) (fun z=>[]) (fun b=>[]) (fun b=>[]) (pG Tryz.f315 iA) (zbZ []) ?_ ?_
 ·rintro j r h;refine A ?_;refine zi ?_;refine zeh h y (fun f h=>?_) fun f h=>?_
  ·refine zg<|zi<|zs<|A ?_;obtain ⟨l,m,h⟩:=bs h;refine A ?_;refine zeh h y (fun i h=>?_) fun i h=>?_
   ·refine A ?_;refine zL ?_;obtain rfl:=sm h;exact ⟨_,y,_,y,zbc []⟩
   ·refine zg<|A ?_;obtain rfl:=sm h;exact ⟨_,y,zy []⟩
  ·refine zJ ?_;obtain rfl:=sm h;exact ⟨y,_,y,zy []⟩
 ·rintro ⟨⟩ rfl;refine zA<|A ?_
  exact RT0⟩
def zax(a:List zj)(b:T0)(c:T0)(d:Bool):Option (Bool):=
  (zcA a b c d).bind fun e=>some (decide (0≤e))
theorem zdl(a:List zj)(b:T0)(c:T0)(d:Bool){r:Bool}(h:zax a b c d=some r):zan Tryz.prog 234 [.isl 3 (map zD a),.fn (.func 235) [] [.ipt 1 [[.fn (.func 150) [] []]] 0 0,.ipt 3 [[sA b,sA c,bA d]] 0 0]] (bA r):=by
 refine zo Tryz.func234 y kz y y<|A ?_;obtain ⟨e,f,h⟩:=bs h;refine A ?_;exact RT0
instance (a:List zj)(b:T0)(c:T0)(d:Bool):PF Tryz.prog 234 [.isl 3 (map zD a),.fn (.func 235) [] [.ipt 1 [[.fn (.func 150) [] []]] 0 0,.ipt 3 [[sA b,sA c,bA d]] 0 0]] (zax a b c d) bA:=⟨fun _=>zdl a b c d⟩
def zma(a:List zj)(b:Int):Option (Bool):=
  some (decide ((length a:Int)≤b))
def zgQ(c:List zj)(b:Int):Option (Sum (Int) (Sum (Unit) (Bool))):=
  cond (decide (b<(length c:Int))) ((idx c b).bind fun a=>(zjV a).bind fun d=>(cond (!d) (some true) ((zkS c 0 b).bind fun e=>(zax e a.Name a.Type_ a.Static).bind fun f=>some f)).bind fun i=>cond i (some (.inr (.inr false))) (some (.inl (IntKind.i64.wrap (b+1))))) (some (.inr (.inl ())))
def zgr(a:List zj)(c:Int):Option (Bool):=
  (zr (fun z=>zgQ a z) 0).bind fun o=>zQ o (fun b=>zma a c) some
instance (f:List zj)(i:Int):PF Tryz.prog 149 [.isl 3 (map zD f),iA i,.fn (.func 150) [] [],.fn (.func 151) [] []] (zgr f i) bA:=⟨fun r h=>by
 refine zo Tryz.func149 y kz y y<|A ?_;refine zi<|A ?_;obtain ⟨o,ho,h⟩:=bs h;refine lpB ho (fun z=>[(0,.isl 3 (map zD f)),(1,iA i),(3,.fn (.func 151) [] []),(6,.mpt 0 0 0),(11,.isl 3 (map zD f)),(12,iA (length f:Int)),(13,iA z)]) (fun z=>[some (1,[[.fn (.func 150) [] []]])]) (fun b=>[(0,.isl 3 (map zD f)),(1,iA i)]) (fun b=>[]) (pG Tryz.f149 bA) (zbZ [.old 0]) ?_ ?_
 ·rintro B r h;refine A ?_;refine zi ?_;refine zeh h y (fun n h=>?_) fun n h=>?_
  ·refine zg<|zi<|zs ?_;obtain ⟨e,C,h⟩:=bs h;refine A ?_;obtain ⟨D,p,q,d,h⟩:=bs2 h;refine rg y<|u<|mv y<|u<|ld ti y y<|u<|pc (znM e p) y y y<|u<|nt y<|u<|mv y<|ztF (x:=q) (j:=4) 5 y y y y y gpn (fun c=>by replace d:=bF c d;obtain ⟨s,l,d⟩:=bs d;obtain ⟨E,v,d⟩:=bs d;obtain rfl:=sm d;exact g y c<|mv y<|g y c<|mv y<|g y c<|slI (a:=0) (b:=B) ti y ti y y y (zqT y l) l<|g y c<|mf y y<|g y c<|pcs (zdl s e.Name e.Type_ e.Static v) y y (.cons (si y) (.cons (zfW t ⟨(zay y ⟨(si y),t⟩),(zay y ⟨(si y),(si y),(si y),t⟩),t⟩) .nil)) za9<|zz (eg [23,24,25,26,27] 5 y y y y)) (fun hb=>(sm (bT hb d)).symm)<|zz ?_;refine zeh h y (fun m h=>?_) fun m h=>?_
   ·refine A ?_;refine zL ?_;obtain rfl:=sm h;exact ⟨_,y,_,y,zbc []⟩
   ·refine zg<|A ?_;obtain rfl:=sm h;exact ⟨_,y,zy [.old 0]⟩
  ·refine zJ ?_;obtain rfl:=sm h;exact ⟨y,_,y,zy []⟩
 ·rintro ⟨⟩ rfl;refine zA<|A ?_
  exact RT0⟩
def zlx(a:T0):Option (Bool):=
  (zi0 a).bind fun b=>some (!b)
instance (a:T0):PF Tryz.prog 324 [sA a,.ipt 1 [[.fn (.func 153) [] []]] 0 0] (zlx a) bA:=⟨fun r h=>by
 refine zo Tryz.func324 y kz y y<|A ?_;obtain ⟨b,c,h⟩:=bs h;refine A ?_
 exact RT0⟩
def zfG:Option (Int):=
  some (-1)
def zb3(b:T1)(a:Int):Option (Sum (Int) (Sum (Unit) (Int))):=
  cond (decide (a<(length b:Int))) ((idx b a).bind fun c=>(zlx c).bind fun d=>cond d (some (.inr (.inr a))) (some (.inl (IntKind.i64.wrap (a+1))))) (some (.inr (.inl ())))
def zd6(a:T1):Option (Int):=
  (zr (fun z=>zb3 a z) 0).bind fun o=>zQ o (fun b=>zfG) some
instance (a:T1):PF Tryz.prog 181 [.isl 1 (map zm a),.fn (.func 324) [] [.ipt 1 [[.fn (.func 153) [] []]] 0 0]] (zd6 a) iA:=⟨fun r h=>by
 refine zo Tryz.func181 y kz y y<|A ?_;refine zi<|A ?_;obtain ⟨o,ho,h⟩:=bs h;refine lpB ho (fun z=>[(0,.isl 1 (map zm a)),(1,.fn (.func 324) [] [.ipt 1 [[.fn (.func 153) [] []]] 0 0]),(7,iA (length a:Int)),(8,iA z)]) (fun z=>[]) (fun b=>[]) (fun b=>[]) (pG Tryz.f181 iA) (zbZ []) ?_ ?_
 ·rintro e r h;refine A ?_;refine zi ?_;refine zeh h y (fun c h=>?_) fun c h=>?_
  ·refine zg<|zi<|zs<|A ?_;obtain ⟨f,i,j,l,h⟩:=bs2 h;refine A ?_;refine zeh h y (fun d h=>?_) fun d h=>?_
   ·refine A ?_;refine zL ?_;obtain rfl:=sm h;exact ⟨_,y,_,y,zbc []⟩
   ·refine zg<|A ?_;obtain rfl:=sm h;exact ⟨_,y,zy []⟩
  ·refine zJ ?_;obtain rfl:=sm h;exact ⟨y,_,y,zy []⟩
 ·rintro ⟨⟩ rfl;refine zA<|A ?_
  exact RT0⟩
def zb2(a:T1):Option (Bool):=
  (zd6 a).bind fun b=>some (decide (0≤b))
theorem zeL(a:T1){r:Bool}(h:zb2 a=some r):zan Tryz.prog 99 [.isl 1 (map zm a),.fn (.func 324) [] [.ipt 1 [[.fn (.func 153) [] []]] 0 0]] (bA r):=by
 refine zo Tryz.func99 y kz y y<|A ?_;obtain ⟨b,c,h⟩:=bs h;refine A ?_;exact RT0
instance (a:T1):PF Tryz.prog 99 [.isl 1 (map zm a),.fn (.func 324) [] [.ipt 1 [[.fn (.func 153) [] []]] 0 0]] (zb2 a) bA:=⟨fun _=>zeL a⟩
def zlw(a:T1):Option (Bool):=
  (zb2 a).bind fun b=>some (!b)
instance (a:T1):PF Tryz.prog 241 [.isl 1 (map zm a),.fn (.func 153) [] []] (zlw a) bA:=⟨fun r h=>by
 refine zo Tryz.func241 y kz y y<|A ?_;obtain ⟨c,b,h⟩:=bs h;refine A ?_;refine u<|pcs (zeL a b) y y (.cons (si y) (.cons (zfW t ⟨(zay y ⟨(si y),t⟩),t⟩) .nil)) za9<|A ?_
 exact RT0⟩
def zqD(a:T0):Option (Bool):=
  (cond (a == [86]) (some true) ((zi0 a).bind fun b=>some b)).bind fun c=>some c
instance (a:T0):PF Tryz.prog 242 [sA a] (zqD a) bA:=⟨fun r h=>by
 refine zo Tryz.func242 y kz y y<|A ?_;obtain ⟨b,c,h⟩:=bs h;refine A ?_
 exact RT0⟩
def ziB(a:zc):Bool:=
  (((((!a.Static)&&(!(a.Name == [36,105,110,105,116])))&&(a.Locals == (0:Int)))&&(a.Stack == (0:Int)))&&((IntKind.i64.wrap ((IntKind.i64.wrap ((length a.Code:Int)+(length a.Maps:Int)))+(length a.Traps:Int))) == (0:Int)))
instance (a:zc):PF Tryz.prog 243 [.agg (zf a)] (some (ziB a)) bA:=.of fun r h=>by
 refine zo Tryz.func243 y kz y y ?_;unfold ziB at h;refine A ?_;refine A ?_;refine zL ?_;obtain rfl:=h;exact ⟨_,y,zbc []⟩
def zaM(a:zc):Int:=
  cond a.Static ((length a.Params:Int)) ((IntKind.i64.wrap ((length a.Params:Int)+1)))
theorem zjC(a:zc){r:Int}(h:zaM a=r):zan Tryz.prog 245 [.agg (zf a)] (iA r):=by
 refine zo Tryz.func245 y kz y y<|A ?_;refine zi<|A ?_;refine zeh h y (fun b h=>?_) fun b h=>?_
 ·refine A ?_;refine zL ?_;obtain rfl:=h;exact ⟨_,y,zbc []⟩
 ·refine zg<|A ?_;refine zL ?_;obtain rfl:=h;exact ⟨_,y,zbc []⟩
instance (a:zc):PF Tryz.prog 245 [.agg (zf a)] (some (zaM a)) iA:=.of fun _=>zjC a
def zE(a:Int)(b:Int)(c:Int):Bool:=
  ((decide (b≤a))&&(decide (a≤c)))
theorem zfh(a:Int)(b:Int)(c:Int){r:Bool}(h:zE a b c=r):zan Tryz.prog 244 [iA a,iA b,iA c] (bA r):=by
 refine zo Tryz.func244 y kz y y ?_;unfold zE at h;refine A ?_;refine A ?_;refine zL ?_;obtain rfl:=h;exact ⟨_,y,zbc []⟩
instance (a:Int)(b:Int)(c:Int):PF Tryz.prog 244 [iA a,iA b,iA c] (some (zE a b c)) bA:=.of fun _=>zfh a b c
def zhy(a:zn)(b:Int):Option (Bool):=
  (zxd a).bind fun c=>some ((!c)||((zgY a.Op)&&(decide (b≤a.A))))
instance (a:zn)(b:Int):PF Tryz.prog 325 [.agg (zv a),.ipt 1 [[iA b]] 0 0] (zhy a b) bA:=⟨fun r h=>by
 refine zo Tryz.func325 y kz y y<|A ?_;obtain ⟨c,d,h⟩:=bs h;refine A ?_
 exact RT0⟩
def ze4:Option (Int):=
  some (-1)
def zbD(b:List zn)(c:Int)(a:Int):Option (Sum (Int) (Sum (Unit) (Int))):=
  cond (decide (a<(length b:Int))) ((idx b a).bind fun d=>(zhy d c).bind fun e=>cond e (some (.inr (.inr a))) (some (.inl (IntKind.i64.wrap (a+1))))) (some (.inr (.inl ())))
def zdr(a:List zn)(c:Int):Option (Int):=
  (zr (fun z=>zbD a c z) 0).bind fun o=>zQ o (fun b=>ze4) some
instance (a:List zn)(c:Int):PF Tryz.prog 349 [.isl 4 (map zv a),.fn (.func 325) [] [.ipt 1 [[iA c]] 0 0]] (zdr a c) iA:=⟨fun r h=>by
 refine zo Tryz.func349 y kz y y<|A ?_;refine zi<|A ?_;obtain ⟨o,ho,h⟩:=bs h;refine lpB ho (fun z=>[(0,.isl 4 (map zv a)),(1,.fn (.func 325) [] [.ipt 1 [[iA c]] 0 0]),(7,iA (length a:Int)),(8,iA z)]) (fun z=>[]) (fun b=>[]) (fun b=>[]) (pG Tryz.f349 iA) (zbZ []) ?_ ?_
 ·rintro f r h;refine A ?_;refine zi ?_;refine zeh h y (fun d h=>?_) fun d h=>?_
  ·refine zg<|zi<|zs<|A ?_;obtain ⟨i,j,l,m,h⟩:=bs2 h;refine A ?_;refine zeh h y (fun e h=>?_) fun e h=>?_
   ·refine A ?_;refine zL ?_;obtain rfl:=sm h;exact ⟨_,y,_,y,zbc []⟩
   ·refine zg<|A ?_;obtain rfl:=sm h;exact ⟨_,y,zy []⟩
  ·refine zJ ?_;obtain rfl:=sm h;exact ⟨y,_,y,zy []⟩
 ·rintro ⟨⟩ rfl;refine zA<|A ?_
  exact RT0⟩
def zaS(a:List zn)(b:Int):Option (Bool):=
  (zdr a b).bind fun c=>some (decide (0≤c))
theorem zej(a:List zn)(b:Int){r:Bool}(h:zaS a b=some r):zan Tryz.prog 304 [.isl 4 (map zv a),.fn (.func 325) [] [.ipt 1 [[iA b]] 0 0]] (bA r):=by
 refine zo Tryz.func304 y kz y y<|A ?_;obtain ⟨c,d,h⟩:=bs h;refine A ?_;exact RT0
instance (a:List zn)(b:Int):PF Tryz.prog 304 [.isl 4 (map zv a),.fn (.func 325) [] [.ipt 1 [[iA b]] 0 0]] (zaS a b) bA:=⟨fun _=>zej a b⟩
def zfo(a:zc):Option (Bool):=
  (cond (!(zE (length a.Code:Int) 1 100)) (some true) ((idx a.Code (IntKind.i64.wrap ((length a.Code:Int)-1))).bind fun b=>some (!(zlP b.Op)))).bind fun c=>cond c (some false) ((zaS a.Code (length a.Code:Int)).bind fun d=>some (!d))
theorem zi7(a:zc){r:Bool}(h:zfo a=some r):zan Tryz.prog 246 [.agg (zf a)] (bA r):=by
 refine zo Tryz.func246 y kz y y<|A ?_;refine A ?_;refine zi ?_;obtain ⟨d,e,h⟩:=bs h;refine A ?_;refine zeh h y (fun b h=>?_) fun b h=>?_
 ·refine A ?_;exact RT0
 ·refine zg ?_;obtain ⟨f,c,h⟩:=bs h;refine A ?_;refine u<|pcs (zej a.Code (length a.Code:Int) c) y y (.cons (si y) (.cons (zfW t ⟨(zay y ⟨(si y),t⟩),t⟩) .nil)) za9<|A ?_;exact RT0
instance (a:zc):PF Tryz.prog 246 [.agg (zf a)] (zfo a) bA:=⟨fun _=>zi7 a⟩
def znh(a:T0):Option (Bool):=
  (cond (((a == [73])||(a == [78]))||(a == [84])) (some true) ((zjE a).bind fun b=>some b)).bind fun c=>some c
instance (a:T0):PF Tryz.prog 327 [sA a] (znh a) bA:=⟨fun r h=>by
 refine zo Tryz.func327 y kz y y<|A ?_;obtain ⟨b,c,h⟩:=bs h;refine A ?_
 exact RT0⟩
def zjj(a:T0):Option (Bool):=
  (znh a).bind fun b=>some (!b)
instance (a:T0):PF Tryz.prog 324 [sA a,.ipt 1 [[.fn (.func 327) [] []]] 0 0] (zjj a) bA:=⟨fun r h=>by
 refine zo Tryz.func324 y kz y y<|A ?_;obtain ⟨b,c,h⟩:=bs h;refine A ?_
 exact RT0⟩
def zeM:Option (Int):=
  some (-1)
def zbo(b:T1)(a:Int):Option (Sum (Int) (Sum (Unit) (Int))):=
  cond (decide (a<(length b:Int))) ((idx b a).bind fun c=>(zjj c).bind fun d=>cond d (some (.inr (.inr a))) (some (.inl (IntKind.i64.wrap (a+1))))) (some (.inr (.inl ())))
def zc7(a:T1):Option (Int):=
  (zr (fun z=>zbo a z) 0).bind fun o=>zQ o (fun b=>zeM) some
instance (a:T1):PF Tryz.prog 181 [.isl 1 (map zm a),.fn (.func 324) [] [.ipt 1 [[.fn (.func 327) [] []]] 0 0]] (zc7 a) iA:=⟨fun r h=>by
 refine zo Tryz.func181 y kz y y<|A ?_;refine zi<|A ?_;obtain ⟨o,ho,h⟩:=bs h;refine lpB ho (fun z=>[(0,.isl 1 (map zm a)),(1,.fn (.func 324) [] [.ipt 1 [[.fn (.func 327) [] []]] 0 0]),(7,iA (length a:Int)),(8,iA z)]) (fun z=>[]) (fun b=>[]) (fun b=>[]) (pG Tryz.f181 iA) (zbZ []) ?_ ?_
 ·rintro e r h;refine A ?_;refine zi ?_;refine zeh h y (fun c h=>?_) fun c h=>?_
  ·refine zg<|zi<|zs<|A ?_;obtain ⟨f,i,j,l,h⟩:=bs2 h;refine A ?_;refine zeh h y (fun d h=>?_) fun d h=>?_
   ·refine A ?_;refine zL ?_;obtain rfl:=sm h;exact ⟨_,y,_,y,zbc []⟩
   ·refine zg<|A ?_;obtain rfl:=sm h;exact ⟨_,y,zy []⟩
  ·refine zJ ?_;obtain rfl:=sm h;exact ⟨y,_,y,zy []⟩
 ·rintro ⟨⟩ rfl;refine zA<|A ?_
  exact RT0⟩
def zbk(a:T1):Option (Bool):=
  (zc7 a).bind fun b=>some (decide (0≤b))
theorem zdZ(a:T1){r:Bool}(h:zbk a=some r):zan Tryz.prog 99 [.isl 1 (map zm a),.fn (.func 324) [] [.ipt 1 [[.fn (.func 327) [] []]] 0 0]] (bA r):=by
 refine zo Tryz.func99 y kz y y<|A ?_;obtain ⟨b,c,h⟩:=bs h;refine A ?_;exact RT0
instance (a:T1):PF Tryz.prog 99 [.isl 1 (map zm a),.fn (.func 324) [] [.ipt 1 [[.fn (.func 327) [] []]] 0 0]] (zbk a) bA:=⟨fun _=>zdZ a⟩
def zhE(a:T1):Option (Bool):=
  (zbk a).bind fun b=>some (!b)
instance (a:T1):PF Tryz.prog 241 [.isl 1 (map zm a),.fn (.func 327) [] []] (zhE a) bA:=⟨fun r h=>by
 refine zo Tryz.func241 y kz y y<|A ?_;obtain ⟨c,b,h⟩:=bs h;refine A ?_;refine u<|pcs (zdZ a b) y y (.cons (si y) (.cons (zfW t ⟨(zay y ⟨(si y),t⟩),t⟩) .nil)) za9<|A ?_
 exact RT0⟩
def zgI:Option (Int):=
  some (-1)
def za0(b:T1)(c:T0)(a:Int):Option (Sum (Int) (Sum (Unit) (Int))):=
  cond (decide (a<(length b:Int))) ((idx b a).bind fun d=>cond (c == d) (some (.inr (.inr a))) (some (.inl (IntKind.i64.wrap (a+1))))) (some (.inr (.inl ())))
def z6(a:T1)(c:T0):Option (Int):=
  (zr (fun z=>za0 a c z) 0).bind fun o=>zQ o (fun b=>zgI) some
theorem za1(a:T1)(c:T0){r:Int}(h:z6 a c=some r):zan Tryz.prog 131 [.isl 1 (map zm a),sA c] (iA r):=by
 refine zo Tryz.func131 y kz y y<|A ?_;refine zi<|A ?_;obtain ⟨o,ho,h⟩:=bs h;refine lpB ho (fun z=>[(0,.isl 1 (map zm a)),(1,sA c),(7,iA (length a:Int)),(8,iA z)]) (fun z=>[]) (fun b=>[]) (fun b=>[]) (pG Tryz.f131 iA) (zbZ []) ?_ ?_
 ·rintro f r h;refine A ?_;refine zi ?_;refine zeh h y (fun d h=>?_) fun d h=>?_
  ·refine zg<|zi<|zs<|A ?_;obtain ⟨i,j,h⟩:=bs h;refine A ?_;refine zeh h y (fun e h=>?_) fun e h=>?_
   ·refine A ?_;refine zL ?_;obtain rfl:=sm h;exact ⟨_,y,_,y,zbc []⟩
   ·refine zg<|A ?_;obtain rfl:=sm h;exact ⟨_,y,zy []⟩
  ·refine zJ ?_;obtain rfl:=sm h;exact ⟨y,_,y,zy []⟩
 ·rintro ⟨⟩ rfl;refine zA<|A ?_;exact RT0
instance (a:T1)(b:T0):PF Tryz.prog 131 [.isl 1 (map zm a),sA b] (z6 a b) iA:=⟨fun _=>za1 a b⟩
def zK(a:T1)(b:T0):Option (Bool):=
  (z6 a b).bind fun c=>some (decide (0≤c))
theorem zac(a:T1)(b:T0){r:Bool}(h:zK a b=some r):zan Tryz.prog 136 [.isl 1 (map zm a),sA b] (bA r):=by
 refine zo Tryz.func136 y kz y y<|A ?_;obtain ⟨c,d,h⟩:=bs h;refine A ?_;exact RT0
instance (a:T1)(b:T0):PF Tryz.prog 136 [.isl 1 (map zm a),sA b] (zK a b) bA:=⟨fun _=>zac a b⟩
def zs7(a:zc):Option (Bool):=
  some (decide ((length a.Maps:Int)≤100))
def zhk(b:zc)(c:Int)(a:zX)(d:Bool):Option (Sum (Int) (Sum (Unit) (Bool))):=
  cond d (some (.inr (.inr false))) ((cond ((!((length a.Locals:Int) == b.Locals))||(decide (b.Stack<(length a.Stack:Int)))) (some true) ((zhE a.Locals).bind fun e=>some (!e))).bind fun f=>(cond f (some true) ((zhE a.Stack).bind fun i=>some (!i))).bind fun j=>(cond j (some true) ((zK a.Stack [84]).bind fun l=>some l)).bind fun m=>cond m (some (.inr (.inr false))) (some (.inl (IntKind.i64.wrap (c+1)))))
def zhl(c:zc)(a:Int):Option (Sum (Int) (Sum (Unit) (Bool))):=
  cond (decide (a<(length c.Maps:Int))) ((idx c.Maps a).bind fun b=>cond (!(zE b.At 0 (IntKind.i64.wrap ((length c.Code:Int)-1)))) (zhk c a b true) (cond (decide (0<a)) ((idx c.Maps (IntKind.i64.wrap (a-1))).bind fun d=>zhk c a b (decide (b.At≤d.At))) (zhk c a b false))) (some (.inr (.inl ())))
def znf(a:zc):Option (Bool):=
  (zr (fun z=>zhl a z) 0).bind fun o=>zQ o (fun b=>zs7 a) some
instance (a:zc):PF Tryz.prog 247 [.agg (zf a)] (znf a) bA:=⟨fun r h=>by
 refine zo Tryz.func247 y kz y y<|A ?_;refine zi<|A ?_;obtain ⟨o,ho,h⟩:=bs h;refine lpB ho (fun z=>[(1,.mpt 0 0 0),(6,.isl 3 (map zae a.Maps)),(7,iA (length a.Maps:Int)),(8,iA z)]) (fun z=>[some (10,[(zf a)])]) (fun b=>[(1,.mpt 0 0 0)]) (fun b=>[some (10,[(zf a)])]) (pG Tryz.f247 bA) (zbZ [.old 0]) ?_ ?_
 ·rintro f r h;refine A ?_;refine zi ?_;refine zeh h y (fun i h=>?_) fun i h=>?_
  ·refine zg<|zi<|zs ?_;obtain ⟨e,n,h⟩:=bs h;refine A ?_;refine zi ?_;refine zbG (X:=Bool) (fun z=>[(1,.mpt 0 0 0),(4,.mpt 1 0 0),(6,.isl 3 (map zae a.Maps)),(7,iA (length a.Maps:Int)),(8,iA f),(36,bA z)]) (fun z=>[some (10,[(zf a)]),some (3,[(zae e)])]) (fun z=>zhk a f e z=some r) ?_ ?_
   ·rcases bb (!(zE e.At 0 (IntKind.i64.wrap ((length a.Code:Int)-1)))) with c |c
    ·replace h:=bT c h;exact rdQ [] [0,1,2,3,4,5,6,7,8,9,10,11,12,13,14,15,16,17,18,19,20,21,22,23] [(36,_),(35,_),(34,_),(33,_),(32,_),(31,_),(30,_),(29,_),(28,_),(27,_),(26,_),(25,_),(24,_),(23,_),(22,_),(21,_),(20,_),(19,_),(18,_),(17,_),(16,_),(15,_),(14,_),(13,_)] 0 (zgE (z:=by exact ⟨true,h,zbZ [.old 0,.old 1]⟩))
    ·replace h:=bF c h
     rcases bb (decide (0<f)) with d |d
     ·replace h:=bT d h;obtain ⟨m,p,h⟩:=bs h;exact rdQ [] [0,1,2,3,4,5,6,7,8,9,10,11,12,13,14,15,16,17,18,19,20,21,22,23] [(36,_),(35,_),(34,_),(33,_),(32,_),(31,_),(30,_),(29,_),(28,_),(27,_),(26,_),(25,_),(24,_),(23,_),(22,_),(21,_),(20,_),(19,_),(18,_),(17,_),(16,_),(15,_),(14,_),(13,_)] 0 (zgE (z:=by exact ⟨(decide (e.At≤m.At)),h,zbZ [.old 0,.old 1]⟩))
     ·replace h:=bF d h;exact rdQ [] [0,1,2,3,4,5,6,7,8,9,10,11,12,13,14,15,16,17,18,19,20,21,22,23] [(36,_),(35,_),(34,_),(33,_),(32,_),(31,_),(30,_),(29,_),(28,_),(27,_),(26,_),(25,_),(24,_),(23,_),(22,_),(21,_),(20,_),(19,_),(18,_),(17,_),(16,_),(15,_),(14,_),(13,_)] 0 (zgE (z:=by exact ⟨false,h,zbZ [.old 0,.old 1]⟩))
   ·rintro q h;refine zeh h y (fun j h=>?_) fun j h=>?_
    ·refine A ?_;refine zL ?_;obtain rfl:=sm h;exact ⟨_,y,_,y,zbc []⟩
    ·refine zg ?_;obtain ⟨s,v,x,B,C,D,h⟩:=bs3 h;refine A ?_;refine zeh h y (fun l h=>?_) fun l h=>?_
     ·refine A ?_;refine zL ?_;obtain rfl:=sm h;exact ⟨_,y,_,y,zbc []⟩
     ·refine zg<|A ?_;obtain rfl:=sm h;exact ⟨_,y,zy [.old 0]⟩
  ·refine zJ ?_;obtain rfl:=sm h;exact ⟨y,_,y,zy [.old 0]⟩
 ·rintro ⟨⟩ rfl;refine zA<|A ?_
  exact RT0⟩
def zlv(a:zT)(j:T0)(l:T1)(m:T0)(n:Bool)(o:Bool)(p:Int)(q:Int)(b:List zn)(f:List zX)(i:List zT):Option (Bool):=
  (cond ((((decide (a.From<0))||(decide (a.To≤a.From)))||(decide ((length b:Int)<a.To)))||(!(zE a.At 0 (IntKind.i64.wrap ((length b:Int)-1))))) (some true) ((cond (!(a.C == [])) ((zhn a.C).bind fun c=>some (!c)) (some false)).bind fun d=>some d)).bind fun e=>some e
instance (c:zT)(d:T0)(e:T1)(f:T0)(i:Bool)(j:Bool)(l:Int)(m:Int)(n:List zn)(a:List zX)(b:List zT):PF Tryz.prog 328 [.agg (z7 c),.ipt 10 [[sA d,.isl 1 (map zm e),sA f,bA i,bA j,iA l,iA m,.isl 4 (map zv n),.isl 3 (map zae a),.isl 4 (map z7 b)]] 0 0] (zlv c d e f i j l m n a b) bA:=⟨fun r h=>by
 refine zo Tryz.func328 y kz y y<|A ?_;obtain ⟨o,p,h⟩:=bs h;refine A ?_
 exact RT0⟩
def zes:Option (Int):=
  some (-1)
def zbf(b:List zT)(i:T0)(j:T1)(l:T0)(m:Bool)(n:Bool)(o:Int)(p:Int)(q:List zn)(c:List zX)(d:List zT)(a:Int):Option (Sum (Int) (Sum (Unit) (Int))):=
  cond (decide (a<(length b:Int))) ((idx b a).bind fun e=>(zlv e i j l m n o p q c d).bind fun f=>cond f (some (.inr (.inr a))) (some (.inl (IntKind.i64.wrap (a+1))))) (some (.inr (.inl ())))
def zcS(d:List zT)(e:T0)(f:T1)(i:T0)(j:Bool)(l:Bool)(m:Int)(n:Int)(p:List zn)(a:List zX)(c:List zT):Option (Int):=
  (zr (fun z=>zbf d e f i j l m n p a c z) 0).bind fun o=>zQ o (fun b=>zes) some
instance (d:List zT)(e:T0)(f:T1)(i:T0)(j:Bool)(l:Bool)(m:Int)(n:Int)(p:List zn)(a:List zX)(c:List zT):PF Tryz.prog 348 [.isl 4 (map z7 d),.fn (.func 328) [] [.ipt 10 [[sA e,.isl 1 (map zm f),sA i,bA j,bA l,iA m,iA n,.isl 4 (map zv p),.isl 3 (map zae a),.isl 4 (map z7 c)]] 0 0]] (zcS d e f i j l m n p a c) iA:=⟨fun r h=>by
 refine zo Tryz.func348 y kz y y<|A ?_;refine zi<|A ?_;obtain ⟨o,ho,h⟩:=bs h;refine lpB ho (fun z=>[(0,.isl 4 (map z7 d)),(1,.fn (.func 328) [] [.ipt 10 [[sA e,.isl 1 (map zm f),sA i,bA j,bA l,iA m,iA n,.isl 4 (map zv p),.isl 3 (map zae a),.isl 4 (map z7 c)]] 0 0]),(7,iA (length d:Int)),(8,iA z)]) (fun z=>[]) (fun b=>[]) (fun b=>[]) (pG Tryz.f348 iA) (zbZ []) ?_ ?_
 ·rintro v r h;refine A ?_;refine zi ?_;refine zeh h y (fun q h=>?_) fun q h=>?_
  ·refine zg<|zi<|zs<|A ?_;obtain ⟨x,C,B,D,h⟩:=bs2 h;refine A ?_;refine zeh h y (fun s h=>?_) fun s h=>?_
   ·refine A ?_;refine zL ?_;obtain rfl:=sm h;exact ⟨_,y,_,y,zbc []⟩
   ·refine zg<|A ?_;obtain rfl:=sm h;exact ⟨_,y,zy []⟩
  ·refine zJ ?_;obtain rfl:=sm h;exact ⟨y,_,y,zy []⟩
 ·rintro ⟨⟩ rfl;refine zA<|A ?_
  exact RT0⟩
def zbe(d:List zT)(e:T0)(f:T1)(i:T0)(j:Bool)(l:Bool)(m:Int)(n:Int)(o:List zn)(a:List zX)(b:List zT):Option (Bool):=
  (zcS d e f i j l m n o a b).bind fun c=>some (decide (0≤c))
theorem zdN(c:List zT)(d:T0)(e:T1)(f:T0)(i:Bool)(j:Bool)(l:Int)(m:Int)(n:List zn)(a:List zX)(b:List zT){r:Bool}(h:zbe c d e f i j l m n a b=some r):zan Tryz.prog 302 [.isl 4 (map z7 c),.fn (.func 328) [] [.ipt 10 [[sA d,.isl 1 (map zm e),sA f,bA i,bA j,iA l,iA m,.isl 4 (map zv n),.isl 3 (map zae a),.isl 4 (map z7 b)]] 0 0]] (bA r):=by
 refine zo Tryz.func302 y kz y y<|A ?_;obtain ⟨o,p,h⟩:=bs h;refine A ?_;exact RT0
instance (c:List zT)(d:T0)(e:T1)(f:T0)(i:Bool)(j:Bool)(l:Int)(m:Int)(n:List zn)(a:List zX)(b:List zT):PF Tryz.prog 302 [.isl 4 (map z7 c),.fn (.func 328) [] [.ipt 10 [[sA d,.isl 1 (map zm e),sA f,bA i,bA j,iA l,iA m,.isl 4 (map zv n),.isl 3 (map zae a),.isl 4 (map z7 b)]] 0 0]] (zbe c d e f i j l m n a b) bA:=⟨fun _=>zdN c d e f i j l m n a b⟩
def zlu(a:zc):Option (Bool):=
  (zbe a.Traps a.Name a.Params a.Ret a.Static a.Abstract a.Locals a.Stack a.Code a.Maps a.Traps).bind fun b=>some ((!b)&&(decide ((length a.Traps:Int)≤6)))
instance (a:zc):PF Tryz.prog 248 [.agg (zf a)] (zlu a) bA:=⟨fun r h=>by
 refine zo Tryz.func248 y kz y y<|A ?_;obtain ⟨c,b,h⟩:=bs h;refine A ?_;refine u<|pcs (zdN a.Traps a.Name a.Params a.Ret a.Static a.Abstract a.Locals a.Stack a.Code a.Maps a.Traps b) y y (.cons (si y) (.cons (zfW t ⟨(zay y ⟨(si y),(si y),(si y),(si y),(si y),(si y),(si y),(si y),(si y),(si y),t⟩),t⟩) .nil)) za9<|A ?_;refine A ?_
 exact RT0⟩
def zf3(a:Bool):Option (Bool):=
  some a
def zkw(a:zc):Option (Bool):=
  (zk6 a.Name).bind fun b=>(cond ((!b)||(decide (6<(length a.Params:Int)))) (some true) ((zlw a.Params).bind fun c=>some (!c))).bind fun d=>(cond d (some true) ((zqD a.Ret).bind fun e=>some (!e))).bind fun f=>cond f (some false) (cond a.Abstract (some (ziB a)) (cond ((a.Name == [36,105,110,105,116])&&(((!a.Static)||(decide (0<(length a.Params:Int))))||(!(a.Ret == [86])))) (some false) (cond (zE a.Locals (zaM a) 16) (cond (zE a.Stack 0 16) ((zfo a).bind fun i=>cond i ((znf a).bind fun j=>cond j ((zlu a).bind fun l=>zf3 l) (zf3 false)) (zf3 false)) (zf3 false)) (zf3 false))))
instance (a:zc):PF Tryz.prog 157 [.agg (zf a)] (zkw a) bA:=⟨fun r h=>by
 refine zo Tryz.func157 y kz y y<|A ?_;refine zi ?_;obtain ⟨x,B,C,D,E,F,h⟩:=bs3 h;refine A ?_;refine zeh h y (fun m h=>?_) fun m h=>?_
 ·refine A ?_;exact RT0
 ·refine zg<|zi<|A ?_;refine zeh h y (fun j h=>?_) fun j h=>?_
  ·refine A ?_;exact RT0
  ·refine zg<|zi<|A ?_;refine zeh h y (fun l h=>?_) fun l h=>?_
   ·refine A ?_;exact RT0
   ·refine zg ?_;refine zbG (X:=Bool) (fun z=>[(2,bA z)]) (fun z=>[]) (fun z=>zf3 z=some r) ?_ ?_
    ·rcases bb (zE a.Locals (zaM a) 16) with c |c
     ·replace h:=bT c h
      rcases bb (zE a.Stack 0 16) with d |d
      ·replace h:=bT d h;obtain ⟨i,n,h⟩:=bs h
       rcases bb i with e |e
       ·replace h:=bT e h;obtain ⟨o,q,h⟩:=bs h
        rcases bb o with f |f
        ·replace h:=bT f h;obtain ⟨p,s,h⟩:=bs h;exact rdQ [] [0,1,2,3,4,5,6,7,8,9,10,11,12,13,14,15,16,17,18,19,20,21,22] [(2,_),(69,_),(68,_),(67,_),(66,_),(65,_),(64,_),(63,_),(62,_),(61,_),(60,_),(59,_),(58,_),(57,_),(56,_),(55,_),(54,_),(53,_),(52,_),(51,_),(50,_),(49,_),(48,_)] 0 (zgE (z:=by exact ⟨p,h,zbZ []⟩))
        ·replace h:=bF f h;exact rdQ [] [0,1,2,3,4,5,6,7,8,9,10,11,12,13,14,15,16,17,18,19,20,21,22] [(2,_),(69,_),(68,_),(67,_),(66,_),(65,_),(64,_),(63,_),(62,_),(61,_),(60,_),(59,_),(58,_),(57,_),(56,_),(55,_),(54,_),(53,_),(52,_),(51,_),(50,_),(49,_),(48,_)] 0 (zgE (z:=by exact ⟨false,h,zbZ []⟩))
       ·replace h:=bF e h;exact zbx [] [22,21,20,19,18,17,16,15,14,13,12,11,10,9,8,7,6,5,4,3,2,1,0] [(2,bA false),(69,bA false),(68,.lit undef),(67,.lit undef),(66,bA false),(65,bA false),(64,.lit undef),(63,.lit undef),(62,bA i),(61,bA i),(60,bA i),(59,.agg (zf a)),(58,bA (zE a.Stack 0 16)),(57,bA (zE a.Stack 0 16)),(56,bA (zE a.Stack 0 16)),(55,iA a.Stack),(54,.mpt 0 0 6),(53,bA (zE a.Locals (zaM a) 16)),(52,bA (zE a.Locals (zaM a) 16)),(51,iA (zaM a)),(50,.agg (zf a)),(49,iA a.Locals),(48,.mpt 0 0 5)] 0 kz kz y kz (zvA ⟨pe,pe,pe,pe,pe,pe,pe,pe,pe,pe,(fun _=>pag (b:=(zE a.Stack 0 16)) y y y y d y (pc (zi7 a n) y y y<|w)),(fun _=>pag (b:=(zE a.Stack 0 16)) y y y y d y (ld ti y y<|w)),pe,pe,(fun _=>pag (b:=(zE a.Locals (zaM a) 16)) y y y y c y (pc (zfh a.Stack 0 16 y) y y y<|w)),(fun _=>pag (b:=(zE a.Locals (zaM a) 16)) y y y y c y (ld ti y y<|w)),(fun _=>pag (b:=(zE a.Locals (zaM a) 16)) y y y y c y (fa ti y y y<|w)),pe,(pb y (pc (zfh a.Locals (zaM a) 16 y) y y y w)),(pb y (pc (zjC a y) y y y w)),(pb y (ld ti y y w)),(pb y (ld ti y y w)),(pb y (fa ti y y y w)),t⟩ ⟨false,h,zy []⟩)
      ·replace h:=bF d h;exact zbx [] [22,21,20,19,18,17,16,15,14,13,12,11,10,9,8,7,6,5,4,3,2,1,0] [(2,bA false),(69,bA false),(68,.lit undef),(67,.lit undef),(66,bA false),(65,bA false),(64,.lit undef),(63,.lit undef),(62,bA false),(61,bA false),(60,.lit undef),(59,.lit undef),(58,bA (zE a.Stack 0 16)),(57,bA (zE a.Stack 0 16)),(56,bA (zE a.Stack 0 16)),(55,iA a.Stack),(54,.mpt 0 0 6),(53,bA (zE a.Locals (zaM a) 16)),(52,bA (zE a.Locals (zaM a) 16)),(51,iA (zaM a)),(50,.agg (zf a)),(49,iA a.Locals),(48,.mpt 0 0 5)] 0 kz kz y kz (zvA ⟨pe,pe,pe,pe,pe,pe,pe,pe,pe,pe,pe,pe,pe,pe,(fun _=>pag (b:=(zE a.Locals (zaM a) 16)) y y y y c y (pc (zfh a.Stack 0 16 y) y y y<|w)),(fun _=>pag (b:=(zE a.Locals (zaM a) 16)) y y y y c y (ld ti y y<|w)),(fun _=>pag (b:=(zE a.Locals (zaM a) 16)) y y y y c y (fa ti y y y<|w)),pe,(pb y (pc (zfh a.Locals (zaM a) 16 y) y y y w)),(pb y (pc (zjC a y) y y y w)),(pb y (ld ti y y w)),(pb y (ld ti y y w)),(pb y (fa ti y y y w)),t⟩ ⟨false,h,zy []⟩)
     ·replace h:=bF c h;exact zbx [] [22,21,20,19,18,17,16,15,14,13,12,11,10,9,8,7,6,5,4,3,2,1,0] [(2,bA false),(69,bA false),(68,.lit undef),(67,.lit undef),(66,bA false),(65,bA false),(64,.lit undef),(63,.lit undef),(62,bA false),(61,bA false),(60,.lit undef),(59,.lit undef),(58,bA false),(57,bA false),(56,.lit undef),(55,.lit undef),(54,.lit undef),(53,bA (zE a.Locals (zaM a) 16)),(52,bA (zE a.Locals (zaM a) 16)),(51,iA (zaM a)),(50,.agg (zf a)),(49,iA a.Locals),(48,.mpt 0 0 5)] 0 kz kz y kz (zvA ⟨pe,pe,pe,pe,pe,pe,pe,pe,pe,pe,pe,pe,pe,pe,pe,pe,pe,pe,(pb y (pc (zfh a.Locals (zaM a) 16 y) y y y w)),(pb y (pc (zjC a y) y y y w)),(pb y (ld ti y y w)),(pb y (ld ti y y w)),(pb y (fa ti y y y w)),t⟩ ⟨false,h,zy []⟩)
    ·rintro v h
     exact RT0⟩
def zls(a:zc)(e:T0)(f:T0)(b:Bool)(i:T1)(j:List zj)(l:List zc):Option (Bool):=
  (cond (a.Abstract == b) ((zkw a).bind fun c=>some c) (some false)).bind fun d=>some d
theorem znO(a:zc)(b:T0)(c:T0)(d:Bool)(e:T1)(f:List zj)(i:List zc){r:Bool}(h:zls a b c d e f i=some r):zan Tryz.prog 156 [.agg (zf a),.ipt 6 [[sA b,sA c,bA d,.isl 1 (map zm e),.isl 3 (map zD f),.isl 10 (map zf i)]] 0 0] (bA r):=by
 refine zo Tryz.func156 y kz y y<|A ?_;obtain ⟨j,l,h⟩:=bs h;refine A ?_;exact RT0
instance (a:zc)(b:T0)(c:T0)(d:Bool)(e:T1)(f:List zj)(i:List zc):PF Tryz.prog 156 [.agg (zf a),.ipt 6 [[sA b,sA c,bA d,.isl 1 (map zm e),.isl 3 (map zD f),.isl 10 (map zf i)]] 0 0] (zls a b c d e f i) bA:=⟨fun _=>znO a b c d e f i⟩
def zjW(a:zc):T0:=
  a.Name
theorem znN(a:zc){r:T0}(h:zjW a=r):zan Tryz.prog 155 [.agg (zf a)] (sA r):=by
 refine zo Tryz.func155 y kz y y ?_;unfold zjW at h;refine A ?_;refine A ?_;refine zL ?_;obtain rfl:=h;exact ⟨_,y,zbc []⟩
instance (a:zc):PF Tryz.prog 155 [.agg (zf a)] (some (zjW a)) sA:=.of fun _=>znN a
def zgR(c:zc)(d:T0)(e:T1)(f:T0)(i:Bool)(j:Bool)(l:Int)(m:Int)(n:List zn)(a:List zX)(b:List zT):Bool:=
  ((zjW (zc.mk d e f i j l m n a b)) == (zjW c))
instance (n:zc)(c:T0)(d:T1)(e:T0)(f:Bool)(i:Bool)(j:Int)(l:Int)(m:List zn)(a:List zX)(b:List zT):PF Tryz.prog 240 [.agg (zf n),.ipt 1 [[.fn (.func 155) [] []]] 0 0,.ipt 10 [[sA c,.isl 1 (map zm d),sA e,bA f,bA i,iA j,iA l,.isl 4 (map zv m),.isl 3 (map zae a),.isl 4 (map z7 b)]] 0 0] (some (zgR n c d e f i j l m a b)) bA:=.of fun r h=>by
 refine zo Tryz.func240 y kz y y ?_;unfold zgR at h;refine A ?_;refine rdA [(4,_)] [] [] [0,1,2,3,4,5,6,7] [(4,_),(11,_),(10,_),(9,_),(8,_),(7,_),(6,_),(5,_)] 0 (zgE ⟨peC,peC,(by exact pb y (pc (znN (zc.mk c d e f i j l m a b) y) y y y<|w)),peC,peC,peC,peC,peC,t⟩ (zbZ [])) ?_;refine zL ?_;obtain rfl:=h;exact ⟨_,y,zbc []⟩
def zdw:Option (Int):=
  some (-1)
def zaT(b:List zc)(f:T0)(i:T1)(j:T0)(l:Bool)(m:Bool)(n:Int)(o:Int)(p:List zn)(c:List zX)(d:List zT)(a:Int):Option (Sum (Int) (Sum (Unit) (Int))):=
  cond (decide (a<(length b:Int))) ((idx b a).bind fun e=>cond (zgR e f i j l m n o p c d) (some (.inr (.inr a))) (some (.inl (IntKind.i64.wrap (a+1))))) (some (.inr (.inl ())))
def zci(d:List zc)(e:T0)(f:T1)(i:T0)(j:Bool)(l:Bool)(m:Int)(n:Int)(p:List zn)(a:List zX)(c:List zT):Option (Int):=
  (zr (fun z=>zaT d e f i j l m n p a c z) 0).bind fun o=>zQ o (fun b=>zdw) some
instance (d:List zc)(e:T0)(f:T1)(i:T0)(j:Bool)(l:Bool)(m:Int)(n:Int)(p:List zn)(a:List zX)(c:List zT):PF Tryz.prog 225 [.isl 10 (map zf d),.fn (.func 240) [] [.ipt 1 [[.fn (.func 155) [] []]] 0 0,.ipt 10 [[sA e,.isl 1 (map zm f),sA i,bA j,bA l,iA m,iA n,.isl 4 (map zv p),.isl 3 (map zae a),.isl 4 (map z7 c)]] 0 0]] (zci d e f i j l m n p a c) iA:=⟨fun r h=>by
 refine zo Tryz.func225 y kz y y<|A ?_;refine zi<|A ?_;obtain ⟨o,ho,h⟩:=bs h;refine lpB ho (fun z=>[(0,.isl 10 (map zf d)),(1,.fn (.func 240) [] [.ipt 1 [[.fn (.func 155) [] []]] 0 0,.ipt 10 [[sA e,.isl 1 (map zm f),sA i,bA j,bA l,iA m,iA n,.isl 4 (map zv p),.isl 3 (map zae a),.isl 4 (map z7 c)]] 0 0]),(7,iA (length d:Int)),(8,iA z)]) (fun z=>[]) (fun b=>[]) (fun b=>[]) (pG Tryz.f225 iA) (zbZ []) ?_ ?_
 ·rintro v r h;refine A ?_;refine zi ?_;refine zeh h y (fun q h=>?_) fun q h=>?_
  ·refine zg<|zi<|zs<|A ?_;obtain ⟨x,B,h⟩:=bs h;refine A ?_;refine zeh h y (fun s h=>?_) fun s h=>?_
   ·refine A ?_;refine zL ?_;obtain rfl:=sm h;exact ⟨_,y,_,y,zbc []⟩
   ·refine zg<|A ?_;obtain rfl:=sm h;exact ⟨_,y,zy []⟩
  ·refine zJ ?_;obtain rfl:=sm h;exact ⟨y,_,y,zy []⟩
 ·rintro ⟨⟩ rfl;refine zA<|A ?_
  exact RT0⟩
def zar(d:List zc)(e:T0)(f:T1)(i:T0)(j:Bool)(l:Bool)(m:Int)(n:Int)(o:List zn)(a:List zX)(b:List zT):Option (Bool):=
  (zci d e f i j l m n o a b).bind fun c=>some (decide (0≤c))
theorem zcU(c:List zc)(d:T0)(e:T1)(f:T0)(i:Bool)(j:Bool)(l:Int)(m:Int)(n:List zn)(a:List zX)(b:List zT){r:Bool}(h:zar c d e f i j l m n a b=some r):zan Tryz.prog 239 [.isl 10 (map zf c),.fn (.func 240) [] [.ipt 1 [[.fn (.func 155) [] []]] 0 0,.ipt 10 [[sA d,.isl 1 (map zm e),sA f,bA i,bA j,iA l,iA m,.isl 4 (map zv n),.isl 3 (map zae a),.isl 4 (map z7 b)]] 0 0]] (bA r):=by
 refine zo Tryz.func239 y kz y y<|A ?_;obtain ⟨o,p,h⟩:=bs h;refine A ?_;exact RT0
instance (c:List zc)(d:T0)(e:T1)(f:T0)(i:Bool)(j:Bool)(l:Int)(m:Int)(n:List zn)(a:List zX)(b:List zT):PF Tryz.prog 239 [.isl 10 (map zf c),.fn (.func 240) [] [.ipt 1 [[.fn (.func 155) [] []]] 0 0,.ipt 10 [[sA d,.isl 1 (map zm e),sA f,bA i,bA j,iA l,iA m,.isl 4 (map zv n),.isl 3 (map zae a),.isl 4 (map z7 b)]] 0 0]] (zar c d e f i j l m n a b) bA:=⟨fun _=>zcU c d e f i j l m n a b⟩
def zlt(a:List zc)(b:Int):Option (Bool):=
  some (decide ((length a:Int)≤b))
def zgs(c:List zc)(j:T0)(l:T0)(m:Bool)(n:T1)(o:List zj)(p:List zc)(b:Int):Option (Sum (Int) (Sum (Unit) (Bool))):=
  cond (decide (b<(length c:Int))) ((idx c b).bind fun a=>(zls a j l m n o p).bind fun d=>(cond (!d) (some true) ((zkS c 0 b).bind fun e=>(zar e a.Name a.Params a.Ret a.Static a.Abstract a.Locals a.Stack a.Code a.Maps a.Traps).bind fun f=>some f)).bind fun i=>cond i (some (.inr (.inr false))) (some (.inl (IntKind.i64.wrap (b+1))))) (some (.inr (.inl ())))
def zep(a:List zc)(c:Int)(d:T0)(e:T0)(f:Bool)(i:T1)(j:List zj)(l:List zc):Option (Bool):=
  (zr (fun z=>zgs a d e f i j l z) 0).bind fun o=>zQ o (fun b=>zlt a c) some
theorem zid(f:List zc)(i:Int)(l:T0)(m:T0)(n:Bool)(p:T1)(q:List zj)(s:List zc){r:Bool}(h:zep f i l m n p q s=some r):zan Tryz.prog 154 [.isl 10 (map zf f),iA i,.fn (.func 155) [] [],.fn (.func 156) [] [.ipt 6 [[sA l,sA m,bA n,.isl 1 (map zm p),.isl 3 (map zD q),.isl 10 (map zf s)]] 0 0]] (bA r):=by
 refine zo Tryz.func154 y kz y y<|A ?_;refine zi<|A ?_;obtain ⟨o,ho,h⟩:=bs h;refine lpB ho (fun z=>[(0,.isl 10 (map zf f)),(1,iA i),(3,.fn (.func 156) [] [.ipt 6 [[sA l,sA m,bA n,.isl 1 (map zm p),.isl 3 (map zD q),.isl 10 (map zf s)]] 0 0]),(6,.mpt 0 0 0),(11,.isl 10 (map zf f)),(12,iA (length f:Int)),(13,iA z)]) (fun z=>[some (1,[[.fn (.func 155) [] []]])]) (fun b=>[(0,.isl 10 (map zf f)),(1,iA i)]) (fun b=>[]) (pG Tryz.f154 bA) (zbZ [.old 0]) ?_ ?_
 ·rintro C r h;refine A ?_;refine zi ?_;refine zeh h y (fun D h=>?_) fun D h=>?_
  ·refine zg<|zi<|zs ?_;obtain ⟨c,I,h⟩:=bs h;refine A ?_;obtain ⟨J,E,F,e,h⟩:=bs2 h;refine rg y<|u<|mv y<|u<|ld ti y y<|u<|pc (znO c l m n p q s E) y y y<|u<|nt y<|u<|mv y<|ztF (x:=F) (j:=4) 5 y y y y y gpn (fun d=>by replace e:=bF d e;obtain ⟨G,v,e⟩:=bs e;obtain ⟨K,H,e⟩:=bs e;obtain rfl:=sm e;exact g y d<|mv y<|g y d<|mv y<|g y d<|slI (a:=0) (b:=C) ti y ti y y y (zqT y v) v<|g y d<|mf y y<|g y d<|pcs (zcU G c.Name c.Params c.Ret c.Static c.Abstract c.Locals c.Stack c.Code c.Maps c.Traps H) y y (.cons (si y) (.cons (zfW t ⟨(zay y ⟨(si y),t⟩),(zay y ⟨(si y),(si y),(si y),(si y),(si y),(si y),(si y),(si y),(si y),(si y),t⟩),t⟩) .nil)) za9<|zz (eg [23,24,25,26,27] 5 y y y y)) (fun hb=>(sm (bT hb e)).symm)<|zz ?_;refine zeh h y (fun B h=>?_) fun B h=>?_
   ·refine A ?_;refine zL ?_;obtain rfl:=sm h;exact ⟨_,y,_,y,zbc []⟩
   ·refine zg<|A ?_;obtain rfl:=sm h;exact ⟨_,y,zy [.old 0]⟩
  ·refine zJ ?_;obtain rfl:=sm h;exact ⟨y,_,y,zy []⟩
 ·rintro ⟨⟩ rfl;refine zA<|A ?_;exact RT0
instance (a:List zc)(b:Int)(c:T0)(d:T0)(e:Bool)(f:T1)(i:List zj)(j:List zc):PF Tryz.prog 154 [.isl 10 (map zf a),iA b,.fn (.func 155) [] [],.fn (.func 156) [] [.ipt 6 [[sA c,sA d,bA e,.isl 1 (map zm f),.isl 3 (map zD i),.isl 10 (map zf j)]] 0 0]] (zep a b c d e f i j) bA:=⟨fun _=>zid a b c d e f i j⟩
def zng(a:T0):T0:=
  a
instance (a:T0):PF Tryz.prog 160 [sA a] (some (zng a)) sA:=.of fun r h=>by
 refine zo Tryz.func160 y kz y y ?_;unfold zng at h;refine A ?_;refine A ?_;refine zL ?_;obtain rfl:=h;exact ⟨_,y,zbc []⟩
def zie(a:T0)(b:T0):Bool:=
  ((zng b) == (zng a))
instance (a:T0)(b:T0):PF Tryz.prog 250 [sA a,.ipt 1 [[.fn (.func 160) [] []]] 0 0,.ipt 1 [[sA b]] 0 0] (some (zie a b)) bA:=.of fun r h=>by
 refine zo Tryz.func250 y kz y y ?_;unfold zie at h;refine A ?_;refine rdA [(4,_)] [] [] [0,1,2,3,4,5,6,7] [(4,_),(11,_),(10,_),(9,_),(8,_),(7,_),(6,_),(5,_)] 0 (zgE (z:=zbZ [])) ?_;refine zL ?_;obtain rfl:=h;exact ⟨_,y,zbc []⟩
def zeN:Option (Int):=
  some (-1)
def zbp(b:T1)(c:T0)(a:Int):Option (Sum (Int) (Sum (Unit) (Int))):=
  cond (decide (a<(length b:Int))) ((idx b a).bind fun d=>cond (zie d c) (some (.inr (.inr a))) (some (.inl (IntKind.i64.wrap (a+1))))) (some (.inr (.inl ())))
def zc8(a:T1)(c:T0):Option (Int):=
  (zr (fun z=>zbp a c z) 0).bind fun o=>zQ o (fun b=>zeN) some
instance (a:T1)(c:T0):PF Tryz.prog 181 [.isl 1 (map zm a),.fn (.func 250) [] [.ipt 1 [[.fn (.func 160) [] []]] 0 0,.ipt 1 [[sA c]] 0 0]] (zc8 a c) iA:=⟨fun r h=>by
 refine zo Tryz.func181 y kz y y<|A ?_;refine zi<|A ?_;obtain ⟨o,ho,h⟩:=bs h;refine lpB ho (fun z=>[(0,.isl 1 (map zm a)),(1,.fn (.func 250) [] [.ipt 1 [[.fn (.func 160) [] []]] 0 0,.ipt 1 [[sA c]] 0 0]),(7,iA (length a:Int)),(8,iA z)]) (fun z=>[]) (fun b=>[]) (fun b=>[]) (pG Tryz.f181 iA) (zbZ []) ?_ ?_
 ·rintro f r h;refine A ?_;refine zi ?_;refine zeh h y (fun d h=>?_) fun d h=>?_
  ·refine zg<|zi<|zs<|A ?_;obtain ⟨i,j,h⟩:=bs h;refine A ?_;refine zeh h y (fun e h=>?_) fun e h=>?_
   ·refine A ?_;refine zL ?_;obtain rfl:=sm h;exact ⟨_,y,_,y,zbc []⟩
   ·refine zg<|A ?_;obtain rfl:=sm h;exact ⟨_,y,zy []⟩
  ·refine zJ ?_;obtain rfl:=sm h;exact ⟨y,_,y,zy []⟩
 ·rintro ⟨⟩ rfl;refine zA<|A ?_
  exact RT0⟩
def zaG(a:T1)(b:T0):Option (Bool):=
  (zc8 a b).bind fun c=>some (decide (0≤c))
theorem zd0(a:T1)(b:T0){r:Bool}(h:zaG a b=some r):zan Tryz.prog 99 [.isl 1 (map zm a),.fn (.func 250) [] [.ipt 1 [[.fn (.func 160) [] []]] 0 0,.ipt 1 [[sA b]] 0 0]] (bA r):=by
 refine zo Tryz.func99 y kz y y<|A ?_;obtain ⟨c,d,h⟩:=bs h;refine A ?_;exact RT0
instance (a:T1)(b:T0):PF Tryz.prog 99 [.isl 1 (map zm a),.fn (.func 250) [] [.ipt 1 [[.fn (.func 160) [] []]] 0 0,.ipt 1 [[sA b]] 0 0]] (zaG a b) bA:=⟨fun _=>zd0 a b⟩
def zoi(a:T1)(b:Int):Option (Bool):=
  some (decide ((length a:Int)≤b))
def zhR(c:T1)(a:Int):Option (Sum (Int) (Sum (Unit) (Bool))):=
  cond (decide (a<(length c:Int))) ((idx c a).bind fun b=>(zhn b).bind fun d=>(cond (!d) (some true) ((zkS c 0 a).bind fun e=>(zaG e b).bind fun f=>some f)).bind fun i=>cond i (some (.inr (.inr false))) (some (.inl (IntKind.i64.wrap (a+1))))) (some (.inr (.inl ())))
def zhI(a:T1)(c:Int):Option (Bool):=
  (zr (fun z=>zhR a z) 0).bind fun o=>zQ o (fun b=>zoi a c) some
instance (e:T1)(f:Int):PF Tryz.prog 159 [.isl 1 (map zm e),iA f,.fn (.func 160) [] [],.fn (.func 158) [] []] (zhI e f) bA:=⟨fun r h=>by
 refine zo Tryz.func159 y kz y y<|A ?_;refine zi<|A ?_;obtain ⟨o,ho,h⟩:=bs h;refine lpB ho (fun z=>[(0,.isl 1 (map zm e)),(1,iA f),(3,.fn (.func 158) [] []),(6,.mpt 0 0 0),(11,.isl 1 (map zm e)),(12,iA (length e:Int)),(13,iA z)]) (fun z=>[some (1,[[.fn (.func 160) [] []]])]) (fun b=>[(0,.isl 1 (map zm e)),(1,iA f)]) (fun b=>[]) (pG Tryz.f159 bA) (zbZ [.old 0]) ?_ ?_
 ·rintro v r h;refine A ?_;refine zi ?_;refine zeh h y (fun m h=>?_) fun m h=>?_
  ·refine zg<|zi<|zs ?_;obtain ⟨n,B,h⟩:=bs h;refine A ?_;obtain ⟨C,D,p,d,h⟩:=bs2 h;refine A ?_;refine ztF (x:=p) (j:=4) 5 y y y y y gpn (fun c=>by replace d:=bF c d;obtain ⟨q,i,d⟩:=bs d;obtain ⟨E,s,d⟩:=bs d;obtain rfl:=sm d;exact g y c<|mv y<|g y c<|mv y<|g y c<|slI (a:=0) (b:=v) ti y ti y y y (zqT y i) i<|g y c<|mf y y<|g y c<|pcs (zd0 q n s) y y (.cons (si y) (.cons (zfW t ⟨(zay y ⟨(si y),t⟩),(zay y ⟨(si y),t⟩),t⟩) .nil)) za9<|zz (eg [23,24,25,26,27] 5 y y y y)) (fun hb=>(sm (bT hb d)).symm)<|zz ?_;refine zeh h y (fun l h=>?_) fun l h=>?_
   ·refine A ?_;refine zL ?_;obtain rfl:=sm h;exact ⟨_,y,_,y,zbc []⟩
   ·refine zg<|A ?_;obtain rfl:=sm h;exact ⟨_,y,zy [.old 0]⟩
  ·refine zJ ?_;obtain rfl:=sm h;exact ⟨y,_,y,zy []⟩
 ·rintro ⟨⟩ rfl;refine zA<|A ?_
  exact RT0⟩
def zo6(a:za):Option (Bool):=
  cond (a.Interface&&((!(a.Super == [79,98,106,101,99,116]))||(decide (0<(length a.Fields:Int))))) (some false) ((zgr a.Fields 8).bind fun b=>(zep a.Methods 8 a.Name a.Super a.Interface a.Impl a.Fields a.Methods).bind fun c=>(zhn a.Name).bind fun d=>(cond d ((zhn a.Super).bind fun e=>some e) (some false)).bind fun f=>(cond f ((zhI a.Impl 4).bind fun i=>some i) (some false)).bind fun j=>some ((j&&b)&&c))
instance (a:za):PF Tryz.prog 72 [.agg (zb a)] (zo6 a) bA:=⟨fun r h=>by
 refine zo Tryz.func72 y kz y y<|A ?_;refine zi<|A ?_;refine zeh h y (fun b h=>?_) fun b h=>?_
 ·refine A ?_;exact RT0
 ·refine zg ?_;obtain ⟨e,f,h⟩:=bs h;refine A ?_;obtain ⟨i,c,h⟩:=bs h;refine A ?_;refine u<|pcs (zid a.Methods 8 a.Name a.Super a.Interface a.Impl a.Fields a.Methods c) y y (.cons (si y) (.cons (si y) (.cons (si y) (.cons (zfW t ⟨(zay y ⟨(si y),(si y),(si y),(si y),(si y),(si y),t⟩),t⟩) .nil)))) za9<|A ?_;obtain ⟨j,l,m,n,o,d,h⟩:=bs3 h;refine A ?_
  exact RT0⟩
def zkP(a:zc)(b:T0):Bool:=
  (a.Name == b)
instance (a:zc)(b:T0):PF Tryz.prog 226 [.agg (zf a),.ipt 1 [[sA b]] 0 0] (some (zkP a b)) bA:=.of fun r h=>by
 refine zo Tryz.func226 y kz y y ?_;unfold zkP at h;refine A ?_;refine A ?_;refine zL ?_;obtain rfl:=h;exact ⟨_,y,zbc []⟩
def zcV:Option (Int):=
  some (-1)
def zaA(b:List zc)(c:T0)(a:Int):Option (Sum (Int) (Sum (Unit) (Int))):=
  cond (decide (a<(length b:Int))) ((idx b a).bind fun d=>cond (zkP d c) (some (.inr (.inr a))) (some (.inl (IntKind.i64.wrap (a+1))))) (some (.inr (.inl ())))
def zaU(a:List zc)(c:T0):Option (Int):=
  (zr (fun z=>zaA a c z) 0).bind fun o=>zQ o (fun b=>zcV) some
theorem zcW(a:List zc)(c:T0){r:Int}(h:zaU a c=some r):zan Tryz.prog 225 [.isl 10 (map zf a),.fn (.func 226) [] [.ipt 1 [[sA c]] 0 0]] (iA r):=by
 refine zo Tryz.func225 y kz y y<|A ?_;refine zi<|A ?_;obtain ⟨o,ho,h⟩:=bs h;refine lpB ho (fun z=>[(0,.isl 10 (map zf a)),(1,.fn (.func 226) [] [.ipt 1 [[sA c]] 0 0]),(7,iA (length a:Int)),(8,iA z)]) (fun z=>[]) (fun b=>[]) (fun b=>[]) (pG Tryz.f225 iA) (zbZ []) ?_ ?_
 ·rintro f r h;refine A ?_;refine zi ?_;refine zeh h y (fun d h=>?_) fun d h=>?_
  ·refine zg<|zi<|zs<|A ?_;obtain ⟨i,j,h⟩:=bs h;refine A ?_;refine zeh h y (fun e h=>?_) fun e h=>?_
   ·refine A ?_;refine zL ?_;obtain rfl:=sm h;exact ⟨_,y,_,y,zbc []⟩
   ·refine zg<|A ?_;obtain rfl:=sm h;exact ⟨_,y,zy []⟩
  ·refine zJ ?_;obtain rfl:=sm h;exact ⟨y,_,y,zy []⟩
 ·rintro ⟨⟩ rfl;refine zA<|A ?_;exact RT0
instance (a:List zc)(b:T0):PF Tryz.prog 225 [.isl 10 (map zf a),.fn (.func 226) [] [.ipt 1 [[sA b]] 0 0]] (zaU a b) iA:=⟨fun _=>zcW a b⟩
def zeC(a:za)(b:T0):Option (Int):=
  (zaU a.Methods b).bind fun c=>some c
theorem zf2(a:za)(b:T0){r:Int}(h:zeC a b=some r):zan Tryz.prog 141 [.agg (zb a),sA b] (iA r):=by
 refine zo Tryz.func141 y kz y y<|A ?_;obtain ⟨d,c,h⟩:=bs h;refine A ?_;refine u<|pcs (zcW a.Methods b c) y y (.cons (si y) (.cons (zfW t ⟨(zay y ⟨(si y),t⟩),t⟩) .nil)) za9<|A ?_;exact RT0
instance (a:za)(b:T0):PF Tryz.prog 141 [.agg (zb a),sA b] (zeC a b) iA:=⟨fun _=>zf2 a b⟩
def zlr(a:zj)(b:T0):Bool:=
  (a.Name == b)
instance (a:zj)(b:T0):PF Tryz.prog 316 [.agg (zD a),.ipt 1 [[sA b]] 0 0] (some (zlr a b)) bA:=.of fun r h=>by
 refine zo Tryz.func316 y kz y y ?_;unfold zlr at h;refine A ?_;refine A ?_;refine zL ?_;obtain rfl:=h;exact ⟨_,y,zbc []⟩
def zdm:Option (Int):=
  some (-1)
def zaP(b:List zj)(c:T0)(a:Int):Option (Sum (Int) (Sum (Unit) (Int))):=
  cond (decide (a<(length b:Int))) ((idx b a).bind fun d=>cond (zlr d c) (some (.inr (.inr a))) (some (.inl (IntKind.i64.wrap (a+1))))) (some (.inr (.inl ())))
def za4(a:List zj)(c:T0):Option (Int):=
  (zr (fun z=>zaP a c z) 0).bind fun o=>zQ o (fun b=>zdm) some
theorem zdn(a:List zj)(c:T0){r:Int}(h:za4 a c=some r):zan Tryz.prog 315 [.isl 3 (map zD a),.fn (.func 316) [] [.ipt 1 [[sA c]] 0 0]] (iA r):=by
 refine zo Tryz.func315 y kz y y<|A ?_;refine zi<|A ?_;obtain ⟨o,ho,h⟩:=bs h;refine lpB ho (fun z=>[(0,.isl 3 (map zD a)),(1,.fn (.func 316) [] [.ipt 1 [[sA c]] 0 0]),(7,iA (length a:Int)),(8,iA z)]) (fun z=>[]) (fun b=>[]) (fun b=>[]) (pG Tryz.f315 iA) (zbZ []) ?_ ?_
 ·rintro f r h;refine A ?_;refine zi ?_;refine zeh h y (fun d h=>?_) fun d h=>?_
  ·refine zg<|zi<|zs<|A ?_;obtain ⟨i,j,h⟩:=bs h;refine A ?_;refine zeh h y (fun e h=>?_) fun e h=>?_
   ·refine A ?_;refine zL ?_;obtain rfl:=sm h;exact ⟨_,y,_,y,zbc []⟩
   ·refine zg<|A ?_;obtain rfl:=sm h;exact ⟨_,y,zy []⟩
  ·refine zJ ?_;obtain rfl:=sm h;exact ⟨y,_,y,zy []⟩
 ·rintro ⟨⟩ rfl;refine zA<|A ?_;exact RT0
instance (a:List zj)(b:T0):PF Tryz.prog 315 [.isl 3 (map zD a),.fn (.func 316) [] [.ipt 1 [[sA b]] 0 0]] (za4 a b) iA:=⟨fun _=>zdn a b⟩
def zjT(a:za)(b:T0):Option (Int):=
  (za4 a.Fields b).bind fun c=>some c
theorem znK(a:za)(b:T0){r:Int}(h:zjT a b=some r):zan Tryz.prog 223 [.agg (zb a),sA b] (iA r):=by
 refine zo Tryz.func223 y kz y y<|A ?_;obtain ⟨d,c,h⟩:=bs h;refine A ?_;refine u<|pcs (zdn a.Fields b c) y y (.cons (si y) (.cons (zfW t ⟨(zay y ⟨(si y),t⟩),t⟩) .nil)) za9<|A ?_;exact RT0
instance (a:za)(b:T0):PF Tryz.prog 223 [.agg (zb a),sA b] (zjT a b) iA:=⟨fun _=>znK a b⟩
def zpu:Option (Int):=
  some (-1)
def zjK(b:za)(c:T0)(a:Int):Option (Sum (Int) (Sum (Unit) (Int))):=
  cond (decide (a<(length b.Fields:Int))) ((idx b.Fields a).bind fun d=>cond (d.Name == c) (some (.inr (.inr a))) (some (.inl (IntKind.i64.wrap (a+1))))) (some (.inr (.inl ())))
def zp2(a:za)(c:T0):Option (Int):=
  (zr (fun z=>zjK a c z) 0).bind fun o=>zQ o (fun b=>zpu) some
def zn7:Option (Int):=
  some (-1)
def zi3(b:za)(c:T0)(a:Int):Option (Sum (Int) (Sum (Unit) (Int))):=
  cond (decide (a<(length b.Methods:Int))) ((idx b.Methods a).bind fun d=>cond (d.Name == c) (some (.inr (.inr a))) (some (.inl (IntKind.i64.wrap (a+1))))) (some (.inr (.inl ())))
def zlR(a:za)(c:T0):Option (Int):=
  (zr (fun z=>zi3 a c z) 0).bind fun o=>zQ o (fun b=>zn7) some
def zrx:Option (Bool):=
  some true
def zry(b:T1)(c:T1)(a:Int):Option (Sum (Int) (Sum (Unit) (Bool))):=
  cond (decide (a<(length b:Int))) ((idx b a).bind fun d=>(idx c a).bind fun e=>cond (!(d == e)) (some (.inr (.inr false))) (some (.inl (IntKind.i64.wrap (a+1))))) (some (.inr (.inl ())))
def zmX(a:T1)(c:T1):Option (Bool):=
  cond (!((length a:Int) == (length c:Int))) (some false) ((zr (fun z=>zry a c z) 0).bind fun o=>zQ o (fun b=>zrx) some)
theorem zmY(a:T1)(c:T1){r:Bool}(h:zmX a c=some r):zan Tryz.prog 48 [.isl 1 (map zm a),.isl 1 (map zm c)] (bA r):=by
 refine zo Tryz.func48 y kz y y<|A ?_;refine zi<|A ?_;refine zeh h y (fun d h=>?_) fun d h=>?_
 ·refine A ?_;exact RT0
 ·refine zg<|zi<|A ?_;obtain ⟨o,ho,h⟩:=bs h;refine lpB ho (fun z=>[(0,.isl 1 (map zm a)),(1,.isl 1 (map zm c)),(5,iA z)]) (fun z=>[]) (fun b=>[]) (fun b=>[]) (pG Tryz.f48 bA) (zbZ []) ?_ ?_
  ·rintro i r h;refine zi<|A ?_;refine zeh h y (fun e h=>?_) fun e h=>?_
   ·refine zg<|zi<|zs ?_;obtain ⟨j,l,m,n,h⟩:=bs2 h;refine rdA [(0,_),(1,_),(5,_),(25,_)] [] [] [0,1,2,3,4,5,6,7,8] [(25,_),(24,_),(23,_),(22,_),(21,_),(20,_),(19,_),(18,_),(17,_)] 0 (zgE (z:=zbZ [])) ?_;refine zeh h y (fun f h=>?_) fun f h=>?_
    ·refine A ?_;refine zL ?_;obtain rfl:=sm h;exact ⟨_,y,_,y,zbc []⟩
    ·refine zg<|A ?_;obtain rfl:=sm h;exact ⟨_,y,zy []⟩
   ·refine zJ ?_;obtain rfl:=sm h;exact ⟨y,_,y,zy []⟩
  ·rintro ⟨⟩ rfl;refine zA<|A ?_;exact RT0
structure zq where
  l:List za
  at_:T2
def zS(x:zq):List AV:=[.isl 6 (map zb x.l),.imp (map (rKV (fun x=>iA x)) x.at_)]
def zcC(a:T0)(b:Int):Option (T0):=
  cond (decide (b<(length a:Int))) ((zkS a 0 b).bind fun c=>some c) (some a)
instance (d:T0)(c:Int):PF Tryz.prog 38 [sA d,iA c] (zcC d c) sA:=⟨fun r h=>by
 refine zo Tryz.func38 y kz y y<|A ?_;refine zi<|A ?_;refine zeh h y (fun e h=>?_) fun e h=>?_
 ·obtain ⟨i,f,h⟩:=bs h;refine A ?_;refine u<|slS (a:=0) (b:=c) ti y y y (zqT y f) f<|A ?_;exact RT0
 ·refine zg<|A ?_
  exact RT0⟩
def ztl(a:T1):Option (T1):=
  some a
def zhq(b:T1)(i:Int)(c:T1)(a:Int):Option (Sum (T1×Int) (Sum (T1) (T1))):=
  cond ((decide (a<(length b:Int)))&&(decide (a<i))) ((idx b a).bind fun d=>(zcC d 12).bind fun e=>(zhj 16 c [e]).bind fun f=>some (.inl (f,(IntKind.i64.wrap (a+1))))) (some (.inr (.inl c)))
def zfk(a:T1)(c:Int):Option (T1):=
  (zr (fun z=>zhq a c z.1 z.2) ([],0)).bind fun o=>zQ o (fun b=>ztl b) some
theorem zhr(a:T1)(c:Int){r:T1}(h:zfk a c=some r):zan Tryz.prog 70 [.isl 1 (map zm a),iA c] (.isl 1 (map zm r)):=by
 refine zo Tryz.func70 y kz y y<|A ?_;refine A ?_;refine zi<|A ?_;obtain ⟨o,ho,h⟩:=bs h;refine lpB ho (fun z=>[(0,.isl 1 (map zm a)),(1,iA c),(5,.msl 0 0 (length z.1)),(6,iA z.2)]) (fun z=>[some (1,map zm z.1)]) (fun b=>[(5,.msl 0 0 (length b))]) (fun b=>[some (1,map zm b)]) (pG Tryz.f70 (fun r=>.isl 1 (map zm r))) ⟨[.fresh 1],ce y y<|ce y y<|cv y (.nilown y)<|ce y y<|cn,y,⟨w,t⟩,y,k⟩ ?_ ?_
 ·rintro ⟨n,p⟩ r h;refine zi<|A ?_;refine zeh h y (fun d h=>?_) fun d h=>?_
  ·refine zg<|zi<|zs ?_;obtain ⟨j,q,e,s,l,i,h⟩:=bs3 h;refine A ?_;refine u<|apM 2 ti y ti y y (by decide) ti y y y y (roX (f:=zm) (z:=[e]) y y) (fun _=>y) y i<|A ?_;refine A ?_;obtain rfl:=sm h;exact ⟨_,y,zy [.old 2]⟩
  ·refine zJ ?_;obtain rfl:=sm h;exact ⟨y,_,y,zy [.old 0]⟩
 ·rintro m rfl;refine zA<|A ?_;exact RT0
instance (a:T1)(b:Int):PF Tryz.prog 70 [.isl 1 (map zm a),iA b] (zfk a b) (fun r=>(.isl 1 (map zm r))):=⟨fun _=>zhr a b⟩
def zqE(a:zn):Option (zn):=
  (zcC a.C 14).bind fun b=>(zcC a.M 12).bind fun c=>some (zn.mk a.Op a.A b c)
instance (a:zn):PF Tryz.prog 148 [.agg (zv a)] (zqE a) (fun r=>(.agg (zv r))):=⟨fun r h=>by
 refine zo Tryz.func148 y kz y y<|A ?_;obtain ⟨b,d,c,e,h⟩:=bs2 h;refine rdA [(1,_),(2,_)] [some (4,[[iA a.Op,iA a.A,sA b,sA c]]),some (4,[[iA 0,iA 0,sA [],sA []]])] [7,9] [0,1,2,3,4,5,6] [(9,_),(8,_),(7,_),(6,_),(5,_),(4,_),(3,_)] 2 (ze7 (z:=by exact ⟨(fun _ _=>⟨_,y,y,sto ti y y y<|⟨.any,[8],[(10,_)],y,y,y,t,ze7 (z:=by exact ⟨nv,(fun _ _=>⟨_,y,y,sto ti y y y<|⟨.any,[],[],y,y,y,t,zgE (z:=zbZ [.old 0,.old 1])⟩⟩),t⟩)⟩⟩),nw,t⟩)) ?_;refine A ?_
 exact RT0⟩
def zr5(a:zc)(e:T0)(f:T1)(i:T0)(b:List zn)(c:List zX)(d:List zT):Option (zc):=
  some (zc.mk e f i a.Static a.Abstract a.Locals a.Stack b c d)
def zgO(d:zc)(c:List zT)(a:Int):Option (Sum ((List zT)×Int) (Sum ((List zT)) (zc))):=
  cond ((decide (a<(length d.Traps:Int)))&&(decide (a<8))) ((idx d.Traps a).bind fun b=>(zcC b.C 10).bind fun e=>(zhj 40 c [(zT.mk b.From b.To b.At e)]).bind fun f=>some (.inl (f,(IntKind.i64.wrap (a+1))))) (some (.inr (.inl c)))
def zkU(a:zc)(e:T0)(f:T1)(i:T0)(c:List zn)(d:List zX):Option (zc):=
  (zr (fun z=>zgO a z.1 z.2) ([],0)).bind fun o=>zQ o (fun b=>zr5 a e f i c d b) some
def zgN(b:zc)(c:List zX)(a:Int):Option (Sum ((List zX)×Int) (Sum ((List zX)) (zc))):=
  cond ((decide (a<(length b.Maps:Int)))&&(decide (a<104))) ((idx b.Maps a).bind fun d=>(idx b.Maps a).bind fun e=>(zfk e.Locals 20).bind fun f=>(idx b.Maps a).bind fun i=>(zfk i.Stack 20).bind fun j=>(zhj 56 c [(zX.mk d.At f j)]).bind fun l=>some (.inl (l,(IntKind.i64.wrap (a+1))))) (some (.inr (.inl c)))
def zkT(a:zc)(d:T0)(e:T1)(f:T0)(c:List zn):Option (zc):=
  (zr (fun z=>zgN a z.1 z.2) ([],0)).bind fun o=>zQ o (fun b=>zkU a d e f c b) some
def zgM(c:zc)(b:List zn)(a:Int):Option (Sum ((List zn)×Int) (Sum ((List zn)) (zc))):=
  cond ((decide (a<(length c.Code:Int)))&&(decide (a<104))) ((idx c.Code a).bind fun d=>(zqE d).bind fun e=>(zhj 48 b [e]).bind fun f=>some (.inl (f,(IntKind.i64.wrap (a+1))))) (some (.inr (.inl b)))
def zlJ(a:zc):Option (zc):=
  (zcC a.Name 10).bind fun c=>(zfk a.Params 8).bind fun d=>(zcC a.Ret 12).bind fun e=>(zr (fun z=>zgM a z.1 z.2) ([],0)).bind fun o=>zQ o (fun b=>zkT a c d e b) some
instance (a:zc):PF Tryz.prog 71 [.agg (zf a)] (zlJ a) (fun r=>(.agg (zf r))):=⟨fun r h=>by
 refine zo Tryz.func71 y kz y y<|A ?_;obtain ⟨e,q1,i,q2,j,q3,h⟩:=bs3 h;refine rdA [(1,_),(2,_),(3,_)] [some (10,[(zf a)]),some (10,[[sA [],.lit (.slice none 0 0),sA [],bA false,bA false,iA 0,iA 0,.lit (.slice none 0 0),.lit (.slice none 0 0),.lit (.slice none 0 0)]]),some (10,[[sA e,.isl 1 (map zm i),sA j,bA a.Static,bA a.Abstract,iA a.Locals,iA a.Stack,.lit (.slice none 0 0),.lit (.slice none 0 0),.lit (.slice none 0 0)]])] [18,19] [0,1,2,3,4,5,6,7,8,9,10,11,12,13,14,15,16,17] [(25,_),(24,_),(23,_),(22,_),(21,_),(20,_),(19,_),(18,_),(17,_),(16,_),(15,_),(14,_),(13,_),(12,_),(11,_),(10,_),(9,_),(8,_)] 2 (ze7 ⟨peC,peC,peC,peC,peC,peC,peC,peC,peC,peC,peC,peC,peC,peC,peC,peC,peC,(by exact pb y (bd (parts:=[(0,sA e),(1,.isl 1 (map zm i)),(2,sA j),(3,bA a.Static),(4,bA a.Abstract),(5,iA a.Locals),(6,iA a.Stack)]) (cs:=[sA e,.isl 1 (map zm i),sA j,bA a.Static,bA a.Abstract,iA a.Locals,iA a.Stack,.lit (.slice none 0 0),.lit (.slice none 0 0),.lit (.slice none 0 0)]) ti y y kz<|w)),t⟩ (by exact ⟨(fun _ _=>⟨_,y,y,al 2 ti y<|⟨(.mpt 2 0 0),[],[(3,_)],y,y,y,y,ze7 ⟨peC,peC,peC,peC,peC,peC,peC,peC,peC,peC,peC,peC,peC,peC,peC,peC,peC,(by exact pb y (bd (parts:=[(0,sA e),(1,.isl 1 (map zm i)),(2,sA j),(3,bA a.Static),(4,bA a.Abstract),(5,iA a.Locals),(6,iA a.Stack)]) (cs:=[sA e,.isl 1 (map zm i),sA j,bA a.Static,bA a.Abstract,iA a.Locals,iA a.Stack,.lit (.slice none 0 0),.lit (.slice none 0 0),.lit (.slice none 0 0)]) ti y y kz<|w)),t⟩ (by exact ⟨nv,(fun _ _=>⟨_,y,y,sto ti y y y<|⟨.any,[],[],y,y,y,t,zgE (z:=zbZ [.old 0,.old 1,.old 2])⟩⟩),t⟩)⟩⟩),nw,t⟩)) ?_;refine zi<|A ?_;obtain ⟨o,ho,h⟩:=bs h;refine lpB ho (fun z=>[(1,.mpt 0 0 0),(2,.mpt 1 0 0),(3,.mpt 2 0 0),(4,iA z.2)]) (fun z=>[some (10,[(zf a)]),some (10,[[sA [],.lit (.slice none 0 0),sA [],bA false,bA false,iA 0,iA 0,.lit (.slice none 0 0),.lit (.slice none 0 0),.lit (.slice none 0 0)]]),some (10,[[sA e,.isl 1 (map zm i),sA j,bA a.Static,bA a.Abstract,iA a.Locals,iA a.Stack,.msl 3 0 (length z.1),.lit (.slice none 0 0),.lit (.slice none 0 0)]]),some (4,map zv z.1)]) (fun b=>[(1,.mpt 0 0 0),(2,.mpt 1 0 0),(3,.mpt 2 0 0)]) (fun b=>[some (10,[(zf a)]),some (10,[[sA [],.lit (.slice none 0 0),sA [],bA false,bA false,iA 0,iA 0,.lit (.slice none 0 0),.lit (.slice none 0 0),.lit (.slice none 0 0)]]),some (10,[[sA e,.isl 1 (map zm i),sA j,bA a.Static,bA a.Abstract,iA a.Locals,iA a.Stack,.msl 3 0 (length b),.lit (.slice none 0 0),.lit (.slice none 0 0)]]),some (4,map zv b)]) (pG Tryz.f71 (fun r=>.agg (zf r))) ⟨[.old 0,.old 1,.old 2,.fresh 4],cv y (.mpt y)<|cv y (.mpt y)<|cv y (.mpt y)<|ce y y<|cn,y,⟨⟨_,y,zfU (ciL y)⟩,⟨_,y,zfU (ciL y)⟩,⟨_,y,zfU ⟨ci y,ci y,ci y,ci y,ci y,ci y,ci y,.nilown y,ci y,ci y,t⟩⟩,w,t⟩,y,k⟩ ?_ ?_
 ·rintro ⟨Q,R⟩ r h;refine zi<|A ?_;refine zeh h y (fun H h=>?_) fun H h=>?_
  ·refine zg<|zi<|zs ?_;obtain ⟨S,T,K,U,v,L,h⟩:=bs3 h;refine zpG [(1,_),(2,_),(3,_),(4,_)] [some (10,[(zf a)]),some (10,[[sA [],.lit (.slice none 0 0),sA [],bA false,bA false,iA 0,iA 0,.lit (.slice none 0 0),.lit (.slice none 0 0),.lit (.slice none 0 0)]]),some (10,[[sA e,.isl 1 (map zm i),sA j,bA a.Static,bA a.Abstract,iA a.Locals,iA a.Stack,.msl 3 0 (length v),.lit (.slice none 0 0),.lit (.slice none 0 0)]]),some (4,map zv v)] [8,9,11] [0,1,2,3,4,5,6,7] [(44,_),(43,_),(42,_),(41,_),(40,_),(39,_),(38,_),(37,_)] 3 (ze7 (z:=by exact ⟨(fun _ _=>⟨_,y,y,bl 4 ti y ti y (by decide) (by decide) y y y<|⟨(.msl 4 0 1),[],[(45,_)],y,y,y,y,ze7 (z:=by exact ⟨nv,(fun _ _=>⟨_,y,y,apM 5 ti y ti y y (by decide) ti y y y y (roX (f:=zv) (z:=[K]) y y) (fun _=>y) y L<|⟨(.msl 5 0 (length v)),[10],[(47,_),(46,_)],y,y,y,y,ze7 (z:=by exact ⟨nv,nv,(fun _ _=>⟨_,y,y,sto ti y y y<|⟨.any,[],[],y,y,y,t,zgE (z:=zbZ [.old 0,.old 1,.old 2,.old 5])⟩⟩),t⟩)⟩⟩),nw,t⟩)⟩⟩),nw,nw,t⟩)) ?_;refine A ?_;obtain rfl:=sm h;exact ⟨_,y,zy [.old 0,.old 1,.old 2,.old 3]⟩
  ·refine zJ ?_;obtain rfl:=sm h;exact ⟨y,_,y,zy [.old 0,.old 1,.old 2,.old 3]⟩
 ·rintro c rfl;refine zA<|zi<|A ?_;obtain ⟨o,ho,h⟩:=bs h;refine lpB ho (fun z=>[(1,.mpt 0 0 0),(2,.mpt 1 0 0),(3,.mpt 2 0 0),(5,iA z.2)]) (fun z=>[some (10,[(zf a)]),some (10,[[sA [],.lit (.slice none 0 0),sA [],bA false,bA false,iA 0,iA 0,.lit (.slice none 0 0),.lit (.slice none 0 0),.lit (.slice none 0 0)]]),some (10,[[sA e,.isl 1 (map zm i),sA j,bA a.Static,bA a.Abstract,iA a.Locals,iA a.Stack,.msl 3 0 (length c),.msl 4 0 (length z.1),.lit (.slice none 0 0)]]),some (4,map zv c),some (3,map zae z.1)]) (fun b=>[(1,.mpt 0 0 0),(2,.mpt 1 0 0),(3,.mpt 2 0 0)]) (fun b=>[some (10,[(zf a)]),some (10,[[sA [],.lit (.slice none 0 0),sA [],bA false,bA false,iA 0,iA 0,.lit (.slice none 0 0),.lit (.slice none 0 0),.lit (.slice none 0 0)]]),some (10,[[sA e,.isl 1 (map zm i),sA j,bA a.Static,bA a.Abstract,iA a.Locals,iA a.Stack,.msl 3 0 (length c),.msl 4 0 (length b),.lit (.slice none 0 0)]]),some (4,map zv c),some (3,map zae b)]) (pG Tryz.f71 (fun r=>.agg (zf r))) ⟨[.old 0,.old 1,.old 2,.old 3,.fresh 3],cv y (.mpt y)<|cv y (.mpt y)<|cv y (.mpt y)<|ce y y<|cn,y,⟨⟨_,y,zfU (ciL y)⟩,⟨_,y,zfU (ciL y)⟩,⟨_,y,zfU ⟨ci y,ci y,ci y,ci y,ci y,ci y,ci y,.msl y,.nilown y,ci y,t⟩⟩,⟨_,y,zgo (fun _=>y)⟩,w,t⟩,y,k⟩ ?_ ?_
  ·rintro ⟨M,d⟩ r h;refine zi<|A ?_;refine zeh h y (fun I h=>?_) fun I h=>?_
   ·refine zg<|zi<|zs ?_;obtain ⟨x,l,p,m,B,C,D,n,h⟩:=bs4 h;obtain ⟨E,G,q,N,h⟩:=bs2 h;refine zpG [(1,.mpt 0 0 0),(2,.mpt 1 0 0),(3,.mpt 2 0 0),(5,iA d)] [some (10,[(zf a)]),some (10,[[sA [],.lit (.slice none 0 0),sA [],bA false,bA false,iA 0,iA 0,.lit (.slice none 0 0),.lit (.slice none 0 0),.lit (.slice none 0 0)]]),some (10,[[sA e,.isl 1 (map zm i),sA j,bA a.Static,bA a.Abstract,iA a.Locals,iA a.Stack,.msl 3 0 (length c),.msl 4 0 (length q),.lit (.slice none 0 0)]]),some (4,map zv c),some (3,map zae q)] [23,24,26] [22,21,20,19,18,17,16,15,14,13,12,11,10,9,8,7,6,5,4,3,2,1,0] [(81,.agg [iA x.At,.isl 1 (map zm B),.isl 1 (map zm E)]),(80,.isl 1 (map zm E)),(79,.isl 1 (map zm D.Stack)),(78,.ipt 3 (map zae a.Maps) (Int.toNat d) 2),(77,.ipt 3 (map zae a.Maps) (Int.toNat d) 0),(76,iA d),(75,.isl 3 (map zae a.Maps)),(74,.mpt 0 0 8),(73,.isl 1 (map zm B)),(72,.isl 1 (map zm p.Locals)),(71,.ipt 3 (map zae a.Maps) (Int.toNat d) 1),(70,.ipt 3 (map zae a.Maps) (Int.toNat d) 0),(69,iA d),(68,.isl 3 (map zae a.Maps)),(67,.mpt 0 0 8),(66,iA x.At),(65,.ipt 3 (map zae a.Maps) (Int.toNat d) 0),(64,.ipt 3 (map zae a.Maps) (Int.toNat d) 0),(63,iA d),(62,.isl 3 (map zae a.Maps)),(61,.mpt 0 0 8),(60,.msl 4 0 (length M)),(59,.mpt 2 0 8)] 3 (zj0 ⟨(pb y (bd ti y y y w)),(pb y (pc (zhr D.Stack 20 G) y y y w)),(pb y (ldI ti y (zt n).2.2 y w)),(pb y (fa ti y y y w)),(pb y (ixI ti y ti y y y n w)),pe,(pb y (ld ti y y w)),(pb y (fa ti y y y w)),(pb y (pc (zhr p.Locals 20 C) y y y w)),(pb y (ldI ti y (zt m).2.2 y w)),(pb y (fa ti y y y w)),(pb y (ixI ti y ti y y y m w)),pe,(pb y (ld ti y y w)),(pb y (fa ti y y y w)),(pb y (ldI ti y (zt l).2.2 y w)),(pb y (fa ti y y y w)),(pb y (ixI ti y ti y y y l w)),pe,(pb y (ld ti y y w)),(pb y (fa ti y y y w)),(pb y (ld ti y y w)),(pb y (fa ti y y y w)),t⟩ ⟨(fun _ _=>⟨_,y,y,bl 5 ti y ti y (by decide) (by decide) y y y<|⟨(.msl 5 0 1),[],[(82,.msl 5 0 1)],y,y,kz,y,zj0 ⟨pe,(pb y (pc (zhr D.Stack 20 G) y y y w)),(pb y (ldI ti y (zt n).2.2 y w)),(pb y (fa ti y y y w)),(pb y (ixI ti y ti y y y n w)),pe,(pb y (ld ti y y w)),(pb y (fa ti y y y w)),(pb y (pc (zhr p.Locals 20 C) y y y w)),(pb y (ldI ti y (zt m).2.2 y w)),(pb y (fa ti y y y w)),(pb y (ixI ti y ti y y y m w)),pe,(pb y (ld ti y y w)),(pb y (fa ti y y y w)),(pb y (ldI ti y (zt l).2.2 y w)),(pb y (fa ti y y y w)),(pb y (ixI ti y ti y y y l w)),pe,(pb y (ld ti y y w)),(pb y (fa ti y y y w)),(pb y (ld ti y y w)),(pb y (fa ti y y y w)),t⟩ ⟨nv,(fun _ _=>⟨_,y,y,apM 6 ti y ti y y (by decide) ti y y y y (roX (f:=zae) (z:=[(zX.mk x.At B E)]) y y) (fun _=>y) y N<|⟨(.msl 6 0 (length q)),[25],[(84,.mpt 2 0 8),(83,.msl 6 0 (length q))],y,y,kz,y,zj0 ⟨(pb y (fa ti y y y w)),pe,pe,(pb y (ldI ti y (zt n).2.2 y w)),(pb y (fa ti y y y w)),(pb y (ixI ti y ti y y y n w)),pe,(pb y (ld ti y y w)),(pb y (fa ti y y y w)),(pb y (pc (zhr p.Locals 20 C) y y y w)),(pb y (ldI ti y (zt m).2.2 y w)),(pb y (fa ti y y y w)),(pb y (ixI ti y ti y y y m w)),pe,(pb y (ld ti y y w)),(pb y (fa ti y y y w)),(pb y (ldI ti y (zt l).2.2 y w)),(pb y (fa ti y y y w)),(pb y (ixI ti y ti y y y l w)),pe,(pb y (ld ti y y w)),(pb y (fa ti y y y w)),pe,(pb y (fa ti y y y w)),t⟩ ⟨nv,nv,(fun _ _=>⟨_,y,y,sto ti y y y<|⟨.any,[],[],y,y,kz,t,zvz (zy [.old 0,.old 1,.old 2,.old 3,.old 6])⟩⟩),t⟩⟩⟩),nw,t⟩⟩⟩),nw,nw,t⟩) ?_;refine A ?_;obtain rfl:=sm h;exact ⟨_,y,zy [.old 0,.old 1,.old 2,.old 3,.old 4]⟩
   ·refine zJ ?_;obtain rfl:=sm h;exact ⟨y,_,y,zy [.old 0,.old 1,.old 2,.old 3,.old 4]⟩
  ·rintro s rfl;refine zA<|zi<|A ?_;obtain ⟨o,ho,h⟩:=bs h;refine lpB ho (fun z=>[(1,.mpt 0 0 0),(2,.mpt 1 0 0),(3,.mpt 2 0 0),(6,iA z.2)]) (fun z=>[some (10,[(zf a)]),some (10,[[sA [],.lit (.slice none 0 0),sA [],bA false,bA false,iA 0,iA 0,.lit (.slice none 0 0),.lit (.slice none 0 0),.lit (.slice none 0 0)]]),some (10,[[sA e,.isl 1 (map zm i),sA j,bA a.Static,bA a.Abstract,iA a.Locals,iA a.Stack,.msl 3 0 (length c),.msl 4 0 (length s),.msl 5 0 (length z.1)]]),some (4,map zv c),some (3,map zae s),some (4,map z7 z.1)]) (fun b=>[(2,.mpt 0 0 0),(3,.mpt 1 0 0)]) (fun b=>[some (10,[[sA [],.lit (.slice none 0 0),sA [],bA false,bA false,iA 0,iA 0,.lit (.slice none 0 0),.lit (.slice none 0 0),.lit (.slice none 0 0)]]),some (10,[[sA e,.isl 1 (map zm i),sA j,bA a.Static,bA a.Abstract,iA a.Locals,iA a.Stack,.msl 2 0 (length c),.msl 3 0 (length s),.msl 4 0 (length b)]]),some (4,map zv c),some (3,map zae s),some (4,map z7 b)]) (pG Tryz.f71 (fun r=>.agg (zf r))) ⟨[.old 0,.old 1,.old 2,.old 3,.old 4,.fresh 4],cv y (.mpt y)<|cv y (.mpt y)<|cv y (.mpt y)<|ce y y<|cn,y,⟨⟨_,y,zfU (ciL y)⟩,⟨_,y,zfU (ciL y)⟩,⟨_,y,zfU ⟨ci y,ci y,ci y,ci y,ci y,ci y,ci y,.msl y,.msl y,.nilown y,t⟩⟩,⟨_,y,zgo (fun _=>y)⟩,⟨_,y,zgo (fun _=>y)⟩,w,t⟩,y,k⟩ ?_ ?_
   ·rintro ⟨V,W⟩ r h;refine zi<|A ?_;refine zeh h y (fun J h=>?_) fun J h=>?_
    ·refine zg<|zi<|zs ?_;obtain ⟨F,X,h⟩:=bs h;refine A ?_;obtain ⟨O,Y,h⟩:=bs h;refine A ?_;obtain ⟨Z,P,h⟩:=bs h;refine A ?_;refine u<|apM 8 ti y ti y y (by decide) ti y y y y (roX (f:=z7) (z:=[(zT.mk F.From F.To F.At O)]) y y) (fun _=>y) y P<|A ?_;refine A ?_;obtain rfl:=sm h;exact ⟨_,y,zy [.old 0,.old 1,.old 2,.old 3,.old 4,.old 8]⟩
    ·refine zJ ?_;obtain rfl:=sm h;exact ⟨y,_,y,zy [.old 1,.old 2,.old 3,.old 4,.old 5]⟩
   ·rintro v43 rfl;refine zA<|A ?_
    exact RT0⟩
def zvT(c:T0)(d:T0)(e:T1)(a:List zj)(b:List zc):Option (T0×T0×T1×(List zj)×(List zc)):=
  some (c,d,e,a,b)
def ziJ(c:za)(b:List zc)(a:Int):Option (Sum ((List zc)×Int) (Sum ((List zc)) (T0×T0×T1×(List zj)×(List zc)))):=
  cond ((decide (a<(length c.Methods:Int)))&&(decide (a<10))) ((idx c.Methods a).bind fun d=>(zlJ d).bind fun e=>(zhj 152 b [e]).bind fun f=>some (.inl (f,(IntKind.i64.wrap (a+1))))) (some (.inr (.inl b)))
def zoD(c:za)(d:T0)(e:T0)(f:T1)(a:List zj):Option (T0×T0×T1×(List zj)×(List zc)):=
  (zr (fun z=>ziJ c z.1 z.2) ([],0)).bind fun o=>zQ o (fun b=>zvT d e f a b) some
def ziI(d:za)(c:List zj)(a:Int):Option (Sum ((List zj)×Int) (Sum ((List zj)) (T0×T0×T1×(List zj)×(List zc)))):=
  cond ((decide (a<(length d.Fields:Int)))&&(decide (a<10))) ((idx d.Fields a).bind fun b=>(zcC b.Name 10).bind fun e=>(zcC b.Type_ 12).bind fun f=>(zhj 40 c [(zj.mk e f b.Static)]).bind fun i=>some (.inl (i,(IntKind.i64.wrap (a+1))))) (some (.inr (.inl c)))
def zqG(a:za):Option (T0×T0×T1×(List zj)×(List zc)):=
  (zcC a.Name 10).bind fun c=>(zcC a.Super 10).bind fun d=>(zfk a.Impl 6).bind fun e=>(zr (fun z=>ziI a z.1 z.2) ([],0)).bind fun o=>zQ o (fun b=>zoD a c d e b) some
theorem zvU(a:za){r:T0×T0×T1×(List zj)×(List zc)}(h:zqG a=some r):SC Tryz.prog 16 [.agg (zb a)] [] (.agg [sA r.1,sA r.2.1,bA a.Interface,.isl 1 (map zm r.2.2.1),.msl 0 0 (length r.2.2.2.1),.msl 1 0 (length r.2.2.2.2)]) [.many 3 (map zD r.2.2.2.1),.many 10 (map zf r.2.2.2.2)]:=by
 refine ⟨⟨zdq (sz:=3) (fun _=>y),zdq (sz:=10) (fun _=>y),t⟩,zZ Tryz.func16 y kz y ?_⟩;refine A ?_;obtain ⟨d,N,e,O,i,P,h⟩:=bs3 h;refine rdA [(1,_),(2,_),(3,_)] [some (6,[(zb a)]),some (6,[[sA [],sA [],bA false,.lit (.slice none 0 0),.lit (.slice none 0 0),.lit (.slice none 0 0)]]),some (6,[[sA d,sA e,bA a.Interface,.isl 1 (map zm i),.lit (.slice none 0 0),.lit (.slice none 0 0)]])] [12,13] [0,1,2,3,4,5,6,7,8,9,10,11] [(18,_),(17,_),(16,_),(15,_),(14,_),(13,_),(12,_),(11,_),(10,_),(9,_),(8,_),(7,_)] 2 (ze7 (z:=by exact ⟨(fun _ _=>⟨_,y,y,al 2 ti y<|⟨(.mpt 2 0 0),[],[(3,_)],y,y,y,y,ze7 (z:=by exact ⟨nv,(fun _ _=>⟨_,y,y,sto ti y y y<|⟨.any,[],[],y,y,y,t,zgE (z:=zbZ [.old 0,.old 1,.old 2])⟩⟩),t⟩)⟩⟩),nw,t⟩)) ?_;refine zi<|A ?_;obtain ⟨o,ho,h⟩:=bs h;refine lpB ho (fun z=>[(1,.mpt 0 0 0),(2,.mpt 1 0 0),(3,.mpt 2 0 0),(4,iA z.2)]) (fun z=>[some (6,[(zb a)]),some (6,[[sA [],sA [],bA false,.lit (.slice none 0 0),.lit (.slice none 0 0),.lit (.slice none 0 0)]]),some (6,[[sA d,sA e,bA a.Interface,.isl 1 (map zm i),.msl 3 0 (length z.1),.lit (.slice none 0 0)]]),some (3,map zD z.1)]) (fun b=>[(1,.mpt 0 0 0),(2,.mpt 1 0 0),(3,.mpt 2 0 0)]) (fun b=>[some (6,[(zb a)]),some (6,[[sA [],sA [],bA false,.lit (.slice none 0 0),.lit (.slice none 0 0),.lit (.slice none 0 0)]]),some (6,[[sA d,sA e,bA a.Interface,.isl 1 (map zm i),.msl 3 0 (length b),.lit (.slice none 0 0)]]),some (3,map zD b)]) (pF Tryz.f16 (fun r=>.agg [sA r.1,sA r.2.1,bA a.Interface,.isl 1 (map zm r.2.2.1),.msl 0 0 (length r.2.2.2.1),.msl 1 0 (length r.2.2.2.2)]) fun r=>[some (3,map zD r.2.2.2.1),some (10,map zf r.2.2.2.2)]) ⟨[.old 0,.old 1,.old 2,.fresh 3],cv y (.mpt y)<|cv y (.mpt y)<|cv y (.mpt y)<|ce y y<|cn,y,⟨⟨_,y,zfU (ciL y)⟩,⟨_,y,zfU (ciL y)⟩,⟨_,y,zfU ⟨ci y,ci y,ci y,ci y,.nilown y,ci y,t⟩⟩,w,t⟩,y,k⟩ ?_ ?_
 ·rintro ⟨C,D⟩ r h;refine zi<|A ?_;refine zeh h y (fun m h=>?_) fun m h=>?_
  ·refine zg<|zi<|zs ?_;obtain ⟨p,E,h⟩:=bs h;refine A ?_;obtain ⟨q,F,s,G,j,v,h⟩:=bs3 h;refine zpG [(1,_),(2,_),(3,_),(4,_)] [some (6,[(zb a)]),some (6,[[sA [],sA [],bA false,.lit (.slice none 0 0),.lit (.slice none 0 0),.lit (.slice none 0 0)]]),some (6,[[sA d,sA e,bA a.Interface,.isl 1 (map zm i),.msl 3 0 (length j),.lit (.slice none 0 0)]]),some (3,map zD j)] [11,12,14] [0,1,2,3,4,5,6,7,8,9,10] [(45,_),(44,_),(43,_),(42,_),(41,_),(40,_),(39,_),(38,_),(37,_),(36,_),(35,_)] 3 (ze7 (z:=by exact ⟨(fun _ _=>⟨_,y,y,bl 5 ti y ti y (by decide) (by decide) y y y<|⟨(.msl 5 0 1),[],[(46,_)],y,y,y,y,ze7 (z:=by exact ⟨nv,(fun _ _=>⟨_,y,y,apM 6 ti y ti y y (by decide) ti y y y y (roX (f:=zD) (z:=[(zj.mk q s p.Static)]) y y) (fun _=>y) y v<|⟨(.msl 6 0 (length j)),[13],[(48,_),(47,_)],y,y,y,y,ze7 (z:=by exact ⟨nv,nv,(fun _ _=>⟨_,y,y,sto ti y y y<|⟨.any,[],[],y,y,y,t,zgE (z:=zbZ [.old 0,.old 1,.old 2,.old 6])⟩⟩),t⟩)⟩⟩),nw,t⟩)⟩⟩),nw,nw,t⟩)) ?_;refine A ?_;obtain rfl:=sm h;exact ⟨_,y,zy [.old 0,.old 1,.old 2,.old 3]⟩
  ·refine zJ ?_;obtain rfl:=sm h;exact ⟨y,_,y,zy [.old 0,.old 1,.old 2,.old 3]⟩
 ·rintro c rfl;refine zA<|zi<|A ?_;obtain ⟨o,ho,h⟩:=bs h;refine lpB ho (fun z=>[(1,.mpt 0 0 0),(2,.mpt 1 0 0),(3,.mpt 2 0 0),(6,iA z.2)]) (fun z=>[some (6,[(zb a)]),some (6,[[sA [],sA [],bA false,.lit (.slice none 0 0),.lit (.slice none 0 0),.lit (.slice none 0 0)]]),some (6,[[sA d,sA e,bA a.Interface,.isl 1 (map zm i),.msl 3 0 (length c),.msl 4 0 (length z.1)]]),some (3,map zD c),some (10,map zf z.1)]) (fun b=>[(2,.mpt 0 0 0),(3,.mpt 1 0 0)]) (fun b=>[some (6,[[sA [],sA [],bA false,.lit (.slice none 0 0),.lit (.slice none 0 0),.lit (.slice none 0 0)]]),some (6,[[sA d,sA e,bA a.Interface,.isl 1 (map zm i),.msl 2 0 (length c),.msl 3 0 (length b)]]),some (3,map zD c),some (10,map zf b)]) (pF Tryz.f16 (fun r=>.agg [sA r.1,sA r.2.1,bA a.Interface,.isl 1 (map zm r.2.2.1),.msl 0 0 (length r.2.2.2.1),.msl 1 0 (length r.2.2.2.2)]) fun r=>[some (3,map zD r.2.2.2.1),some (10,map zf r.2.2.2.2)]) ⟨[.old 0,.old 1,.old 2,.old 3,.fresh 10],cv y (.mpt y)<|cv y (.mpt y)<|cv y (.mpt y)<|ce y y<|cn,y,⟨⟨_,y,zfU (ciL y)⟩,⟨_,y,zfU (ciL y)⟩,⟨_,y,zfU ⟨ci y,ci y,ci y,ci y,.msl y,.nilown y,t⟩⟩,⟨_,y,zgo (fun _=>y)⟩,w,t⟩,y,k⟩ ?_ ?_
  ·rintro ⟨H,I⟩ r h;refine zi<|A ?_;refine zeh h y (fun n h=>?_) fun n h=>?_
   ·refine zg<|zi<|zs ?_;obtain ⟨J,K,x,L,l,B,h⟩:=bs3 h;refine zpG [(1,_),(2,_),(3,_),(6,_)] [some (6,[(zb a)]),some (6,[[sA [],sA [],bA false,.lit (.slice none 0 0),.lit (.slice none 0 0),.lit (.slice none 0 0)]]),some (6,[[sA d,sA e,bA a.Interface,.isl 1 (map zm i),.msl 3 0 (length c),.msl 4 0 (length l)]]),some (3,map zD c),some (10,map zf l)] [8,9,11] [0,1,2,3,4,5,6,7] [(67,_),(66,_),(65,_),(64,_),(63,_),(62,_),(61,_),(60,_)] 3 (ze7 (z:=by exact ⟨(fun _ _=>⟨_,y,y,bl 5 ti y ti y (by decide) (by decide) y y y<|⟨(.msl 5 0 1),[],[(68,_)],y,y,y,y,ze7 (z:=by exact ⟨nv,(fun _ _=>⟨_,y,y,apM 6 ti y ti y y (by decide) ti y y y y (roX (f:=zf) (z:=[x]) y y) (fun _=>y) y B<|⟨(.msl 6 0 (length l)),[10],[(70,_),(69,_)],y,y,y,y,ze7 (z:=by exact ⟨nv,nv,(fun _ _=>⟨_,y,y,sto ti y y y<|⟨.any,[],[],y,y,y,t,zgE (z:=zbZ [.old 0,.old 1,.old 2,.old 3,.old 6])⟩⟩),t⟩)⟩⟩),nw,t⟩)⟩⟩),nw,nw,t⟩)) ?_;refine A ?_;obtain rfl:=sm h;exact ⟨_,y,zy [.old 0,.old 1,.old 2,.old 3,.old 4]⟩
   ·refine zJ ?_;obtain rfl:=sm h;exact ⟨y,_,y,zy [.old 1,.old 2,.old 3,.old 4]⟩
  ·rintro M rfl;refine zA<|A ?_;refine zL ?_;obtain rfl:=sm h;exact ⟨_,y,zx1 [.old 2,.old 3]⟩
def zvQ(a:List za):Option ((List za)):=
  some a
def ziH(c:List za)(d:List za)(b:Int):Option (Sum ((List za)×Int) (Sum ((List za)) ((List za)))):=
  cond ((decide (b<(length c:Int)))&&(decide (b<18))) ((idx c b).bind fun e=>(zqG e).bind fun a=>(zhj 112 d [(za.mk a.1 a.2.1 e.Interface a.2.2.1 a.2.2.2.1 a.2.2.2.2)]).bind fun f=>some (.inl (f,(IntKind.i64.wrap (b+1))))) (some (.inr (.inl d)))
def zqF(a:List za):Option ((List za)):=
  (zr (fun z=>ziH a z.1 z.2) ([],0)).bind fun o=>zQ o (fun b=>zvQ b) some
theorem zvR(c:List za){r:(List za)}(h:zqF c=some r):SC Tryz.prog 26 [.isl 6 (map zb c)] [] (.msl 0 0 (length r)) [.many 6 (map zb r)]:=by
 refine ⟨⟨zdq (sz:=6) (fun _=>y),t⟩,zZ Tryz.func26 y kz y ?_⟩;refine A ?_;refine A ?_;refine zi<|A ?_;obtain ⟨o,ho,h⟩:=bs h;refine lpB ho (fun z=>[(0,.isl 6 (map zb c)),(3,.msl 0 0 (length z.1)),(4,iA z.2)]) (fun z=>[some (6,map zb z.1)]) (fun b=>[(3,.msl 0 0 (length b))]) (fun b=>[some (6,map zb b)]) (pF Tryz.f26 (fun r=>.msl 0 0 (length r)) fun r=>[some (6,map zb r)]) ⟨[.fresh 6],ce y y<|cv y (.nilown y)<|ce y y<|cn,y,⟨w,t⟩,y,k⟩ ?_ ?_
 ·rintro ⟨d,f⟩ r h;refine zi<|A ?_;refine zeh h y (fun i h=>?_) fun i h=>?_
  ·refine zg<|zi<|zs ?_;obtain ⟨e,p,a,l,m,j,h⟩:=bs3 h;refine A ?_;refine u<|sx [] (zvU e l)<|zO (env0:=[(0,.isl 6 (map zb c)),(4,iA f),(15,.msl 0 0 (length d)),(20,.agg [sA a.1,sA a.2.1,bA e.Interface,.isl 1 (map zm a.2.2.1),.msl 1 0 (length a.2.2.2.1),.msl 2 0 (length a.2.2.2.2)])]) (st0:=[some (6,map zb d),some (3,map zD a.2.2.2.1),some (10,map zf a.2.2.2.2)]) (zy [.old 0,.old 1,.old 2])<|A ?_;refine zO (env0:=[(0,.isl 6 (map zb c)),(4,iA f),(15,.msl 0 0 (length d)),(21,.msl 1 0 (length [(za.mk a.1 a.2.1 e.Interface a.2.2.1 a.2.2.2.1 a.2.2.2.2)]))]) (st0:=[some (6,map zb d),some (6,map zb [(za.mk a.1 a.2.1 e.Interface a.2.2.1 a.2.2.2.1 a.2.2.2.2)])]) (zy [.old 0,.old 3])<|u<|apM 2 ti y ti y y (by decide) ti y y y y (roM y) (fun _=>y) y j<|A ?_;refine A ?_;obtain rfl:=sm h;exact ⟨_,y,zy [.old 2]⟩
  ·refine zJ ?_;obtain rfl:=sm h;exact ⟨y,_,y,zy [.old 0]⟩
 ·rintro n rfl;refine zA<|A ?_;exact RT1
def zby:T1:=
  ([[79,98,106,101,99,116],[84,104,114,111,119,110],[78,117,108,108,69,114,114],[82,97,110,103,101,69,114,114],[77,97,116,104,69,114,114],[67,97,115,116,69,114,114],[83,105,122,101,69,114,114],[83,116,111,114,101,69,114,114],[73,110,105,116,69,114,114],[67,108,97,115,115,69,114,114]])
theorem zpg{r:T1}(h:zby=r):SC Tryz.prog 105 [] [] (.msl 0 0 (length r)) [.many 1 (map zm r)]:=by
 refine ⟨⟨zdq (sz:=1) (fun _=>y),t⟩,zZ Tryz.func105 y kz y ?_⟩;unfold zby at h;refine A ?_;refine A ?_;refine zL ?_;obtain rfl:=h;exact ⟨_,y,zbc [.old 0]⟩
def zth(a:List za):Option ((List za)):=
  some a
def zlD(c:List za)(d:Int)(e:T0)(a:T0):Option (Sum ((List za)×Int) (Sum ((List za)) ((List za)))):=
  (zhj 112 c ([(za.mk e a false [] [] [])])).bind fun b=>some (.inl (b,(IntKind.i64.wrap (d+1))))
def zti(b:List za)(a:Int):Option (Sum ((List za)×Int) (Sum ((List za)) ((List za)))):=
  cond (decide (a<((length (zby)):Int))) ((idx (zby) a).bind fun c=>cond (decide (a<2)) ((idx ([[],[79,98,106,101,99,116]]) a).bind fun d=>zlD b a c d) (zlD b a c [84,104,114,111,119,110])) (some (.inr (.inl b)))
def zpS:Option ((List za)):=
  (zr (fun z=>zti z.1 z.2) ([],0)).bind fun o=>zQ o (fun b=>zth b) some
theorem ztj{r:(List za)}(h:zpS=some r):SC Tryz.prog 98 [] [] (.msl 0 0 (length r)) [.many 6 (map zb r)]:=by
 refine ⟨⟨zdq (sz:=6) (fun _=>y),t⟩,zZ Tryz.func98 y kz y ?_⟩;refine A ?_;refine A ?_;refine zi ?_;refine rg y<|u<|sx [] (zpg y)<|zO (env0:=[(1,.lit (.slice none 0 0)),(5,.msl 0 0 (length (zby)))]) (st0:=[some (1,map zm (zby))]) (zy [.old 0])<|A ?_;obtain ⟨o,ho,h⟩:=bs h;refine lpB ho (fun z=>[(1,.msl 0 0 (length z.1)),(5,.msl 1 0 (length (zby))),(6,iA ((length (zby)):Int)),(7,iA z.2)]) (fun z=>[some (6,map zb z.1),some (1,map zm (zby))]) (fun b=>[(1,.msl 0 0 (length b))]) (fun b=>[some (6,map zb b)]) (pF Tryz.f98 (fun r=>.msl 0 0 (length r)) fun r=>[some (6,map zb r)]) ⟨[.fresh 6,.old 0],cv y (.nilown y)<|cv y (.msl y)<|ce y y<|ce y y<|cn,y,⟨w,⟨_,y,zgo (fun _=>y)⟩,t⟩,y,k⟩ ?_ ?_
 ·rintro ⟨a,c⟩ r h;refine A ?_;refine zi ?_;refine zeh h y (fun f h=>?_) fun f h=>?_
  ·refine zg<|zi<|zs ?_;obtain ⟨d,q,h⟩:=bs h;refine A ?_;refine A ?_;refine zbG (X:=T0) (fun z=>[(1,.msl 0 0 (length a)),(4,.mpt 1 0 0),(5,.msl 2 0 (length (zby))),(6,iA ((length (zby)):Int)),(7,iA c)]) (fun z=>[some (6,map zb a),some (6,[[sA d,sA z,bA false,.lit (.slice none 0 0),.lit (.slice none 0 0),.lit (.slice none 0 0)]]),some (1,map zm (zby))]) (fun z=>zlD a c d z=some r) ?_ ?_
   ·refine A ?_;refine zeh h y (fun i h=>?_) fun i h=>?_
    ·obtain ⟨l,j,h⟩:=bs h;exact rl y<|u<|bl 3 ti y ti y (by decide) (by decide) y y y<|u<|mv y<|zO (env0:=[(1,.msl 0 0 (length a)),(4,.mpt 1 0 0),(5,.msl 2 0 (length (zby))),(6,iA ((length (zby)):Int)),(7,iA c),(16,.msl 3 0 (length ([[],[79,98,106,101,99,116]]))),(17,iA c)]) (st0:=[some (6,map zb a),some (6,[[sA d,sA [84,104,114,111,119,110],bA false,.lit (.slice none 0 0),.lit (.slice none 0 0),.lit (.slice none 0 0)]]),some (1,map zm (zby)),some (1,map zm ([[],[79,98,106,101,99,116]]))]) (zy [.old 0,.old 2,.old 1,.old 3])<|u<|ixM ti y ti y y y y j<|u<|ldM ti y y (zt j).2.2 y<|u<|fa ti y y y<|u<|sto ti y y y<|zz (⟨l,h,zy [.old 0,.old 1,.old 2]⟩)
    ·refine zg ?_;exact ⟨[84,104,114,111,119,110],h,zy [.old 0,.old 2,.old 1]⟩
   ·rintro e h;obtain ⟨n,m,h⟩:=bs h;refine A ?_;refine zO (env0:=[(5,.msl 0 0 (length (zby))),(6,iA ((length (zby)):Int)),(7,iA c),(21,.msl 1 0 (length a)),(23,.msl 2 0 (length ([(za.mk d e false [] [] [])])))]) (st0:=[some (1,map zm (zby)),some (6,map zb a),some (6,map zb ([(za.mk d e false [] [] [])]))]) (zy [.old 2,.old 0,.old 3])<|u<|apM 3 ti y ti y y (by decide) ti y y y y (roM y) (fun _=>y) y m<|A ?_;refine A ?_;obtain rfl:=sm h;exact ⟨_,y,zy [.old 3,.old 0]⟩
  ·refine zJ ?_;obtain rfl:=sm h;exact ⟨y,_,y,zy [.old 0]⟩
 ·rintro p rfl;refine zA<|A ?_;exact RT1
def zjO(a:za):Option (T1):=
  (zhj 16 [a.Super] a.Impl).bind fun b=>some b
theorem zlC(a:za){r:T1}(h:zjO a=some r):SC Tryz.prog 100 [.agg (zb a)] [] (.msl 0 0 (length r)) [.many 1 (map zm r)]:=by
 refine ⟨⟨zdq (sz:=1) (fun _=>y),t⟩,zZ Tryz.func100 y kz y ?_⟩;refine A ?_;obtain ⟨c,b,h⟩:=bs h;refine A ?_;refine u<|apM (l:=[a.Super]) (f:=zm) 2 ti y ti y y (by decide) ti y y y y roI (fun _=>y) y b<|A ?_;refine zL ?_;obtain rfl:=sm h;exact ⟨_,y,zx1 [.old 2]⟩
def zbz(c:List za)(a:T2)(b:T0):Bool:=
  (Option.isSome (zcl b a))
theorem zl6(b:List za)(a:T2)(c:T0){r:Bool}(h:zbz b a c=r):zan Tryz.prog 102 [.ipt 2 [[.isl 6 (map zb b),.imp (map (rKV (fun x=>iA x)) a)]] 0 0,sA c] (bA r):=by
 refine zo Tryz.func102 y kz y y ?_;unfold zbz at h;refine A ?_;refine zi<|A ?_;refine zd7 y (fun hx=>by cases hx) (fun _=>?_);refine zg<|A ?_;refine u<|zFC (g:=(fun x=>iA x)) (z:=0) (l:=a) y ti y y y y<|A ?_;refine A ?_;refine zL ?_;obtain rfl:=h;exact ⟨_,y,zbc []⟩
instance (a:List za)(b:T2)(c:T0):PF Tryz.prog 102 [.ipt 2 [[.isl 6 (map zb a),.imp (map (rKV (fun x=>iA x)) b)]] 0 0,sA c] (some (zbz a b c)) bA:=.of fun _=>zl6 a b c
def znk(a:T0)(b:List za)(c:T2):Bool:=
  (!(zbz b c a))
instance (a:T0)(b:List za)(c:T2):PF Tryz.prog 101 [sA a,.ipt 1 [[.ipt 2 [[.isl 6 (map zb b),.imp (map (rKV (fun x=>iA x)) c)]] 0 0]] 0 0] (some (znk a b c)) bA:=.of fun r h=>by
 refine zo Tryz.func101 y kz y y ?_;unfold znk at h;refine A ?_;refine A ?_;refine zL ?_;obtain rfl:=h;exact ⟨_,y,zbc []⟩
def zeO:Option (Int):=
  some (-1)
def zbq(b:T1)(c:List za)(d:T2)(a:Int):Option (Sum (Int) (Sum (Unit) (Int))):=
  cond (decide (a<(length b:Int))) ((idx b a).bind fun e=>cond (znk e c d) (some (.inr (.inr a))) (some (.inl (IntKind.i64.wrap (a+1))))) (some (.inr (.inl ())))
def zc9(a:T1)(c:List za)(d:T2):Option (Int):=
  (zr (fun z=>zbq a c d z) 0).bind fun o=>zQ o (fun b=>zeO) some
instance (a:T1)(c:List za)(d:T2):PF Tryz.prog 181 [.isl 1 (map zm a),.fn (.func 101) [] [.ipt 1 [[.ipt 2 [[.isl 6 (map zb c),.imp (map (rKV (fun x=>iA x)) d)]] 0 0]] 0 0]] (zc9 a c d) iA:=⟨fun r h=>by
 refine zo Tryz.func181 y kz y y<|A ?_;refine zi<|A ?_;obtain ⟨o,ho,h⟩:=bs h;refine lpB ho (fun z=>[(0,.isl 1 (map zm a)),(1,.fn (.func 101) [] [.ipt 1 [[.ipt 2 [[.isl 6 (map zb c),.imp (map (rKV (fun x=>iA x)) d)]] 0 0]] 0 0]),(7,iA (length a:Int)),(8,iA z)]) (fun z=>[]) (fun b=>[]) (fun b=>[]) (pG Tryz.f181 iA) (zbZ []) ?_ ?_
 ·rintro i r h;refine A ?_;refine zi ?_;refine zeh h y (fun e h=>?_) fun e h=>?_
  ·refine zg<|zi<|zs<|A ?_;obtain ⟨j,l,h⟩:=bs h;refine A ?_;refine zeh h y (fun f h=>?_) fun f h=>?_
   ·refine A ?_;refine zL ?_;obtain rfl:=sm h;exact ⟨_,y,_,y,zbc []⟩
   ·refine zg<|A ?_;obtain rfl:=sm h;exact ⟨_,y,zy []⟩
  ·refine zJ ?_;obtain rfl:=sm h;exact ⟨y,_,y,zy []⟩
 ·rintro ⟨⟩ rfl;refine zA<|A ?_
  exact RT0⟩
def zaH(a:T1)(b:List za)(c:T2):Option (Bool):=
  (zc9 a b c).bind fun d=>some (decide (0≤d))
theorem zd1(a:T1)(b:List za)(c:T2){r:Bool}(h:zaH a b c=some r):zan Tryz.prog 99 [.isl 1 (map zm a),.fn (.func 101) [] [.ipt 1 [[.ipt 2 [[.isl 6 (map zb b),.imp (map (rKV (fun x=>iA x)) c)]] 0 0]] 0 0]] (bA r):=by
 refine zo Tryz.func99 y kz y y<|A ?_;obtain ⟨d,e,h⟩:=bs h;refine A ?_;exact RT0
instance (a:T1)(b:List za)(c:T2):PF Tryz.prog 99 [.isl 1 (map zm a),.fn (.func 101) [] [.ipt 1 [[.ipt 2 [[.isl 6 (map zb b),.imp (map (rKV (fun x=>iA x)) c)]] 0 0]] 0 0]] (zaH a b c) bA:=⟨fun _=>zd1 a b c⟩
def zdP(a:List za)(b:T2)(c:T0):Option (za):=
  (idx a (Option.getD (zcl c b) 0)).bind fun d=>some d
instance (b:List za)(a:T2)(c:T0):PF Tryz.prog 182 [.ipt 2 [[.isl 6 (map zb b),.imp (map (rKV (fun x=>iA x)) a)]] 0 0,sA c] (zdP b a c) (fun r=>(.agg (zb r))):=⟨fun r h=>by
 refine zo Tryz.func182 y kz y y<|A ?_;obtain ⟨d,e,h⟩:=bs h;refine rdA [(4,_)] [some (6,[(zb d)])] [12] [0,1,2,3,4,5,6,7,8,9,10,11] [(16,_),(15,_),(14,_),(13,_),(12,_),(11,_),(10,_),(9,_),(8,_),(7,_),(6,_),(5,_)] 1 (ze7 ⟨peC,peC,peC,peC,peC,peC,peC,peC,peC,(by exact pb y (zF7 (g:=(fun x=>iA x)) (z:=0) (l:=a) y ti y y y y<|w)),peC,peC,t⟩ (by exact ⟨(fun _ _=>⟨_,y,y,sto ti y y y<|⟨.any,[],[],y,y,y,t,zgE (z:=zbZ [.old 0])⟩⟩),t⟩)) ?_
 exact RT0⟩
def zjo(a:T0)(b:List za)(c:T2):Option (Bool):=
  (zdP b c a).bind fun d=>some (!d.Interface)
instance (a:T0)(b:List za)(c:T2):PF Tryz.prog 183 [sA a,.ipt 1 [[.ipt 2 [[.isl 6 (map zb b),.imp (map (rKV (fun x=>iA x)) c)]] 0 0]] 0 0] (zjo a b c) bA:=⟨fun r h=>by
 refine zo Tryz.func183 y kz y y<|A ?_;obtain ⟨d,e,h⟩:=bs h;refine A ?_
 exact RT0⟩
def zeP:Option (Int):=
  some (-1)
def zbr(b:T1)(c:List za)(d:T2)(a:Int):Option (Sum (Int) (Sum (Unit) (Int))):=
  cond (decide (a<(length b:Int))) ((idx b a).bind fun e=>(zjo e c d).bind fun f=>cond f (some (.inr (.inr a))) (some (.inl (IntKind.i64.wrap (a+1))))) (some (.inr (.inl ())))
def zda(a:T1)(c:List za)(d:T2):Option (Int):=
  (zr (fun z=>zbr a c d z) 0).bind fun o=>zQ o (fun b=>zeP) some
instance (a:T1)(c:List za)(d:T2):PF Tryz.prog 181 [.isl 1 (map zm a),.fn (.func 183) [] [.ipt 1 [[.ipt 2 [[.isl 6 (map zb c),.imp (map (rKV (fun x=>iA x)) d)]] 0 0]] 0 0]] (zda a c d) iA:=⟨fun r h=>by
 refine zo Tryz.func181 y kz y y<|A ?_;refine zi<|A ?_;obtain ⟨o,ho,h⟩:=bs h;refine lpB ho (fun z=>[(0,.isl 1 (map zm a)),(1,.fn (.func 183) [] [.ipt 1 [[.ipt 2 [[.isl 6 (map zb c),.imp (map (rKV (fun x=>iA x)) d)]] 0 0]] 0 0]),(7,iA (length a:Int)),(8,iA z)]) (fun z=>[]) (fun b=>[]) (fun b=>[]) (pG Tryz.f181 iA) (zbZ []) ?_ ?_
 ·rintro i r h;refine A ?_;refine zi ?_;refine zeh h y (fun e h=>?_) fun e h=>?_
  ·refine zg<|zi<|zs<|A ?_;obtain ⟨j,l,m,n,h⟩:=bs2 h;refine A ?_;refine zeh h y (fun f h=>?_) fun f h=>?_
   ·refine A ?_;refine zL ?_;obtain rfl:=sm h;exact ⟨_,y,_,y,zbc []⟩
   ·refine zg<|A ?_;obtain rfl:=sm h;exact ⟨_,y,zy []⟩
  ·refine zJ ?_;obtain rfl:=sm h;exact ⟨y,_,y,zy []⟩
 ·rintro ⟨⟩ rfl;refine zA<|A ?_
  exact RT0⟩
def zaI(a:T1)(b:List za)(c:T2):Option (Bool):=
  (zda a b c).bind fun d=>some (decide (0≤d))
theorem zd2(a:T1)(b:List za)(c:T2){r:Bool}(h:zaI a b c=some r):zan Tryz.prog 99 [.isl 1 (map zm a),.fn (.func 183) [] [.ipt 1 [[.ipt 2 [[.isl 6 (map zb b),.imp (map (rKV (fun x=>iA x)) c)]] 0 0]] 0 0]] (bA r):=by
 refine zo Tryz.func99 y kz y y<|A ?_;obtain ⟨d,e,h⟩:=bs h;refine A ?_;exact RT0
instance (a:T1)(b:List za)(c:T2):PF Tryz.prog 99 [.isl 1 (map zm a),.fn (.func 183) [] [.ipt 1 [[.ipt 2 [[.isl 6 (map zb b),.imp (map (rKV (fun x=>iA x)) c)]] 0 0]] 0 0]] (zaI a b c) bA:=⟨fun _=>zd2 a b c⟩
def zph:Option (Bool):=
  some true
def zk3(a:Int)(b:T1):Option (Sum (T1×Int) (Sum (Unit) (Bool))):=
  some (.inl (b,(IntKind.i64.wrap (a+1))))
def zhm(a:Int)(b:T1):Option (Sum (T1×Int) (Sum (T1) (Bool))):=
  some (.inl (b,(IntKind.i64.wrap (a+1))))
def zeV(d:T1)(a:T1)(b:Int):Option (Sum (T1×Int) (Sum (T1) (Bool))):=
  cond (decide (b<((length d):Int))) ((idx d b).bind fun c=>(cond (!(c == [])) ((zK a c).bind fun e=>some (!e)) (some false)).bind fun f=>cond f ((zhj 16 a [c]).bind fun i=>zhm b i) (zhm b a)) (some (.inr (.inl a)))
def zdA(j:List za)(l:T2)(m:za)(a:T1)(c:Int):Option (Sum (T1×Int) (Sum (Unit) (Bool))):=
  cond (decide (c<((length a):Int))) ((idx a c).bind fun d=>cond (d == m.Name) (some (.inr (.inr false))) ((idx a c).bind fun e=>(zdP j l e).bind fun f=>(zjO f).bind fun i=>(zr (fun z=>zeV i z.1 z.2) (a,0)).bind fun o=>zQ o (fun b=>zk3 c b) (fun r=>some (.inr (.inr r))))) (some (.inr (.inl ())))
def zgL(c:List za)(d:T2)(a:za):Option (Bool):=
  (zdP c d a.Super).bind fun e=>(cond e.Interface (some true) ((zaI a.Impl c d).bind fun f=>some f)).bind fun i=>cond i (some false) ((zjO a).bind fun j=>(zr (fun z=>zdA c d a z.1 z.2) (j,0)).bind fun o=>zQ o (fun b=>zph) some)
theorem zk4(e:List za)(i:T2)(c:za){r:Bool}(h:zgL e i c=some r):zan Tryz.prog 103 [.ipt 2 [[.isl 6 (map zb e),.imp (map (rKV (fun x=>iA x)) i)]] 0 0,.agg (zb c)] (bA r):=by
 refine zo Tryz.func103 y kz y y<|A ?_;refine zi ?_;obtain ⟨v4,q1,O,n,h⟩:=bs2 h;refine A ?_;refine ztF (x:=O) (j:=5) 4 y y y y y gpn (fun m=>by replace n:=bF m n;obtain ⟨v5,P,n⟩:=bs n;obtain rfl:=sm n;exact g y m<|fa ti y y y<|g y m<|ld ti y y<|g y m<|mf y y<|g y m<|pcs (zd2 c.Impl e i P) y y (.cons (si y) (.cons (zfW t ⟨(zay y ⟨(si y),t⟩),t⟩) .nil)) za9<|zz (eg [15,16,17,18] 4 y y y y)) (fun hb=>(sm (bT hb n)).symm)<|zz ?_;refine zeh h y (fun G h=>?_) fun G h=>?_
 ·refine A ?_;exact RT0
 ·refine zg ?_;obtain ⟨H,Q,h⟩:=bs h;refine A ?_;refine u<|sx [] (zlC c Q)<|zO (env0:=[(2,.mpt 0 0 0),(3,.mpt 1 0 0),(21,.msl 2 0 (length H))]) (st0:=[some (1,[[.ipt 2 [[.isl 6 (map zb e),.imp (map (rKV (fun x=>iA x)) i)]] 0 0]]),some (6,[(zb c)]),some (1,map zm H)]) (zy [.old 0,.old 1,.old 2])<|A ?_;refine zi<|A ?_;obtain ⟨o,ho,h⟩:=bs h;refine lpB ho (fun z=>[(2,.mpt 0 0 0),(3,.mpt 1 0 0),(5,.msl 2 0 (length z.1)),(6,iA z.2)]) (fun z=>[some (1,[[.ipt 2 [[.isl 6 (map zb e),.imp (map (rKV (fun x=>iA x)) i)]] 0 0]]),some (6,[(zb c)]),some (1,map zm z.1)]) (fun b=>[]) (fun b=>[]) (pG Tryz.f103 bA) (zbZ [.old 0,.old 1,.old 2]) ?_ ?_
  ·rintro ⟨q,p⟩ r h;refine zi<|A ?_;refine zeh h y (fun C h=>?_) fun C h=>?_
   ·refine zg<|zi<|zs<|zi ?_;obtain ⟨R,S,h⟩:=bs h;refine rdA [(2,_),(3,_),(5,_),(6,_),(34,_)] [some (1,[[.ipt 2 [[.isl 6 (map zb e),.imp (map (rKV (fun x=>iA x)) i)]] 0 0]]),some (6,[(zb c)]),some (1,map zm q)] [] [0,1,2,3,4,5,6] [(34,_),(33,_),(32,_),(31,_),(30,_),(29,_),(28,_)] 0 (zgE (z:=zbZ [.old 0,.old 1,.old 2])) ?_;refine zeh h y (fun D h=>?_) fun D h=>?_
    ·refine A ?_;refine zL ?_;obtain rfl:=sm h;exact ⟨_,y,_,y,zbc []⟩
    ·refine zg ?_;obtain ⟨T,U,I,V,a,J,h⟩:=bs3 h;refine rdA [(2,_),(3,_),(5,_),(6,_),(41,_),(42,_),(43,_)] [some (1,[[.ipt 2 [[.isl 6 (map zb e),.imp (map (rKV (fun x=>iA x)) i)]] 0 0]]),some (6,[(zb c)]),some (1,map zm q),some (1,map zm a)] [6] [0,1,2,3,4,5,8] [(43,_),(40,_),(39,_),(38,_),(37,_),(36,_),(35,_)] 1 (ze7 (z:=by exact ⟨(fun _ _=>⟨_,y,y,sx [] (zlC I J)<|⟨(.msl 3 0 (length a)),[7],[(42,_),(41,_)],y,y,y,y,zgE (z:=zbZ [.old 0,.old 1,.old 2,.old 3])⟩⟩),t⟩)) ?_;obtain ⟨o,ho,h⟩:=bs h;refine lpS ho (fun z=>[(2,.mpt 0 0 0),(3,.mpt 1 0 0),(5,.msl 2 0 (length z.1)),(6,iA p),(41,.msl 3 0 (length a)),(42,iA ((length a):Int)),(43,iA z.2)]) (fun z=>[some (1,[[.ipt 2 [[.isl 6 (map zb e),.imp (map (rKV (fun x=>iA x)) i)]] 0 0]]),some (6,[(zb c)]),some (1,map zm z.1),some (1,map zm a)]) (fun b=>[(2,.mpt 0 0 0),(3,.mpt 1 0 0),(5,.msl 2 0 (length b)),(6,iA p)]) (fun b=>[some (1,[[.ipt 2 [[.isl 6 (map zb e),.imp (map (rKV (fun x=>iA x)) i)]] 0 0]]),some (6,[(zb c)]),some (1,map zm b)]) (pG Tryz.f103 bA) (zbZ [.old 0,.old 1,.old 2,.old 3]) ?_ ?_ ?_
     ·rintro ⟨s,v⟩ r h;refine A ?_;refine zi ?_;refine zeh h y (fun E h=>?_) fun E h=>?_
      ·refine zg ?_;refine zbG (X:=T1) (fun z=>[(2,.mpt 0 0 0),(3,.mpt 1 0 0),(5,.msl 2 0 (length z)),(6,iA p),(41,.msl 3 0 (length a)),(42,iA ((length a):Int)),(43,iA v)]) (fun z=>[some (1,[[.ipt 2 [[.isl 6 (map zb e),.imp (map (rKV (fun x=>iA x)) i)]] 0 0]]),some (6,[(zb c)]),some (1,map zm z),some (1,map zm a)]) (fun z=>zhm v z=some r) ?_ ?_
       ·refine zs ?_;obtain ⟨B,W,h⟩:=bs h;refine A ?_;obtain ⟨K,l,h⟩:=bs h;refine A ?_;refine zgn (x:=K) (j:=2) 4 y y y y y gpn (fun d=>by replace l:=bT d l;obtain ⟨Y,L,l⟩:=bs l;obtain rfl:=sm l;exact g y d<|mv y<|g y d<|mv y<|g y d<|pcs (zac s B L) y y (.cons (ziS y (fun _=>y)) (.cons (si y) .nil)) za9<|g y d<|nt y<|zz (eg [50,51,52,53] 4 y y y y)) (fun hb=>(sm (bF hb l)).symm)<|zz ?_;refine zeh h y (fun F h=>?_) fun F h=>?_
        ·obtain ⟨M,N,h⟩:=bs h;refine A ?_;refine u<|apM 5 ti y ti y y (by decide) ti y y y y (roX (f:=zm) (z:=[B]) y y) (fun _=>y) y N<|A ?_;exact (⟨M,h,zy [.old 0,.old 1,.old 5,.old 3]⟩)
        ·refine zg ?_;exact ⟨s,h,zy [.old 0,.old 1,.old 2,.old 3]⟩
       ·rintro Z h;refine A ?_;obtain rfl:=sm h;exact ⟨_,y,zy [.old 0,.old 1,.old 2,.old 3]⟩
      ·refine zJ ?_;obtain rfl:=sm h;exact ⟨y,_,y,zy [.old 0,.old 1,.old 2]⟩
     ·rintro v49 rfl;refine zA<|A ?_;obtain rfl:=sm h;exact ⟨_,y,zy [.old 0,.old 1,.old 2]⟩
     ·rintro r' rfl env st hp;obtain rfl:=sm h;exact ⟨_,y,hp⟩
   ·refine zJ ?_;obtain rfl:=sm h;exact ⟨y,_,y,zy []⟩
  ·rintro ⟨⟩ rfl;refine zA<|A ?_;exact RT0
instance (a:List za)(b:T2)(c:za):PF Tryz.prog 103 [.ipt 2 [[.isl 6 (map zb a),.imp (map (rKV (fun x=>iA x)) b)]] 0 0,.agg (zb c)] (zgL a b c) bA:=⟨fun _=>zk4 a b c⟩
def zvK(a:List za)(b:T2):Option ((Option zq)×Int):=
  some ((some (zq.mk a b)),0)
def ziE(b:List za)(c:List za)(d:T2)(a:Int):Option (Sum (Int) (Sum (Unit) ((Option zq)×Int))):=
  cond (decide (a<(length b:Int))) ((idx b a).bind fun e=>(zgL c d e).bind fun f=>cond (!f) (some (.inr (.inr (none,1)))) (some (.inl (IntKind.i64.wrap (a+1))))) (some (.inr (.inl ())))
def zq9(d:List za)(a:List za)(c:T2):Option ((Option zq)×Int):=
  (zr (fun z=>ziE d a c z) 0).bind fun o=>zQ o (fun b=>zvK a c) some
def ziD(b:List za)(c:List za)(d:T2)(a:Int):Option (Sum (Int) (Sum (Unit) ((Option zq)×Int))):=
  cond (decide (a<(length b:Int))) ((idx b a).bind fun e=>(zjO e).bind fun f=>(zaH f c d).bind fun i=>cond i (some (.inr (.inr (none,4)))) (some (.inl (IntKind.i64.wrap (a+1))))) (some (.inr (.inl ())))
def zq8(d:List za)(a:List za)(c:T2):Option ((Option zq)×Int):=
  (zr (fun z=>ziD d a c z) 0).bind fun o=>zQ o (fun b=>zq9 d a c) some
def ze2(e:List za)(b:List za)(c:T2)(d:Int):Option (Sum ((List za)×T2×Int) (Sum ((List za)×T2) ((Option zq)×Int))):=
  cond (decide (d<(length e:Int))) ((idx e d).bind fun a=>(cond (Option.isSome (zcl a.Name c)) (some true) ((zo6 a).bind fun f=>some (!f))).bind fun i=>cond i (some (.inr (.inr (none,1)))) ((zhj 112 b [a]).bind fun j=>some (.inl (j,(zch a.Name ((length b):Int) c),(IntKind.i64.wrap (d+1)))))) (some (.inr (.inl (b,c))))
def zq7(a:List za)(c:(List za))(d:T2):Option ((Option zq)×Int):=
  (zr (fun z=>ze2 a z.1 z.2.1 z.2.2) (c,d,0)).bind fun o=>zQ o (fun b=>zq8 a b.1 b.2) some
def zra(b:(List za))(c:T2)(a:Int):Option (Sum (T2×Int) (Sum (T2) ((Option zq)×Int))):=
  cond (decide (a<((length b):Int))) ((idx b a).bind fun d=>some (.inl ((zch d.Name a c),(IntKind.i64.wrap (a+1))))) (some (.inr (.inl c)))
def zkE(a:List za):Option ((Option zq)×Int):=
  cond (decide (16<(length a:Int))) (some (none,3)) ((zpS).bind fun c=>(zr (fun z=>zra c z.1 z.2) ([],0)).bind fun o=>zQ o (fun b=>zq7 a c b) some)
theorem zlA(c:List za){r:(Option zq)×Int}(h:zkE c=some r):zan Tryz.prog 22 [.isl 6 (map zb c)] (.tup [zht 2 zS r.1,iA r.2]):=by
 refine zo Tryz.func22 y kz y (zDh (zyK (zlE (fun _=>y)) (y))) ?_;refine A ?_;refine zi<|A ?_;refine zeh h y (fun H h=>?_) fun H h=>?_
 ·refine A ?_;exact RT0
 ·refine zg ?_;obtain ⟨j,T,h⟩:=bs h;refine rg y<|u<|sx [] (ztj T)<|zO (env0:=[(0,.isl 6 (map zb c)),(18,.msl 0 0 (length j))]) (st0:=[some (6,map zb j)]) (zy [.old 0])<|u<|mmk (e:=3) 1 y y<|A ?_;refine zi<|A ?_;obtain ⟨o,ho,h⟩:=bs h;refine lpB ho (fun z=>[(0,.isl 6 (map zb c)),(4,.mpt 0 0 0),(25,.msl 2 0 (length j)),(26,iA ((length j):Int)),(27,iA z.2)]) (fun z=>[some (1,[[.mpt 1 0 0]]),some (2,[[.msl 2 0 (length j),.mmp 3]]),some (6,map zb j),some (2,map (rKV (fun x=>iA x)) z.1)]) (fun b=>[(0,.isl 6 (map zb c)),(4,.mpt 0 0 0)]) (fun b=>[some (1,[[.mpt 1 0 0]]),some (2,[[.msl 2 0 (length j),.mmp 3]]),some (6,map zb j),some (2,map (rKV (fun x=>iA x)) b)]) (pG Tryz.f22 (fun r=>.tup [zht 2 zS r.1,iA r.2])) (zbZ [.old 3,.old 2,.old 0,.old 1]) ?_ ?_
  ·rintro ⟨I,J⟩ r h;refine A ?_;refine zi ?_;refine zeh h y (fun K h=>?_) fun K h=>?_
   ·refine zg<|zi<|zs ?_;obtain ⟨L,q6,h⟩:=bs h;refine A ?_;refine zpG [(0,_),(4,_),(25,_),(26,_),(27,_)] [some (1,[[.mpt 1 0 0]]),some (2,[[.msl 2 0 (length j),.mmp 3]]),some (6,map zb j),some (2,map (rKV (fun x=>iA x)) (zch L.Name J I))] [7] [0,1,2,3,4,5,6] [(38,_),(37,_),(36,_),(35,_),(34,_),(33,_),(32,_)] 1 (ze7 (z:=by exact ⟨(fun _ _=>⟨_,y,y,mup (v:=J) (g:=(fun x=>iA x)) (l:=I) (s:=L.Name) y y y y y y<|⟨.any,[],[],y,y,y,t,zgE (z:=zbZ [.old 0,.old 1,.old 2,.old 3])⟩⟩),t⟩)) ?_;refine A ?_;obtain rfl:=sm h;exact ⟨_,y,zy [.old 0,.old 1,.old 2,.old 3]⟩
   ·refine zJ ?_;obtain rfl:=sm h;exact ⟨y,_,y,zy [.old 0,.old 1,.old 2,.old 3]⟩
  ·rintro v9 rfl;refine zA<|zi<|A ?_;obtain ⟨o,ho,h⟩:=bs h;refine lpB ho (fun z=>[(0,.isl 6 (map zb c)),(4,.mpt 0 0 0),(40,.isl 6 (map zb c)),(41,iA (length c:Int)),(42,iA z.2.2)]) (fun z=>[some (1,[[.mpt 1 0 0]]),some (2,[[.msl 2 0 (length z.1),.mmp 3]]),some (6,map zb z.1),some (2,map (rKV (fun x=>iA x)) z.2.1)]) (fun b=>[(0,.isl 6 (map zb c)),(4,.mpt 0 0 0)]) (fun b=>[some (1,[[.mpt 1 0 0]]),some (2,[[.msl 2 0 (length b.1),.mmp 3]]),some (6,map zb b.1),some (2,map (rKV (fun x=>iA x)) b.2)]) (pG Tryz.f22 (fun r=>.tup [zht 2 zS r.1,iA r.2])) (zbZ [.old 0,.old 1,.old 2,.old 3]) ?_ ?_
   ·rintro ⟨d,n,U⟩ r h;refine A ?_;refine zi ?_;refine zeh h y (fun B h=>?_) fun B h=>?_
    ·refine zg<|zi<|zs ?_;obtain ⟨m,V,h⟩:=bs h;refine A ?_;refine zi ?_;refine rdA [(0,_),(4,_),(8,_),(10,_),(40,_),(41,_),(42,_)] [some (1,[[.mpt 1 0 0]]),some (2,[[.msl 2 0 (length d),.mmp 3]]),some (6,map zb d),some (2,map (rKV (fun x=>iA x)) n),some (6,[(zb m)])] [] [0,1,2,3,4,5,6,7,8,9,10,11] [(10,_),(9,_),(55,_),(54,_),(46,_),(53,_),(52,_),(51,_),(50,_),(49,_),(48,_),(47,_)] 0 (zgE ⟨peC,peC,peC,peC,peC,peC,(by exact pb y (zFC (g:=(fun x=>iA x)) (z:=0) (l:=n) y ti y y y y<|w)),peC,peC,peC,peC,peC,t⟩ (zbZ [.old 0,.old 1,.old 2,.old 3,.old 4])) ?_;obtain ⟨W,X,h⟩:=bs h;refine A ?_;refine zeh h y (fun C h=>?_) fun C h=>?_
     ·refine A ?_;refine zL ?_;obtain rfl:=sm h;exact ⟨_,y,_,y,zbc []⟩
     ·refine zg ?_;refine rdA [(0,_),(4,_),(8,_),(40,_),(41,_),(42,_)] [some (1,[[.mpt 1 0 0]]),some (2,[[.msl 2 0 (length d),.mmp 3]]),some (6,map zb d),some (2,map (rKV (fun x=>iA x)) (zch m.Name ((length d):Int) n)),some (6,[(zb m)])] [11] [0,1,2,3,4,5,6,7,8,9,10] [(72,_),(71,_),(70,_),(69,_),(68,_),(67,_),(66,_),(65,_),(64,_),(63,_),(62,_)] 1 (ze7 (z:=by exact ⟨(fun _ _=>⟨_,y,y,mup (v:=((length d):Int)) (g:=(fun x=>iA x)) (l:=n) (s:=m.Name) y y y y y y<|⟨.any,[],[],y,y,y,t,zgE (z:=zbZ [.old 0,.old 1,.old 2,.old 3,.old 4])⟩⟩),t⟩)) ?_;obtain ⟨p,M,h⟩:=bs h;refine zpG [(0,_),(4,_),(40,_),(41,_),(42,_)] [some (1,[[.mpt 1 0 0]]),some (2,[[.msl 2 0 (length p),.mmp 3]]),some (6,map zb p),some (2,map (rKV (fun x=>iA x)) (zch m.Name ((length d):Int) n))] [6,7,10] [0,1,2,3,4,5] [(78,_),(77,_),(76,_),(75,_),(74,_),(73,_)] 3 (ze7 (z:=by exact ⟨(fun _ _=>⟨_,y,y,bl 5 ti y ti y (by decide) (by decide) y y y<|⟨(.msl 5 0 1),[],[(79,_)],y,y,y,y,ze7 (z:=by exact ⟨nv,(fun _ _=>⟨_,y,y,apM 6 ti y ti y y (by decide) ti y y y y (roX (f:=zb) (z:=[m]) y y) (fun _=>y) y M<|⟨(.msl 6 0 (length p)),[8,9],[(82,_),(81,_),(80,_)],y,y,y,y,ze7 (z:=by exact ⟨nv,nv,(fun _ _=>⟨_,y,y,sto ti y y y<|⟨.any,[],[],y,y,y,t,zgE (z:=zbZ [.old 0,.old 1,.old 6,.old 3])⟩⟩),t⟩)⟩⟩),nw,t⟩)⟩⟩),nw,nw,t⟩)) ?_;refine A ?_;obtain rfl:=sm h;exact ⟨_,y,zy [.old 0,.old 1,.old 2,.old 3]⟩
    ·refine zJ ?_;obtain rfl:=sm h;exact ⟨y,_,y,zy [.old 0,.old 1,.old 2,.old 3]⟩
   ·rintro ⟨a,i⟩ rfl;refine zA<|zi<|A ?_;obtain ⟨o,ho,h⟩:=bs h;refine lpB ho (fun z=>[(0,.isl 6 (map zb c)),(4,.mpt 0 0 0),(84,.isl 6 (map zb c)),(85,iA (length c:Int)),(86,iA z)]) (fun z=>[some (1,[[.mpt 1 0 0]]),some (2,[[.msl 2 0 (length a),.mmp 3]]),some (6,map zb a),some (2,map (rKV (fun x=>iA x)) i)]) (fun b=>[(0,.isl 6 (map zb c)),(4,.mpt 0 0 0)]) (fun b=>[some (1,[[.mpt 1 0 0]]),some (2,[[.msl 2 0 (length a),.mmp 3]]),some (6,map zb a),some (2,map (rKV (fun x=>iA x)) i)]) (pG Tryz.f22 (fun r=>.tup [zht 2 zS r.1,iA r.2])) (zbZ [.old 0,.old 1,.old 2,.old 3]) ?_ ?_
    ·rintro N r h;refine A ?_;refine zi ?_;refine zeh h y (fun D h=>?_) fun D h=>?_
     ·refine zg<|zi<|zs ?_;obtain ⟨O,Y,h⟩:=bs h;refine A ?_;obtain ⟨q,P,Z,Q,h⟩:=bs2 h;refine rg y<|u<|ld ti y y<|u<|sx [] (zlC O P)<|zO (env0:=[(0,.isl 6 (map zb c)),(4,.mpt 0 0 0),(84,.isl 6 (map zb c)),(85,iA (length c:Int)),(86,iA N),(91,.msl 4 0 (length q))]) (st0:=[some (1,[[.mpt 1 0 0]]),some (2,[[.msl 2 0 (length a),.mmp 3]]),some (6,map zb a),some (2,map (rKV (fun x=>iA x)) i),some (1,map zm q)]) (zy [.old 0,.old 1,.old 2,.old 3,.old 5])<|u<|mf y y<|u<|pcs (zd1 q a i Q) y y (.cons (ziS y (fun _=>y)) (.cons (zfW t ⟨(zay y ⟨(zay y ⟨(ziS y (fun _=>y)),(zp5 y (fun _=>y)),t⟩),t⟩),t⟩) .nil)) za9<|zz ?_;refine zeh h y (fun E h=>?_) fun E h=>?_
      ·refine A ?_;refine zL ?_;obtain rfl:=sm h;exact ⟨_,y,_,y,zbc []⟩
      ·refine zg<|A ?_;obtain rfl:=sm h;exact ⟨_,y,zy [.old 0,.old 1,.old 2,.old 3]⟩
     ·refine zJ ?_;obtain rfl:=sm h;exact ⟨y,_,y,zy [.old 0,.old 1,.old 2,.old 3]⟩
    ·rintro ⟨⟩ rfl;refine zA<|zi<|A ?_;obtain ⟨o,ho,h⟩:=bs h;refine lpB ho (fun z=>[(4,.mpt 0 0 0),(95,.isl 6 (map zb c)),(96,iA (length c:Int)),(97,iA z)]) (fun z=>[some (1,[[.mpt 1 0 0]]),some (2,[[.msl 2 0 (length a),.mmp 3]]),some (6,map zb a),some (2,map (rKV (fun x=>iA x)) i)]) (fun b=>[(4,.mpt 0 0 0)]) (fun b=>[some (1,[[.mpt 1 0 0]]),some (2,[[.msl 2 0 (length a),.mmp 3]]),some (6,map zb a),some (2,map (rKV (fun x=>iA x)) i)]) (pG Tryz.f22 (fun r=>.tup [zht 2 zS r.1,iA r.2])) (zbZ [.old 0,.old 1,.old 2,.old 3]) ?_ ?_
     ·rintro v37 r h;refine A ?_;refine zi ?_;refine zeh h y (fun F h=>?_) fun F h=>?_
      ·refine zg<|zi<|zs ?_;obtain ⟨R,q36,h⟩:=bs h;refine A ?_;obtain ⟨v39,S,h⟩:=bs h;refine A ?_;refine u<|pcs (zk4 a i R S) y y (.cons (zay y ⟨(ziS y (fun _=>y)),(zp5 y (fun _=>y)),t⟩) (.cons (si y) .nil)) za9<|A ?_;refine zeh h y (fun G h=>?_) fun G h=>?_
       ·refine A ?_;refine zL ?_;obtain rfl:=sm h;exact ⟨_,y,_,y,zbc []⟩
       ·refine zg<|A ?_;obtain rfl:=sm h;exact ⟨_,y,zy [.old 0,.old 1,.old 2,.old 3]⟩
      ·refine zJ ?_;obtain rfl:=sm h;exact ⟨y,_,y,zy [.old 0,.old 1,.old 2,.old 3]⟩
     ·rintro ⟨⟩ rfl;refine zA<|A ?_;refine zL ?_;obtain rfl:=sm h;exact ⟨_,y,[],zsg ⟨(rsP y y ⟨(zkg y y (fun _=>y)),(zAE y y (fun _=>y)),t⟩ y),(ci y),t⟩,y,t,y,k⟩
instance (a:List za):PF Tryz.prog 22 [.isl 6 (map zb a)] (zkE a) (fun r=>(.tup [zht 2 zS r.1,iA r.2])):=⟨fun _=>zlA a⟩
def zvi(x:zj):Prop:=(wS) x.Name∧(wS) x.Type_∧(wT) x.Static
theorem zx5{n:Nat}{avs:List AV}(h:zpH Tryz.prog (n+2) 42 avs):∃x:zj,avs=zD x∧zvi x:=by
 obtain ⟨parts,rfl,hl,hg⟩:=gdF Tryz.underlying42 h
 match parts,hl with
 | [p0,p1,p2],_ =>
  obtain ⟨x0,rfl,w0⟩:=gdS Tryz.underlying9 (hg 0 _ p0 rfl rfl);obtain ⟨x1,rfl,w1⟩:=gdS Tryz.underlying9 (hg 1 _ p1 rfl rfl);obtain ⟨x2,rfl,w2⟩:=gdB Tryz.underlying4 (hg 2 _ p2 rfl rfl);exact ⟨⟨x0,x1,x2⟩,rfl,w0,w1,w2⟩
def zBb(x:zn):Prop:=(wI .i64) x.Op∧(wI .i64) x.A∧(wS) x.C∧(wS) x.M
theorem zBO{n:Nat}{avs:List AV}(h:zpH Tryz.prog (n+2) 40 avs):∃x:zn,avs=zv x∧zBb x:=by
 obtain ⟨parts,rfl,hl,hg⟩:=gdF Tryz.underlying40 h
 match parts,hl with
 | [p0,p1,p2,p3],_ =>
  obtain ⟨x0,rfl,w0⟩:=gdI Tryz.underlying3 (hg 0 _ p0 rfl rfl);obtain ⟨x1,rfl,w1⟩:=gdI Tryz.underlying3 (hg 1 _ p1 rfl rfl);obtain ⟨x2,rfl,w2⟩:=gdS Tryz.underlying9 (hg 2 _ p2 rfl rfl);obtain ⟨x3,rfl,w3⟩:=gdS Tryz.underlying9 (hg 3 _ p3 rfl rfl);exact ⟨⟨x0,x1,x2,x3⟩,rfl,w0,w1,w2,w3⟩
def zBc(x:zX):Prop:=(wI .i64) x.At∧(wL (wS)) x.Locals∧(wL (wS)) x.Stack
theorem zBP{n:Nat}{avs:List AV}(h:zpH Tryz.prog (n+3) 80 avs):∃x:zX,avs=zae x∧zBc x:=by
 obtain ⟨parts,rfl,hl,hg⟩:=gdF Tryz.underlying80 h
 match parts,hl with
 | [p0,p1,p2],_ =>
  obtain ⟨x0,rfl,w0⟩:=gdI Tryz.underlying3 (hg 0 _ p0 rfl rfl);obtain ⟨x1,rfl,w1⟩:=gdL (k:=1) Tryz.underlying22 (by kernel_rfl) (fun h=>gdS Tryz.underlying9 h) (hg 1 _ p1 rfl rfl);obtain ⟨x2,rfl,w2⟩:=gdL (k:=1) Tryz.underlying22 (by kernel_rfl) (fun h=>gdS Tryz.underlying9 h) (hg 2 _ p2 rfl rfl);exact ⟨⟨x0,x1,x2⟩,rfl,w0,w1,w2⟩
def zxF(x:zT):Prop:=(wI .i64) x.From∧(wI .i64) x.To∧(wI .i64) x.At∧(wS) x.C
theorem zzC{n:Nat}{avs:List AV}(h:zpH Tryz.prog (n+2) 88 avs):∃x:zT,avs=z7 x∧zxF x:=by
 obtain ⟨parts,rfl,hl,hg⟩:=gdF Tryz.underlying88 h
 match parts,hl with
 | [p0,p1,p2,p3],_ =>
  obtain ⟨x0,rfl,w0⟩:=gdI Tryz.underlying3 (hg 0 _ p0 rfl rfl);obtain ⟨x1,rfl,w1⟩:=gdI Tryz.underlying3 (hg 1 _ p1 rfl rfl);obtain ⟨x2,rfl,w2⟩:=gdI Tryz.underlying3 (hg 2 _ p2 rfl rfl);obtain ⟨x3,rfl,w3⟩:=gdS Tryz.underlying9 (hg 3 _ p3 rfl rfl);exact ⟨⟨x0,x1,x2,x3⟩,rfl,w0,w1,w2,w3⟩
def zp9(x:zc):Prop:=(wS) x.Name∧(wL (wS)) x.Params∧(wS) x.Ret∧(wT) x.Static∧(wT) x.Abstract∧(wI .i64) x.Locals∧(wI .i64) x.Stack∧(wL (zBb)) x.Code∧(wL (zBc)) x.Maps∧(wL (zxF)) x.Traps
theorem zvI{n:Nat}{avs:List AV}(h:zpH Tryz.prog (n+5) 38 avs):∃x:zc,avs=zf x∧zp9 x:=by
 obtain ⟨parts,rfl,hl,hg⟩:=gdF Tryz.underlying38 h
 match parts,hl with
 | [p0,p1,p2,p3,p4,p5,p6,p7,p8,p9],_ =>
  obtain ⟨x0,rfl,w0⟩:=gdS Tryz.underlying9 (hg 0 _ p0 rfl rfl);obtain ⟨x1,rfl,w1⟩:=gdL (k:=1) Tryz.underlying22 (by kernel_rfl) (fun h=>gdS Tryz.underlying9 h) (hg 1 _ p1 rfl rfl);obtain ⟨x2,rfl,w2⟩:=gdS Tryz.underlying9 (hg 2 _ p2 rfl rfl);obtain ⟨x3,rfl,w3⟩:=gdB Tryz.underlying4 (hg 3 _ p3 rfl rfl);obtain ⟨x4,rfl,w4⟩:=gdB Tryz.underlying4 (hg 4 _ p4 rfl rfl);obtain ⟨x5,rfl,w5⟩:=gdI Tryz.underlying3 (hg 5 _ p5 rfl rfl);obtain ⟨x6,rfl,w6⟩:=gdI Tryz.underlying3 (hg 6 _ p6 rfl rfl);obtain ⟨x7,rfl,w7⟩:=gdL (k:=4) Tryz.underlying34 (by kernel_rfl) (fun h=>zBO h) (hg 7 _ p7 rfl rfl);obtain ⟨x8,rfl,w8⟩:=gdL (k:=3) Tryz.underlying35 (by kernel_rfl) (fun h=>zBP h) (hg 8 _ p8 rfl rfl);obtain ⟨x9,rfl,w9⟩:=gdL (k:=4) Tryz.underlying36 (by kernel_rfl) (fun h=>zzC h) (hg 9 _ p9 rfl rfl);exact ⟨⟨x0,x1,x2,x3,x4,x5,x6,x7,x8,x9⟩,rfl,w0,w1,w2,w3,w4,w5,w6,w7,w8,w9⟩
def zji(x:za):Prop:=(wS) x.Name∧(wS) x.Super∧(wT) x.Interface∧(wL (wS)) x.Impl∧(wL (zvi)) x.Fields∧(wL (zp9)) x.Methods
theorem zET{n:Nat}{avs:List AV}(h:zpH Tryz.prog (n+7) 26 avs):∃x:za,avs=zb x∧zji x:=by
 obtain ⟨parts,rfl,hl,hg⟩:=gdF Tryz.underlying26 h
 match parts,hl with
 | [p0,p1,p2,p3,p4,p5],_ =>
  obtain ⟨x0,rfl,w0⟩:=gdS Tryz.underlying9 (hg 0 _ p0 rfl rfl);obtain ⟨x1,rfl,w1⟩:=gdS Tryz.underlying9 (hg 1 _ p1 rfl rfl);obtain ⟨x2,rfl,w2⟩:=gdB Tryz.underlying4 (hg 2 _ p2 rfl rfl);obtain ⟨x3,rfl,w3⟩:=gdL (k:=1) Tryz.underlying22 (by kernel_rfl) (fun h=>gdS Tryz.underlying9 h) (hg 3 _ p3 rfl rfl);obtain ⟨x4,rfl,w4⟩:=gdL (k:=3) Tryz.underlying23 (by kernel_rfl) (fun h=>zx5 h) (hg 4 _ p4 rfl rfl);obtain ⟨x5,rfl,w5⟩:=gdL (k:=10) Tryz.underlying24 (by kernel_rfl) (fun h=>zvI h) (hg 5 _ p5 rfl rfl);exact ⟨⟨x0,x1,x2,x3,x4,x5⟩,rfl,w0,w1,w2,w3,w4,w5⟩
structure zbI where
  L:List za
def zmZ:Option (Int):=
  some (-1)
def zil(b:List za)(c:T0)(a:Int):Option (Sum (Int) (Sum (Unit) (Int))):=
  cond (decide (a<(length b:Int))) ((idx b a).bind fun d=>cond (d.Name == c) (some (.inr (.inr a))) (some (.inl (IntKind.i64.wrap (a+1))))) (some (.inr (.inl ())))
def zcc(a:List za)(c:T0):Option (Int):=
  (zr (fun z=>zil a c z) 0).bind fun o=>zQ o (fun b=>zmZ) some
structure z8 where
  C:T0
  M:T0
def zfA(x:z8):List AV:=[sA x.C,sA x.M]
def vK(h0:List za)(h1:T2)(c:T0)(m:zc)(x0:AV)(x1:AV)(x2:AV):List AV:=[.ipt 2 [[.isl 6 (map zb h0),.imp (map (rKV (fun x=>iA x)) h1)]] 0 0,sA c,sA m.Name,.isl 1 (map zm m.Params),sA m.Ret,bA m.Static,bA m.Abstract,iA m.Locals,iA m.Stack,.isl 4 (map zv m.Code),.isl 3 (map zae m.Maps),.isl 4 (map z7 m.Traps),x0,x1,x2]
abbrev sV(h0:List za)(h1:T2)(c:T0)(m:zc)(x y:T1)(b:Bool)(t:St):St:=some (15,[vK h0 h1 c m (.msl 1 0 x.length) (.msl 2 0 y.length) (bA b)])::some (1,x.map zm)::some (1,y.map zm)::t
abbrev sU(h0:List za)(h1:T2)(c:T0)(m:zc)(x y:T1)(b:Bool)(t:St):St:=some (15,[vK h0 h1 c m (.msl 1 0 x.length) (.msl 3 0 y.length) (bA b)])::some (1,x.map zm)::none ::some (1,y.map zm)::t
abbrev tV(h0:List za)(h1:T2)(c:T0)(m:zc)(x y:T1)(b:Bool)(t:List SB):List SB:=.one 15 (vK h0 h1 c m (.msl 1 0 x.length) (.msl 2 0 y.length) (bA b)):: .many 1 (x.map zm):: .many 1 (y.map zm)::t
abbrev tU(h0:List za)(h1:T2)(c:T0)(m:zc)(x y:T1)(b:Bool)(t:List SB):List SB:=.one 15 (vK h0 h1 c m (.msl 1 0 x.length) (.msl 3 0 y.length) (bA b)):: .many 1 (x.map zm):: .no :: .many 1 (y.map zm)::t
def zw2(a:T0):Unit:=
  ()
theorem zvV(a:T0){r:Unit}(h:zw2 a=r):SC Tryz.prog 21 [sA a] [] (.agg [sA a,sA [79,98,106,101,99,116],bA false,.lit (.slice none 0 0),.msl 0 0 1,.msl 1 0 1]) [.xs 3 [[sA [120],sA [73],bA false]],.xs 10 [[sA [109,97,105,110],.lit (.slice none 0 0),sA [86],bA true,bA false,iA 0,iA 0,.msl 2 0 1,.lit (.slice none 0 0),.lit (.slice none 0 0)]],.xs 4 [[iA 46,iA 0,sA [],sA []]]]:=by
 refine ⟨⟨t,t,t,t⟩,zZ Tryz.func21 y kz y ?_⟩;unfold zw2 at h;refine A ?_;refine A ?_;refine zL ?_;obtain rfl:=h;exact ⟨_,y,zbc [.old 1,.old 3,.old 2]⟩
def zw3:Unit:=
  ()
theorem zhc{r:Unit}(h:zw3=r):SC Tryz.prog 93 [] [] (.msl 0 0 3) [.xs 6 [[sA [70,97,99,101],sA [79,98,106,101,99,116],bA true,.lit (.slice none 0 0),.lit (.slice none 0 0),.msl 1 0 1],[sA [65,97],sA [79,98,106,101,99,116],bA false,.msl 2 0 1,.msl 3 0 2,.msl 4 0 1],[sA [66,98],sA [65,97],bA false,.lit (.slice none 0 0),.msl 6 0 1,.msl 7 0 1]],.xs 10 [[sA [102],.lit (.slice none 0 0),sA [73],bA false,bA true,iA 0,iA 0,.lit (.slice none 0 0),.lit (.slice none 0 0),.lit (.slice none 0 0)]],.xs 1 [[sA [70,97,99,101]]],.xs 3 [[sA [120],sA [73],bA false],[sA [115],sA [73],bA true]],.xs 10 [[sA [102],.lit (.slice none 0 0),sA [73],bA false,bA false,iA 1,iA 1,.msl 5 0 2,.lit (.slice none 0 0),.lit (.slice none 0 0)]],.xs 4 [[iA 1,iA 5,sA [],sA []],[iA 47,iA 0,sA [],sA []]],.xs 3 [[sA [121],sA [91,65,97],bA false]],.xs 10 [[sA [109,97,105,110],.lit (.slice none 0 0),sA [86],bA true,bA false,iA 0,iA 0,.msl 8 0 1,.lit (.slice none 0 0),.lit (.slice none 0 0)]],.xs 4 [[iA 46,iA 0,sA [],sA []]]]:=by
 refine ⟨⟨t,t,t,t,t,t,t,t,t,t⟩,zZ Tryz.func93 y kz y ?_⟩;unfold zw3 at h;refine A ?_;refine A ?_;refine rg y<|u<|bl 2 ti y ti y (by decide) (by decide) y y y<|u<|bd ti y y y<|u<|bd ti y y y<|u<|bl 3 ti y ti y (by decide) (by decide) y y y<|u<|bd ti y y y<|u<|bd ti y y y<|u<|bl 4 ti y ti y (by decide) (by decide) y y y<|u<|bd (parts:=[(0,sA [102]),(2,sA [73]),(5,iA 1),(6,iA 1),(7,.msl 4 0 2)]) (cs:=[sA [102],.lit (.slice none 0 0),sA [73],bA false,bA false,iA 1,iA 1,.msl 4 0 2,.lit (.slice none 0 0),.lit (.slice none 0 0)]) ti y y kz<|u<|bl 5 ti y ti y (by decide) (by decide) y y y<|u<|bd (parts:=[(0,sA [65,97]),(1,sA [79,98,106,101,99,116]),(3,.msl 2 0 1),(4,.msl 3 0 2),(5,.msl 5 0 1)]) (cs:=[sA [65,97],sA [79,98,106,101,99,116],bA false,.msl 2 0 1,.msl 3 0 2,.msl 5 0 1]) ti y y kz<|u<|al 6 ti y<|u<|sto ti y y y<|zz ?_;refine rg y<|u<|sx [] (zvV [66,98] y)<|u<|al 10 ti y<|A ?_;refine A ?_;refine A ?_;refine u<|bl 11 ti y ti y (by decide) (by decide) y y y<|A ?_;refine A ?_;refine u<|bl 12 ti y ti y (by decide) (by decide) y y y<|A ?_;refine zL ?_;obtain rfl:=h;exact ⟨_,y,zbc [.old 12,.old 0,.old 2,.old 3,.old 5,.old 4,.old 11,.old 8,.old 9]⟩
def zmI(a:T1):Option (T1):=
  some a
def zb7(b:List za)(c:T1)(a:Int):Option (Sum (T1×Int) (Sum (T1) (T1))):=
  cond (decide (a<(length b:Int))) ((idx b a).bind fun e=>(zhj 16 c [e.Name]).bind fun d=>some (.inl (d,(IntKind.i64.wrap (a+1))))) (some (.inr (.inl c)))
def zcq(a:List za)(c:T2):Option (T1):=
  (zr (fun z=>zb7 a z.1 z.2) ([],0)).bind fun o=>zQ o (fun b=>zmI b) some
theorem zdV(a:List za)(c:T2){r:T1}(h:zcq a c=some r):SC Tryz.prog 104 [.ipt 2 [[.isl 6 (map zb a),.imp (map (rKV (fun x=>iA x)) c)]] 0 0] [] (.msl 0 0 (length r)) [.many 1 (map zm r)]:=by
 refine ⟨⟨zdq (sz:=1) (fun _=>y),t⟩,zZ Tryz.func104 y kz y ?_⟩;refine A ?_;refine zi<|A ?_;refine zd7 y (fun hx=>by cases hx) (fun _=>?_);refine zg<|A ?_;refine zi<|A ?_;obtain ⟨o,ho,h⟩:=bs h;refine lpB ho (fun z=>[(3,.msl 0 0 (length z.1)),(11,.isl 6 (map zb a)),(12,iA (length a:Int)),(13,iA z.2)]) (fun z=>[some (1,map zm z.1)]) (fun b=>[(3,.msl 0 0 (length b))]) (fun b=>[some (1,map zm b)]) (pF Tryz.f104 (fun r=>.msl 0 0 (length r)) fun r=>[some (1,map zm r)]) ⟨[.fresh 1],cv y (.nilown y)<|ce y y<|ce y y<|ce y y<|cn,y,⟨w,t⟩,y,k⟩ ?_ ?_
 ·rintro ⟨m,n⟩ r h;refine A ?_;refine zi ?_;refine zeh h y (fun d h=>?_) fun d h=>?_
  ·refine zg<|zi<|zs ?_;obtain ⟨e,p,h⟩:=bs h;refine A ?_;obtain ⟨j,i,h⟩:=bs h;refine A ?_;refine u<|apM 3 ti y ti y y (by decide) ti y y y y (roX (f:=zm) (z:=[e.Name]) y y) (fun _=>y) y i<|A ?_;refine A ?_;obtain rfl:=sm h;exact ⟨_,y,zy [.old 3]⟩
  ·refine zJ ?_;obtain rfl:=sm h;exact ⟨y,_,y,zy [.old 0]⟩
 ·rintro l rfl;refine zA<|A ?_;exact RT1
def zG(a:List za)(b:T2)(c:T0):Option (za×Bool):=
  cond (!(zbz a b c)) (some ((za.mk [] [] false [] [] []),false)) ((zdP a b c).bind fun d=>some (d,true))
theorem zha(a:List za)(b:T2)(c:T0){r:za×Bool}(h:zG a b c=some r):zan Tryz.prog 106 [.ipt 2 [[.isl 6 (map zb a),.imp (map (rKV (fun x=>iA x)) b)]] 0 0,sA c] (.tup [.agg (zb r.1),bA r.2]):=by
 refine zo Tryz.func106 y kz y y<|A ?_;refine zi<|A ?_;refine zeh h y (fun d h=>?_) fun d h=>?_
 ·refine A ?_;exact RT0
 ·refine zg ?_;obtain ⟨e,f,h⟩:=bs h;refine A ?_;exact RT0
instance (a:List za)(b:T2)(c:T0):PF Tryz.prog 106 [.ipt 2 [[.isl 6 (map zb a),.imp (map (rKV (fun x=>iA x)) b)]] 0 0,sA c] (zG a b c) (fun r=>(.tup [.agg (zb r.1),bA r.2])):=⟨fun _=>zha a b c⟩
def zjb(b:List za)(c:T2)(a:T0):Option (Bool):=
  some ((a == [73])||(zbz b c a))
def zdW(d:T0)(a:T0)(c:Bool):Option (Sum (T0×T0×Bool) (Sum (T0) (Bool))):=
  cond c ((zgG a).bind fun b=>some (.inl (a,b.1,b.2))) (some (.inr (.inl d)))
def zfu(d:List za)(e:T2)(a:T0):Option (Bool):=
  (zgG a).bind fun c=>(zr (fun z=>zdW z.1 z.2.1 z.2.2) (a,c.1,c.2)).bind fun o=>zQ o (fun b=>zjb d e b) some
instance (c:List za)(d:T2)(e:T0):PF Tryz.prog 275 [.ipt 2 [[.isl 6 (map zb c),.imp (map (rKV (fun x=>iA x)) d)]] 0 0,sA e] (zfu c d e) bA:=⟨fun r h=>by
 refine zo Tryz.func275 y kz y y<|A ?_;refine zi ?_;obtain ⟨p,q,h⟩:=bs h;refine A ?_;obtain ⟨o,ho,h⟩:=bs h;refine lpB ho (fun z=>[(0,.ipt 2 [[.isl 6 (map zb c),.imp (map (rKV (fun x=>iA x)) d)]] 0 0),(1,sA z.1),(5,sA z.2.1),(6,bA z.2.2)]) (fun z=>[]) (fun b=>[(0,.ipt 2 [[.isl 6 (map zb c),.imp (map (rKV (fun x=>iA x)) d)]] 0 0),(1,sA b)]) (fun b=>[]) (pG Tryz.f275 bA) (zbZ []) ?_ ?_
 ·rintro ⟨s,l,m⟩ r h;refine zi<|A ?_;refine zeh h y (fun f h=>?_) fun f h=>?_
  ·refine zg<|zi<|zs<|A ?_;obtain ⟨n,v,h⟩:=bs h;refine A ?_;obtain rfl:=sm h;exact ⟨_,y,zy []⟩
  ·refine zJ ?_;obtain rfl:=sm h;exact ⟨y,_,y,zy []⟩
 ·rintro i rfl;refine zA ?_;refine rg y<|u<|mv y<|u<|nep ti y y y y y y<|u<|mv y<|g y y<|mv y<|g y y<|seq ti y y<|g y y<|mv y<|ztF (j:=5) 3 y y y y y (gps y y y) (fun a=>g y a<|mv y<|g y a<|mv y<|g y a<|pc (zl6 c d i y) y y y<|zz (egO [25,26,27] 3 a y y y y)) orT<|u<|pk (b:=true) y y<|u<|asg y<|zz ?_
  exact RT0⟩
def zmb(a:T1):Option (T1):=
  some a
def zbM(b:List za)(c:T2)(a:T0)(d:T1):Option (Sum (T0×T1) (Sum (T1) (T1))):=
  cond (zbz b c a) ((zhj 16 d [a]).bind fun e=>(zdP b c a).bind fun f=>some (.inl (f.Super,e))) (some (.inr (.inl d)))
def zad(a:List za)(c:T2)(d:T0):Option (T1):=
  (zr (fun z=>zbM a c z.1 z.2) (d,[])).bind fun o=>zQ o (fun b=>zmb b) some
theorem zaf(a:List za)(c:T2)(d:T0){r:T1}(h:zad a c d=some r):SC Tryz.prog 109 [.ipt 2 [[.isl 6 (map zb a),.imp (map (rKV (fun x=>iA x)) c)]] 0 0,sA d] [] (.msl 0 0 (length r)) [.many 1 (map zm r)]:=by
 refine ⟨⟨zdq (sz:=1) (fun _=>y),t⟩,zZ Tryz.func109 y kz y ?_⟩;refine A ?_;refine A ?_;obtain ⟨o,ho,h⟩:=bs h;refine lpA ho (fun z=>[(0,.ipt 2 [[.isl 6 (map zb a),.imp (map (rKV (fun x=>iA x)) c)]] 0 0),(1,sA z.1),(5,.msl 0 0 (length z.2))]) (fun z=>[some (1,map zm z.2)]) (fun b=>[(5,.msl 0 0 (length b))]) (fun b=>[some (1,map zm b)]) (pF Tryz.f109 (fun r=>.msl 0 0 (length r)) fun r=>[some (1,map zm r)]) ⟨[.fresh 1],ce y y<|ce y y<|cv y (.nilown y)<|cn,y,⟨w,t⟩,y,k⟩ ?_ ?_
 ·rintro ⟨i,p⟩ r h;refine zi<|A ?_;refine zeh h y (fun e h=>?_) fun e h=>?_
  ·refine zg<|zs ?_;obtain ⟨l,j,h⟩:=bs h;refine A ?_;refine u<|apM 2 ti y ti y y (by decide) ti y y y y (roX (f:=zm) (z:=[i]) y y) (fun _=>y) y j<|A ?_;obtain ⟨m,q,h⟩:=bs h;refine A ?_;obtain rfl:=sm h;exact ⟨_,y,zy [.old 2]⟩
  ·refine zJ ?_;obtain rfl:=sm h;exact ⟨y,_,y,zy [.old 0]⟩
 ·rintro n rfl;refine A ?_;exact RT1
def zix(a:T1):Option (T1):=
  (zyz a).bind fun b=>some b
def ziw(a:Int)(b:T1)(c:T1):Option (Sum (T1×T1×Int) (Sum (T1) (T1))):=
  some (.inl (b,c,(IntKind.i64.wrap (a+1))))
def zft(a:Int)(b:T1):Option (Sum (T1×Int) (Sum (T1) (T1))):=
  some (.inl (b,(IntKind.i64.wrap (a+1))))
def zdU(c:za)(a:T1)(b:Int):Option (Sum (T1×Int) (Sum (T1) (T1))):=
  cond (decide (b<(length c.Impl:Int))) ((idx c.Impl b).bind fun d=>(zK a d).bind fun e=>cond (!e) ((zhj 16 a [d]).bind fun f=>zft b f) (zft b a)) (some (.inr (.inl a)))
def zdT(a:T1)(c:Int)(d:za)(e:T1):Option (Sum (T1×T1×Int) (Sum (T1) (T1))):=
  (zr (fun z=>zdU d z.1 z.2) (a,0)).bind fun o=>zQ o (fun b=>ziw c e b) (fun r=>some (.inr (.inr r)))
def zbL(i:List za)(j:T2)(d:T1)(a:T1)(b:Int):Option (Sum (T1×T1×Int) (Sum (T1) (T1))):=
  cond (decide (b<((length a):Int))) ((idx a b).bind fun e=>(zdP i j e).bind fun c=>cond c.Interface ((zhj 16 d [c.Name]).bind fun f=>zdT a b c f) (zdT a b c d)) (some (.inr (.inl d)))
def zec(a:List za)(c:T2)(d:T0):Option (T1):=
  cond (!(zbz a c d)) (some []) ((zad a c d).bind fun e=>(zr (fun z=>zbL a c z.1 z.2.1 z.2.2) ([],e,0)).bind fun o=>zQ o (fun b=>zix b) some)
theorem zhb(d:List za)(e:T2)(s:T0){r:T1}(h:zec d e s=some r):SC Tryz.prog 276 [.ipt 2 [[.isl 6 (map zb d),.imp (map (rKV (fun x=>iA x)) e)]] 0 0,sA s] [] (.msl 0 0 (length r)) [.many 1 (map zm r)]:=by
 refine ⟨⟨zdq (sz:=1) (fun _=>y),t⟩,zZ Tryz.func276 y kz y ?_⟩;refine A ?_;refine zi<|A ?_;refine zeh h y (fun E h=>?_) fun E h=>?_
 ·refine A ?_;refine zL ?_;obtain rfl:=sm h;exact ⟨_,y,[.fresh 1],.nilown y,y,⟨w,t⟩,y,k⟩
 ·refine zg<|A ?_;obtain ⟨F,N,h⟩:=bs h;refine A ?_;refine u<|sx [] (zaf d e s N)<|zO (env0:=[(0,.ipt 2 [[.isl 6 (map zb d),.imp (map (rKV (fun x=>iA x)) e)]] 0 0),(5,.lit (.slice none 0 0)),(17,.msl 0 0 (length F))]) (st0:=[some (1,map zm F)]) (zy [.old 0])<|A ?_;refine zi<|A ?_;obtain ⟨o,ho,h⟩:=bs h;refine lpB ho (fun z=>[(0,.ipt 2 [[.isl 6 (map zb d),.imp (map (rKV (fun x=>iA x)) e)]] 0 0),(5,.msl 0 0 (length z.1)),(6,.msl 1 0 (length z.2.1)),(7,iA z.2.2)]) (fun z=>[some (1,map zm z.1),some (1,map zm z.2.1)]) (fun b=>[(5,.msl 0 0 (length b))]) (fun b=>[some (1,map zm b)]) (pF Tryz.f276 (fun r=>.msl 0 0 (length r)) fun r=>[some (1,map zm r)]) ⟨[.fresh 1,.old 0],ce y y<|cv y (.nilown y)<|cv y (.msl y)<|ce y y<|cn,y,⟨w,⟨_,y,zgo (fun _=>y)⟩,t⟩,y,k⟩ ?_ ?_
  ·rintro ⟨G,j,i⟩ r h;refine zi<|A ?_;refine zeh h y (fun v h=>?_) fun v h=>?_
   ·refine zg<|zi<|zs ?_;obtain ⟨O,P,a,Q,h⟩:=bs2 h;refine A ?_;refine zbG (X:=T1) (fun z=>[(0,.ipt 2 [[.isl 6 (map zb d),.imp (map (rKV (fun x=>iA x)) e)]] 0 0),(5,.msl 0 0 (length z)),(6,.msl 1 0 (length j)),(7,iA i),(8,.mpt 2 0 0)]) (fun z=>[some (1,map zm z),some (1,map zm j),some (6,[(zb a)])]) (fun z=>zdT j i a z=some r) ?_ ?_
    ·refine A ?_;refine zeh h y (fun B h=>?_) fun B h=>?_
     ·obtain ⟨H,I,h⟩:=bs h;refine A ?_;refine u<|apM 4 ti y ti y y (by decide) ti y y y y (roX (f:=zm) (z:=[a.Name]) y y) (fun _=>y) y I<|A ?_;exact (⟨H,h,zy [.old 4,.old 1,.old 2]⟩)
     ·refine zg ?_;exact ⟨G,h,zy [.old 0,.old 1,.old 2]⟩
    ·rintro c h;refine A ?_;obtain ⟨o,ho,h⟩:=bs h;refine lpS ho (fun z=>[(0,.ipt 2 [[.isl 6 (map zb d),.imp (map (rKV (fun x=>iA x)) e)]] 0 0),(5,.msl 0 0 (length c)),(6,.msl 1 0 (length z.1)),(7,iA i),(38,.isl 1 (map zm a.Impl)),(39,iA (length a.Impl:Int)),(40,iA z.2)]) (fun z=>[some (1,map zm c),some (1,map zm z.1)]) (fun b=>[(0,.ipt 2 [[.isl 6 (map zb d),.imp (map (rKV (fun x=>iA x)) e)]] 0 0),(5,.msl 0 0 (length c)),(6,.msl 1 0 (length b)),(7,iA i)]) (fun b=>[some (1,map zm c),some (1,map zm b)]) (pF Tryz.f276 (fun r=>.msl 0 0 (length r)) fun r=>[some (1,map zm r)]) (zbZ [.old 0,.old 1]) ?_ ?_ ?_
     ·rintro ⟨l,m⟩ r h;refine A ?_;refine zi ?_;refine zeh h y (fun C h=>?_) fun C h=>?_
      ·refine zg ?_;refine zbG (X:=T1) (fun z=>[(0,.ipt 2 [[.isl 6 (map zb d),.imp (map (rKV (fun x=>iA x)) e)]] 0 0),(5,.msl 0 0 (length c)),(6,.msl 1 0 (length z)),(7,iA i),(38,.isl 1 (map zm a.Impl)),(39,iA (length a.Impl:Int)),(40,iA m)]) (fun z=>[some (1,map zm c),some (1,map zm z)]) (fun z=>zft m z=some r) ?_ ?_
       ·refine zs ?_;obtain ⟨n,R,h⟩:=bs h;refine A ?_;obtain ⟨S,J,h⟩:=bs h;refine rg y<|u<|mv y<|u<|mv y<|u<|pcs (zac l n J) y y (.cons (ziS y (fun _=>y)) (.cons (si y) .nil)) za9<|A ?_;refine zeh h y (fun D h=>?_) fun D h=>?_
        ·obtain ⟨K,L,h⟩:=bs h;refine A ?_;refine u<|apM 3 ti y ti y y (by decide) ti y y y y (roX (f:=zm) (z:=[n]) y y) (fun _=>y) y L<|A ?_;exact (⟨K,h,zy [.old 0,.old 3]⟩)
        ·refine zg ?_;exact ⟨l,h,zy [.old 0,.old 1]⟩
       ·rintro T h;refine A ?_;obtain rfl:=sm h;exact ⟨_,y,zy [.old 0,.old 1]⟩
      ·refine zJ ?_;obtain rfl:=sm h;exact ⟨y,_,y,zy [.old 0,.old 1]⟩
     ·rintro U rfl;refine zA<|A ?_;obtain rfl:=sm h;exact ⟨_,y,zy [.old 0,.old 1]⟩
     ·rintro r' rfl env st hp;obtain rfl:=sm h;exact ⟨_,y,hp⟩
   ·refine zJ ?_;obtain rfl:=sm h;exact ⟨y,_,y,zy [.old 0]⟩
  ·rintro M rfl;refine zA ?_;obtain ⟨p,q,h⟩:=bs h;refine rg y<|u<|mv y<|u<|sx [0] (zCC M q)<|zO (env0:=[(5,.msl 0 0 (length p))]) (st0:=[some (1,map zm p)]) ⟨[.old 0],cv y (zEW (zAI q) y)<|cn,y,⟨⟨_,y,zgo (fun _=>y)⟩,t⟩,y,k⟩<|zz ?_;refine A ?_;exact RT1
def zcr(q:((List za)×T2×T0×T0→Option Bool))(b:List za)(c:T2)(d:T0)(a:T0):Option (Bool):=
  (zfu b c d).bind fun s=>(cond (!s) (some true) ((zfu b c a).bind fun v=>some (!v))).bind fun x=>cond x (some false) ((zgG d).bind fun e=>(zgG a).bind fun f=>cond (d == a) (some true) (cond (e.2&&f.2) ((cond ((!(e.1 == [73]))&&(!(f.1 == [73]))) ((q (b,c,e.1,f.1)).bind fun i=>some i) (some false)).bind fun j=>some j) (cond e.2 (some (a == [79,98,106,101,99,116])) ((zad b c d).bind fun l=>(zK l a).bind fun m=>(cond m (some true) ((zec b c d).bind fun n=>(zK n a).bind fun o=>some o)).bind fun p=>some p))))
theorem zmJ(p:((List za)×T2×T0×T0→Option Bool))(hrec:∀z r,p z=some r→zan Tryz.prog 196 [.ipt 2 [[.isl 6 (map zb z.1),.imp (map (rKV (fun x=>iA x)) z.2.1)]] 0 0,sA z.2.2.1,sA z.2.2.2] (bA r))(e:List za)(f:T2)(i:T0)(l:T0){r:Bool}(h:zcr p e f i l=some r):zan Tryz.prog 196 [.ipt 2 [[.isl 6 (map zb e),.imp (map (rKV (fun x=>iA x)) f)]] 0 0,sA i,sA l] (bA r):=by
 refine zo Tryz.func196 y kz y y<|A ?_;refine zi ?_;obtain ⟨N,O,P,Q,h⟩:=bs2 h;refine A ?_;refine zeh h y (fun q h=>?_) fun q h=>?_
 ·refine A ?_;exact RT0
 ·refine zg ?_;obtain ⟨I,R,h⟩:=bs h;refine A ?_;obtain ⟨J,S,h⟩:=bs h;refine A ?_;refine zi<|zs<|A ?_;refine zeh h y (fun s h=>?_) fun s h=>?_
  ·refine A ?_;exact RT0
  ·refine A ?_;refine zeh h y (fun n h=>?_) fun n h=>?_
   ·obtain ⟨v,d,h⟩:=bs h;refine A ?_;refine zgn (x:=v) (j:=6) 4 y y y y y gpn (fun c=>by replace d:=bT c d;obtain ⟨K,B,d⟩:=bs d;obtain rfl:=sm d;exact g y c<|mv y<|g y c<|mv y<|g y c<|mv y<|g y c<|pc (hrec (e,f,I.1,J.1) _ B) y y y<|zz (eg [47,48,49,50] 4 y y y y)) (fun hb=>(sm (bF hb d)).symm)<|A ?_;exact RT0
   ·refine A ?_;refine zeh h y (fun o h=>?_) fun o h=>?_
    ·refine A ?_;exact RT0
    ·refine zg ?_;obtain ⟨m,C,L,D,E,b,h⟩:=bs3 h;refine A ?_;refine u<|sx [] (zaf e f i C)<|zO (env0:=[(0,.ipt 2 [[.isl 6 (map zb e),.imp (map (rKV (fun x=>iA x)) f)]] 0 0),(1,sA i),(2,sA l),(58,.msl 0 0 (length m))]) (st0:=[some (1,map zm m)]) (zy [.old 0])<|u<|mv y<|u<|pcs (zac m l D) y y (.cons (ziS y (fun _=>y)) (.cons (si y) .nil)) za9<|u<|mv y<|zGE (x:=E) (j:=5) 5 1 y y y y y gpn (fun a=>by replace b:=bF a b;obtain ⟨F,G,b⟩:=bs b;obtain ⟨M,H,b⟩:=bs b;obtain rfl:=sm b;exact g y a<|mv y<|g y a<|mv y<|g y a<|sx [] (zhb e f i G)<|g y a<|mv y<|g y a<|pcs (zac F l H) y y (.cons (ziS y (fun _=>y)) (.cons (si y) .nil)) za9<|zz (xg [62,63,64,65,66] 5 y y y y y y)) (fun hb=>(sm (bT hb b)).symm)<|A ?_;exact RT0
def zcB(a:List za)(b:T2)(c:T0)(d:T0):Option Bool:=
  zEz (fun e z=>zcr e z.1 z.2.1 z.2.2.1 z.2.2.2) (a,b,c,d)
theorem zdz(b:List za)(c:T2)(d:T0)(e:T0){r:Bool}(h:zcB b c d e=some r):zan Tryz.prog 196 [.ipt 2 [[.isl 6 (map zb b),.imp (map (rKV (fun x=>iA x)) c)]] 0 0,sA d,sA e] (bA r):=
  zEB (F:=(fun a z=>zcr a z.1 z.2.1 z.2.2.1 z.2.2.2)) (Q:=fun z r=>zan Tryz.prog 196 [.ipt 2 [[.isl 6 (map zb z.1),.imp (map (rKV (fun x=>iA x)) z.2.1)]] 0 0,sA z.2.2.1,sA z.2.2.2] (bA r)) (fun a hv z r h=>zmJ a hv z.1 z.2.1 z.2.2.1 z.2.2.2 h) h
def zdQ(b:List za)(c:T2)(a:T0):Option (Bool):=
  (cond ((a == [78])||(a == [84])) (some true) ((zcB b c a a).bind fun d=>some d)).bind fun e=>some e
instance (f:List za)(i:T2)(e:T0):PF Tryz.prog 193 [.ipt 2 [[.isl 6 (map zb f),.imp (map (rKV (fun x=>iA x)) i)]] 0 0,sA e] (zdQ f i e) bA:=⟨fun r h=>by
 refine zo Tryz.func193 y kz y y<|A ?_;obtain ⟨l,c,h⟩:=bs h;refine rg y<|u<|mv y<|u<|nep ti y y y y y y<|u<|mv y<|g y y<|mv y<|g y y<|seq ti y y<|g y y<|mv y<|ztF (j:=5) 2 y y y y y (gps y y y) (fun d=>g y d<|mv y<|g y d<|seq ti y y<|zz (egO [11,12] 2 d y y y y)) orT<|g y y<|mv y<|ztF (x:=l) (j:=9) 4 y y y y y (gps y y y) (fun a=>by replace c:=bF a c;obtain ⟨n,m,c⟩:=bs c;obtain rfl:=sm c;exact g y a<|mv y<|g y a<|mv y<|g y a<|mv y<|g y a<|pc (zdz f i e e m) y y y<|zz (eg [15,16,17,18] 4 y y y y)) (fun hb=>(sm (bT hb c)).symm)<|u<|pk (b:=true) y y<|u<|asg y<|zz ?_
 exact RT0⟩
def zeD(a:T0)(b:List za)(c:T2):Option (Bool):=
  (cond ((!(a == [86]))&&(!(a == []))) ((zdQ b c a).bind fun d=>some (!d)) (some false)).bind fun e=>some e
instance (a:T0)(b:List za)(c:T2):PF Tryz.prog 299 [sA a,.ipt 1 [[.ipt 2 [[.isl 6 (map zb b),.imp (map (rKV (fun x=>iA x)) c)]] 0 0]] 0 0] (zeD a b c) bA:=⟨fun r h=>by
 refine zo Tryz.func299 y kz y y<|A ?_;obtain ⟨d,e,h⟩:=bs h;refine A ?_
 exact RT0⟩
def zkR(a:zj)(b:List za)(c:T2):Option (Bool):=
  (zeD a.Type_ b c).bind fun d=>some d
instance (a:zj)(b:List za)(c:T2):PF Tryz.prog 300 [.agg (zD a),.ipt 1 [[.fn (.func 299) [] [.ipt 1 [[.ipt 2 [[.isl 6 (map zb b),.imp (map (rKV (fun x=>iA x)) c)]] 0 0]] 0 0]]] 0 0] (zkR a b c) bA:=⟨fun r h=>by
 refine zo Tryz.func300 y kz y y<|A ?_;obtain ⟨d,e,h⟩:=bs h;refine A ?_
 exact RT0⟩
def zdo:Option (Int):=
  some (-1)
def zaQ(b:List zj)(c:List za)(d:T2)(a:Int):Option (Sum (Int) (Sum (Unit) (Int))):=
  cond (decide (a<(length b:Int))) ((idx b a).bind fun e=>(zkR e c d).bind fun f=>cond f (some (.inr (.inr a))) (some (.inl (IntKind.i64.wrap (a+1))))) (some (.inr (.inl ())))
def zce(a:List zj)(c:List za)(d:T2):Option (Int):=
  (zr (fun z=>zaQ a c d z) 0).bind fun o=>zQ o (fun b=>zdo) some
instance (a:List zj)(c:List za)(d:T2):PF Tryz.prog 315 [.isl 3 (map zD a),.fn (.func 300) [] [.ipt 1 [[.fn (.func 299) [] [.ipt 1 [[.ipt 2 [[.isl 6 (map zb c),.imp (map (rKV (fun x=>iA x)) d)]] 0 0]] 0 0]]] 0 0]] (zce a c d) iA:=⟨fun r h=>by
 refine zo Tryz.func315 y kz y y<|A ?_;refine zi<|A ?_;obtain ⟨o,ho,h⟩:=bs h;refine lpB ho (fun z=>[(0,.isl 3 (map zD a)),(1,.fn (.func 300) [] [.ipt 1 [[.fn (.func 299) [] [.ipt 1 [[.ipt 2 [[.isl 6 (map zb c),.imp (map (rKV (fun x=>iA x)) d)]] 0 0]] 0 0]]] 0 0]),(7,iA (length a:Int)),(8,iA z)]) (fun z=>[]) (fun b=>[]) (fun b=>[]) (pG Tryz.f315 iA) (zbZ []) ?_ ?_
 ·rintro i r h;refine A ?_;refine zi ?_;refine zeh h y (fun e h=>?_) fun e h=>?_
  ·refine zg<|zi<|zs<|A ?_;obtain ⟨j,l,m,n,h⟩:=bs2 h;refine A ?_;refine zeh h y (fun f h=>?_) fun f h=>?_
   ·refine A ?_;refine zL ?_;obtain rfl:=sm h;exact ⟨_,y,_,y,zbc []⟩
   ·refine zg<|A ?_;obtain rfl:=sm h;exact ⟨_,y,zy []⟩
  ·refine zJ ?_;obtain rfl:=sm h;exact ⟨y,_,y,zy []⟩
 ·rintro ⟨⟩ rfl;refine zA<|A ?_
  exact RT0⟩
def zao(a:List zj)(b:List za)(c:T2):Option (Bool):=
  (zce a b c).bind fun d=>some (decide (0≤d))
theorem zcR(a:List zj)(b:List za)(c:T2){r:Bool}(h:zao a b c=some r):zan Tryz.prog 234 [.isl 3 (map zD a),.fn (.func 300) [] [.ipt 1 [[.fn (.func 299) [] [.ipt 1 [[.ipt 2 [[.isl 6 (map zb b),.imp (map (rKV (fun x=>iA x)) c)]] 0 0]] 0 0]]] 0 0]] (bA r):=by
 refine zo Tryz.func234 y kz y y<|A ?_;obtain ⟨d,e,h⟩:=bs h;refine A ?_;exact RT0
instance (a:List zj)(b:List za)(c:T2):PF Tryz.prog 234 [.isl 3 (map zD a),.fn (.func 300) [] [.ipt 1 [[.fn (.func 299) [] [.ipt 1 [[.ipt 2 [[.isl 6 (map zb b),.imp (map (rKV (fun x=>iA x)) c)]] 0 0]] 0 0]]] 0 0]] (zao a b c) bA:=⟨fun _=>zcR a b c⟩
def zjl(a:zT)(b:List za)(c:T2):Option (Bool):=
  (zeD a.C b c).bind fun d=>some d
instance (a:zT)(b:List za)(c:T2):PF Tryz.prog 303 [.agg (z7 a),.ipt 1 [[.fn (.func 299) [] [.ipt 1 [[.ipt 2 [[.isl 6 (map zb b),.imp (map (rKV (fun x=>iA x)) c)]] 0 0]] 0 0]]] 0 0] (zjl a b c) bA:=⟨fun r h=>by
 refine zo Tryz.func303 y kz y y<|A ?_;obtain ⟨d,e,h⟩:=bs h;refine A ?_
 exact RT0⟩
def zdO:Option (Int):=
  some (-1)
def zaZ(b:List zT)(c:List za)(d:T2)(a:Int):Option (Sum (Int) (Sum (Unit) (Int))):=
  cond (decide (a<(length b:Int))) ((idx b a).bind fun e=>(zjl e c d).bind fun f=>cond f (some (.inr (.inr a))) (some (.inl (IntKind.i64.wrap (a+1))))) (some (.inr (.inl ())))
def zcp(a:List zT)(c:List za)(d:T2):Option (Int):=
  (zr (fun z=>zaZ a c d z) 0).bind fun o=>zQ o (fun b=>zdO) some
instance (a:List zT)(c:List za)(d:T2):PF Tryz.prog 348 [.isl 4 (map z7 a),.fn (.func 303) [] [.ipt 1 [[.fn (.func 299) [] [.ipt 1 [[.ipt 2 [[.isl 6 (map zb c),.imp (map (rKV (fun x=>iA x)) d)]] 0 0]] 0 0]]] 0 0]] (zcp a c d) iA:=⟨fun r h=>by
 refine zo Tryz.func348 y kz y y<|A ?_;refine zi<|A ?_;obtain ⟨o,ho,h⟩:=bs h;refine lpB ho (fun z=>[(0,.isl 4 (map z7 a)),(1,.fn (.func 303) [] [.ipt 1 [[.fn (.func 299) [] [.ipt 1 [[.ipt 2 [[.isl 6 (map zb c),.imp (map (rKV (fun x=>iA x)) d)]] 0 0]] 0 0]]] 0 0]),(7,iA (length a:Int)),(8,iA z)]) (fun z=>[]) (fun b=>[]) (fun b=>[]) (pG Tryz.f348 iA) (zbZ []) ?_ ?_
 ·rintro i r h;refine A ?_;refine zi ?_;refine zeh h y (fun e h=>?_) fun e h=>?_
  ·refine zg<|zi<|zs<|A ?_;obtain ⟨j,l,m,n,h⟩:=bs2 h;refine A ?_;refine zeh h y (fun f h=>?_) fun f h=>?_
   ·refine A ?_;refine zL ?_;obtain rfl:=sm h;exact ⟨_,y,_,y,zbc []⟩
   ·refine zg<|A ?_;obtain rfl:=sm h;exact ⟨_,y,zy []⟩
  ·refine zJ ?_;obtain rfl:=sm h;exact ⟨y,_,y,zy []⟩
 ·rintro ⟨⟩ rfl;refine zA<|A ?_
  exact RT0⟩
def zaY(a:List zT)(b:List za)(c:T2):Option (Bool):=
  (zcp a b c).bind fun d=>some (decide (0≤d))
instance (a:List zT)(b:List za)(c:T2):PF Tryz.prog 302 [.isl 4 (map z7 a),.fn (.func 303) [] [.ipt 1 [[.fn (.func 299) [] [.ipt 1 [[.ipt 2 [[.isl 6 (map zb b),.imp (map (rKV (fun x=>iA x)) c)]] 0 0]] 0 0]]] 0 0]] (zaY a b c) bA:=⟨fun r h=>by
 refine zo Tryz.func302 y kz y y<|A ?_;obtain ⟨d,e,h⟩:=bs h;refine A ?_
 exact RT0⟩
def zqu:Option (T0×zj×Bool):=
  some ([],(zj.mk [] [] false),false)
def zfl(i:List za)(j:T2)(l:T0)(e:T1)(a:Int):Option (Sum (Int) (Sum (Unit) (T0×zj×Bool))):=
  cond (decide (a<((length e):Int))) ((idx e a).bind fun b=>(zG i j b).bind fun c=>(zjT c.1 l).bind fun d=>cond (decide (0≤d)) ((idx c.1.Fields d).bind fun f=>some (.inr (.inr (b,f,true)))) (some (.inl (IntKind.i64.wrap (a+1))))) (some (.inr (.inl ())))
def zfy(a:List za)(c:T2)(d:T0)(e:T0):Option (T0×zj×Bool):=
  (zad a c d).bind fun f=>(zr (fun z=>zfl a c e f z) 0).bind fun o=>zQ o (fun b=>zqu) some
instance (a:List za)(c:T2)(f:T0)(d:T0):PF Tryz.prog 134 [.ipt 2 [[.isl 6 (map zb a),.imp (map (rKV (fun x=>iA x)) c)]] 0 0,sA f,sA d] (zfy a c f d) (fun r=>(.tup [sA r.1,.agg (zD r.2.1),bA r.2.2])):=⟨fun r h=>by
 refine zo Tryz.func134 y kz y y<|A ?_;refine zi ?_;obtain ⟨e,p,h⟩:=bs h;refine A ?_;refine u<|sx [] (zaf a c f p)<|zO (env0:=[(0,.ipt 2 [[.isl 6 (map zb a),.imp (map (rKV (fun x=>iA x)) c)]] 0 0),(2,sA d),(7,.mpt 0 0 0),(16,.msl 1 0 (length e))]) (st0:=[some (3,[[sA [],sA [],bA false]]),some (1,map zm e)]) (zy [.old 0,.old 1])<|A ?_;obtain ⟨o,ho,h⟩:=bs h;refine lpB ho (fun z=>[(0,.ipt 2 [[.isl 6 (map zb a),.imp (map (rKV (fun x=>iA x)) c)]] 0 0),(2,sA d),(7,.mpt 0 0 0),(16,.msl 1 0 (length e)),(17,iA ((length e):Int)),(18,iA z)]) (fun z=>[some (3,[[sA [],sA [],bA false]]),some (1,map zm e)]) (fun b=>[(7,.mpt 0 0 0)]) (fun b=>[some (3,[[sA [],sA [],bA false]])]) (pG Tryz.f134 (fun r=>.tup [sA r.1,.agg (zD r.2.1),bA r.2.2])) (zbZ [.old 0,.old 1]) ?_ ?_
 ·rintro q r h;refine A ?_;refine zi ?_;refine zeh h y (fun j h=>?_) fun j h=>?_
  ·refine zg<|zi<|zs ?_;obtain ⟨s,D,h⟩:=bs h;refine A ?_;obtain ⟨l,v,h⟩:=bs h;refine A ?_;obtain ⟨B,m,h⟩:=bs h;refine rg y<|u<|ld ti y y<|u<|mv y<|u<|pc (znK l.1 d m) y y y<|u<|asg y<|zz ?_;refine rg y<|u<|mv y<|u<|geq ti y y<|zz ?_;refine zeh h y (fun i h=>?_) fun i h=>?_
   ·obtain ⟨n,C,h⟩:=bs h;refine rdA [(6,_),(7,_),(8,_)] [some (3,[(zD n)])] [7] [0,1,2,3,4,5,6] [(6,_),(38,_),(37,_),(36,_),(35,_),(34,_),(33,_)] 1 (ze7 (z:=by exact ⟨(fun _ _=>⟨_,y,y,sto ti y y y<|⟨.any,[8],[(8,_)],y,y,y,t,zgE (z:=zbZ [.old 0])⟩⟩),t⟩)) ?_;refine zL ?_;obtain rfl:=sm h;exact ⟨_,y,_,y,zbc []⟩
   ·refine zg<|A ?_;obtain rfl:=sm h;exact ⟨_,y,zy [.old 0,.old 1]⟩
  ·refine zJ ?_;obtain rfl:=sm h;exact ⟨y,_,y,zy [.old 0]⟩
 ·rintro ⟨⟩ rfl;refine zA<|A ?_
  exact RT0⟩
def za2(a:zc):Bool:=
  (!(a.Name == [36,105,110,105,116]))
theorem zjp(a:zc){r:Bool}(h:za2 a=r):zan Tryz.prog 219 [.agg (zf a)] (bA r):=by
 refine zo Tryz.func219 y kz y y ?_;unfold za2 at h;refine A ?_;refine A ?_;refine zL ?_;obtain rfl:=h;exact ⟨_,y,zbc []⟩
instance (a:zc):PF Tryz.prog 219 [.agg (zf a)] (some (za2 a)) bA:=.of fun _=>zjp a
def zrm:Option (T0×zc×Bool):=
  some ([],(zc.mk [] [] [] false false 0 0 [] [] []),false)
def zgc(l:List za)(m:T2)(e:T1)(n:T0)(a:Int):Option (Sum (Int) (Sum (Unit) (T0×zc×Bool))):=
  cond (decide (a<(length e:Int))) ((idx e a).bind fun d=>(zG l m d).bind fun b=>(zeC b.1 n).bind fun c=>(cond (decide (0≤c)) ((idx b.1.Methods c).bind fun f=>some (za2 f)) (some false)).bind fun i=>cond i ((idx b.1.Methods c).bind fun j=>some (.inr (.inr (d,j,true)))) (some (.inl (IntKind.i64.wrap (a+1))))) (some (.inr (.inl ())))
def zjd(a:List za)(c:T2)(d:T1)(e:T0):Option (T0×zc×Bool):=
  (zr (fun z=>zgc a c d e z) 0).bind fun o=>zQ o (fun b=>zrm) some
instance (i:List za)(l:T2)(d:T1)(e:T0):PF Tryz.prog 218 [.ipt 2 [[.isl 6 (map zb i),.imp (map (rKV (fun x=>iA x)) l)]] 0 0,.isl 1 (map zm d),sA e,.fn (.func 219) [] []] (zjd i l d e) (fun r=>(.tup [sA r.1,.agg (zf r.2.1),bA r.2.2])):=⟨fun r h=>by
 refine zo Tryz.func218 y kz y y<|A ?_;refine zi<|A ?_;obtain ⟨o,ho,h⟩:=bs h;refine lpB ho (fun z=>[(0,.ipt 2 [[.isl 6 (map zb i),.imp (map (rKV (fun x=>iA x)) l)]] 0 0),(2,sA e),(3,.fn (.func 219) [] []),(9,.mpt 0 0 0),(16,.isl 1 (map zm d)),(17,iA (length d:Int)),(18,iA z)]) (fun z=>[some (10,[[sA [],.lit (.slice none 0 0),sA [],bA false,bA false,iA 0,iA 0,.lit (.slice none 0 0),.lit (.slice none 0 0),.lit (.slice none 0 0)]])]) (fun b=>[(9,.mpt 0 0 0)]) (fun b=>[some (10,[[sA [],.lit (.slice none 0 0),sA [],bA false,bA false,iA 0,iA 0,.lit (.slice none 0 0),.lit (.slice none 0 0),.lit (.slice none 0 0)]])]) (pG Tryz.f218 (fun r=>.tup [sA r.1,.agg (zf r.2.1),bA r.2.2])) (zbZ [.old 0]) ?_ ?_
 ·rintro C r h;refine A ?_;refine zi ?_;refine zeh h y (fun m h=>?_) fun m h=>?_
  ·refine zg<|zi<|zs ?_;obtain ⟨D,E,h⟩:=bs h;refine A ?_;obtain ⟨p,F,h⟩:=bs h;refine A ?_;obtain ⟨G,q,h⟩:=bs h;refine rg y<|u<|ld ti y y<|u<|mv y<|u<|pc (zf2 p.1 e q) y y y<|u<|asg y<|zz ?_;obtain ⟨s,c,h⟩:=bs h;refine rg y<|u<|mv y<|u<|geq ti y y<|u<|mv y<|zgn (x:=s) (j:=2) 7 y y y y y gpn (fun a=>by replace c:=bT a c;obtain ⟨v,f,c⟩:=bs c;obtain rfl:=sm c;exact g y a<|mv y<|g y a<|fa ti y y y<|g y a<|ld ti y y<|g y a<|mv y<|g y a<|ixI ti y ti y y y f<|g y a<|ldI ti y (zt f).2.2 y<|g y a<|pc (zjp v y) y y y<|zz (eg [34,35,36,37,38,39,40] 7 y y y y)) (fun hb=>(sm (bF hb c)).symm)<|zz ?_;refine zeh h y (fun n h=>?_) fun n h=>?_
   ·obtain ⟨B,H,h⟩:=bs h;refine rdA [(8,_),(9,_),(10,_)] [some (10,[(zf B)])] [7] [0,1,2,3,4,5,6] [(8,_),(47,_),(46,_),(45,_),(44,_),(43,_),(42,_)] 1 (ze7 (z:=by exact ⟨(fun _ _=>⟨_,y,y,sto ti y y y<|⟨.any,[8],[(10,_)],y,y,y,t,zgE (z:=zbZ [.old 0])⟩⟩),t⟩)) ?_;refine zL ?_;obtain rfl:=sm h;exact ⟨_,y,_,y,zbc []⟩
   ·refine zg<|A ?_;obtain rfl:=sm h;exact ⟨_,y,zy [.old 0]⟩
  ·refine zJ ?_;obtain rfl:=sm h;exact ⟨y,_,y,zy [.old 0]⟩
 ·rintro ⟨⟩ rfl;refine zA<|A ?_
  exact RT0⟩
def zfR(b:List za)(c:T2)(d:T0)(e:T0):Option (T0×zc×Bool):=
  (zad b c d).bind fun f=>(zjd b c f e).bind fun a=>some (a.1,a.2.1,a.2.2)
instance (a:List za)(b:T2)(d:T0)(c:T0):PF Tryz.prog 124 [.ipt 2 [[.isl 6 (map zb a),.imp (map (rKV (fun x=>iA x)) b)]] 0 0,sA d,sA c] (zfR a b d c) (fun r=>(.tup [sA r.1,.agg (zf r.2.1),bA r.2.2])):=⟨fun r h=>by
 refine zo Tryz.func124 y kz y y<|A ?_;obtain ⟨e,f,i,j,h⟩:=bs2 h;refine A ?_;refine u<|sx [] (zaf a b d f)<|zO (env0:=[(2,sA c),(7,.mpt 0 0 0),(9,.ipt 2 [[.isl 6 (map zb a),.imp (map (rKV (fun x=>iA x)) b)]] 0 0),(12,.msl 1 0 (length e))]) (st0:=[some (10,[[sA [],.lit (.slice none 0 0),sA [],bA false,bA false,iA 0,iA 0,.lit (.slice none 0 0),.lit (.slice none 0 0),.lit (.slice none 0 0)]]),some (1,map zm e)]) (zy [.old 0,.old 1])<|u<|mv y<|zO (env0:=[(7,.mpt 0 0 0),(9,.ipt 2 [[.isl 6 (map zb a),.imp (map (rKV (fun x=>iA x)) b)]] 0 0),(12,.isl 1 (map zm e)),(13,sA c)]) (st0:=[some (10,[[sA [],.lit (.slice none 0 0),sA [],bA false,bA false,iA 0,iA 0,.lit (.slice none 0 0),.lit (.slice none 0 0),.lit (.slice none 0 0)]])]) (zy [.old 0])<|A ?_
 exact RT0⟩
def zfQ(a:zc):Bool:=
  true
theorem zn1(a:zc){r:Bool}(h:zfQ a=r):zan Tryz.prog 329 [.agg (zf a)] (bA r):=by
 refine zo Tryz.func329 y kz y y ?_;unfold zfQ at h;refine A ?_;refine A ?_;refine zL ?_;obtain rfl:=h;exact ⟨_,y,zbc []⟩
instance (a:zc):PF Tryz.prog 329 [.agg (zf a)] (some (zfQ a)) bA:=.of fun _=>zn1 a
def zrn:Option (T0×zc×Bool):=
  some ([],(zc.mk [] [] [] false false 0 0 [] [] []),false)
def zgd(l:List za)(m:T2)(e:T1)(n:T0)(a:Int):Option (Sum (Int) (Sum (Unit) (T0×zc×Bool))):=
  cond (decide (a<(length e:Int))) ((idx e a).bind fun d=>(zG l m d).bind fun b=>(zeC b.1 n).bind fun c=>(cond (decide (0≤c)) ((idx b.1.Methods c).bind fun f=>some (zfQ f)) (some false)).bind fun i=>cond i ((idx b.1.Methods c).bind fun j=>some (.inr (.inr (d,j,true)))) (some (.inl (IntKind.i64.wrap (a+1))))) (some (.inr (.inl ())))
def zkH(a:List za)(c:T2)(d:T1)(e:T0):Option (T0×zc×Bool):=
  (zr (fun z=>zgd a c d e z) 0).bind fun o=>zQ o (fun b=>zrn) some
instance (i:List za)(l:T2)(d:T1)(e:T0):PF Tryz.prog 218 [.ipt 2 [[.isl 6 (map zb i),.imp (map (rKV (fun x=>iA x)) l)]] 0 0,.isl 1 (map zm d),sA e,.fn (.func 329) [] []] (zkH i l d e) (fun r=>(.tup [sA r.1,.agg (zf r.2.1),bA r.2.2])):=⟨fun r h=>by
 refine zo Tryz.func218 y kz y y<|A ?_;refine zi<|A ?_;obtain ⟨o,ho,h⟩:=bs h;refine lpB ho (fun z=>[(0,.ipt 2 [[.isl 6 (map zb i),.imp (map (rKV (fun x=>iA x)) l)]] 0 0),(2,sA e),(3,.fn (.func 329) [] []),(9,.mpt 0 0 0),(16,.isl 1 (map zm d)),(17,iA (length d:Int)),(18,iA z)]) (fun z=>[some (10,[[sA [],.lit (.slice none 0 0),sA [],bA false,bA false,iA 0,iA 0,.lit (.slice none 0 0),.lit (.slice none 0 0),.lit (.slice none 0 0)]])]) (fun b=>[(9,.mpt 0 0 0)]) (fun b=>[some (10,[[sA [],.lit (.slice none 0 0),sA [],bA false,bA false,iA 0,iA 0,.lit (.slice none 0 0),.lit (.slice none 0 0),.lit (.slice none 0 0)]])]) (pG Tryz.f218 (fun r=>.tup [sA r.1,.agg (zf r.2.1),bA r.2.2])) (zbZ [.old 0]) ?_ ?_
 ·rintro C r h;refine A ?_;refine zi ?_;refine zeh h y (fun m h=>?_) fun m h=>?_
  ·refine zg<|zi<|zs ?_;obtain ⟨D,E,h⟩:=bs h;refine A ?_;obtain ⟨p,F,h⟩:=bs h;refine A ?_;obtain ⟨G,q,h⟩:=bs h;refine rg y<|u<|ld ti y y<|u<|mv y<|u<|pc (zf2 p.1 e q) y y y<|u<|asg y<|zz ?_;obtain ⟨s,c,h⟩:=bs h;refine rg y<|u<|mv y<|u<|geq ti y y<|u<|mv y<|zgn (x:=s) (j:=2) 7 y y y y y gpn (fun a=>by replace c:=bT a c;obtain ⟨v,f,c⟩:=bs c;obtain rfl:=sm c;exact g y a<|mv y<|g y a<|fa ti y y y<|g y a<|ld ti y y<|g y a<|mv y<|g y a<|ixI ti y ti y y y f<|g y a<|ldI ti y (zt f).2.2 y<|g y a<|pc (zn1 v y) y y y<|zz (eg [34,35,36,37,38,39,40] 7 y y y y)) (fun hb=>(sm (bF hb c)).symm)<|zz ?_;refine zeh h y (fun n h=>?_) fun n h=>?_
   ·obtain ⟨B,H,h⟩:=bs h;refine rdA [(8,_),(9,_),(10,_)] [some (10,[(zf B)])] [7] [0,1,2,3,4,5,6] [(8,_),(47,_),(46,_),(45,_),(44,_),(43,_),(42,_)] 1 (ze7 (z:=by exact ⟨(fun _ _=>⟨_,y,y,sto ti y y y<|⟨.any,[8],[(10,_)],y,y,y,t,zgE (z:=zbZ [.old 0])⟩⟩),t⟩)) ?_;refine zL ?_;obtain rfl:=sm h;exact ⟨_,y,_,y,zbc []⟩
   ·refine zg<|A ?_;obtain rfl:=sm h;exact ⟨_,y,zy [.old 0]⟩
  ·refine zJ ?_;obtain rfl:=sm h;exact ⟨y,_,y,zy [.old 0]⟩
 ·rintro ⟨⟩ rfl;refine zA<|A ?_
  exact RT0⟩
def zh8(a:List za)(b:T2)(c:T0)(e:T0):Option (T0×zc×Bool):=
  (zG a b c).bind fun f=>cond (!f.1.Interface) (some ([],(zc.mk [] [] [] false false 0 0 [] [] []),false)) ((zec a b c).bind fun i=>(zhj 16 [c] i).bind fun j=>(zkH a b j e).bind fun d=>some (d.1,d.2.1,d.2.2))
instance (a:List za)(b:T2)(c:T0)(d:T0):PF Tryz.prog 252 [.ipt 2 [[.isl 6 (map zb a),.imp (map (rKV (fun x=>iA x)) b)]] 0 0,sA c,sA d] (zh8 a b c d) (fun r=>(.tup [sA r.1,.agg (zf r.2.1),bA r.2.2])):=⟨fun r h=>by
 refine zo Tryz.func252 y kz y y<|A ?_;obtain ⟨n,o,h⟩:=bs h;refine A ?_;refine zi<|A ?_;refine zeh h y (fun e h=>?_) fun e h=>?_
 ·refine A ?_;exact RT0
 ·refine zg ?_;obtain ⟨p,i,j,m,q,s,h⟩:=bs3 h;refine A ?_;refine u<|sx [] (zhb a b c i)<|u<|apM (l:=[c]) (f:=zm) 4 ti y ti y y (by decide) ti y y y y (roM y) (fun _=>y) y m<|u<|mv y<|zO (env0:=[(7,.mpt 0 0 0),(21,.ipt 2 [[.isl 6 (map zb a),.imp (map (rKV (fun x=>iA x)) b)]] 0 0),(27,.isl 1 (map zm j)),(28,sA d)]) (st0:=[some (10,[[sA [],.lit (.slice none 0 0),sA [],bA false,bA false,iA 0,iA 0,.lit (.slice none 0 0),.lit (.slice none 0 0),.lit (.slice none 0 0)]])]) (zy [.old 0])<|A ?_
  exact RT0⟩
def zf9(a:Bool):Option (Bool):=
  some a
def zg8(b:List za)(c:T2)(a:zn)(d:za×Bool)(e:Bool):Option (Bool):=
  cond e ((zfR b c a.C a.M).bind fun f=>zf9 (f.2.2&&(!d.1.Interface))) (cond (a.Op == (45:Int)) ((zh8 b c a.C a.M).bind fun i=>zf9 i.2.2) (zf9 true))
def zf8(b:List za)(c:T2)(a:zn)(d:za×Bool)(e:Bool):Option (Bool):=
  cond e ((zfy b c a.C a.M).bind fun f=>zf9 f.2.2) (cond (a.Op == (42:Int)) (zg8 b c a d (a.Op == (42:Int))) (cond (a.Op == (43:Int)) (zg8 b c a d (a.Op == (43:Int))) (zg8 b c a d (a.Op == (44:Int)))))
def zkz(b:List za)(c:T2)(a:zn):Option (Bool):=
  (zG b c a.C).bind fun d=>cond (a.Op == (38:Int)) (zf8 b c a d (a.Op == (38:Int))) (cond (a.Op == (39:Int)) (zf8 b c a d (a.Op == (39:Int))) (cond (a.Op == (40:Int)) (zf8 b c a d (a.Op == (40:Int))) (zf8 b c a d (a.Op == (41:Int)))))
instance (b:List za)(c:T2)(a:zn):PF Tryz.prog 306 [.ipt 2 [[.isl 6 (map zb b),.imp (map (rKV (fun x=>iA x)) c)]] 0 0,.agg (zv a)] (zkz b c a) bA:=⟨fun r h=>by
 refine zo Tryz.func306 y kz y y<|A ?_;obtain ⟨d,D,h⟩:=bs h;refine A ?_;refine A ?_;refine zbG (X:=Bool) (fun z=>[(7,bA z)]) (fun z=>[]) (fun z=>zf9 z=some r) ?_ ?_
 ·refine A ?_;refine zs ?_;refine zbG (X:=Bool) (fun z=>[(0,.ipt 2 [[.isl 6 (map zb b),.imp (map (rKV (fun x=>iA x)) c)]] 0 0),(3,.mpt 0 0 0),(5,.mpt 1 0 0),(7,bA true),(16,iA a.Op),(17,bA z)]) (fun z=>[some (4,[(zv a)]),some (6,[(zb d.1)])]) (fun z=>zf8 b c a d z=some r) ?_ ?_
  ·refine A ?_;refine zeh h y (fun f h=>?_) fun f h=>?_
   ·refine zg ?_;exact ⟨(a.Op == (38:Int)),h,zy [.old 0,.old 1]⟩
   ·refine A ?_;refine zeh h y (fun i h=>?_) fun i h=>?_
    ·refine zg ?_;exact ⟨(a.Op == (39:Int)),h,zy [.old 0,.old 1]⟩
    ·refine A ?_;refine zeh h y (fun j h=>?_) fun j h=>?_
     ·refine zg ?_;exact ⟨(a.Op == (40:Int)),h,zy [.old 0,.old 1]⟩
     ·refine A ?_;exact (⟨(a.Op == (41:Int)),h,zy [.old 0,.old 1]⟩)
  ·rintro E h;refine zeh h y (fun l h=>?_) fun l h=>?_
   ·obtain ⟨p,F,h⟩:=bs h;refine A ?_;exact (⟨p.2.2,h,zy []⟩)
   ·refine zbG (X:=Bool) (fun z=>[(0,.ipt 2 [[.isl 6 (map zb b),.imp (map (rKV (fun x=>iA x)) c)]] 0 0),(3,.mpt 0 0 0),(5,.mpt 1 0 0),(7,bA true),(16,iA a.Op),(32,bA z)]) (fun z=>[some (4,[(zv a)]),some (6,[(zb d.1)])]) (fun z=>zg8 b c a d z=some r) ?_ ?_
    ·refine A ?_;refine zeh h y (fun m h=>?_) fun m h=>?_
     ·refine zg ?_;exact ⟨(a.Op == (42:Int)),h,zy [.old 0,.old 1]⟩
     ·refine A ?_;refine zeh h y (fun n h=>?_) fun n h=>?_
      ·refine zg ?_;exact ⟨(a.Op == (43:Int)),h,zy [.old 0,.old 1]⟩
      ·refine A ?_;exact (⟨(a.Op == (44:Int)),h,zy [.old 0,.old 1]⟩)
    ·rintro G h;refine zeh h y (fun o h=>?_) fun o h=>?_
     ·obtain ⟨q,v,h⟩:=bs h;refine A ?_;refine A ?_;exact (⟨(q.2.2&&(!d.1.Interface)),h,zy []⟩)
     ·refine A ?_;refine zeh h y (fun e h=>?_) fun e h=>?_
      ·obtain ⟨s,B,h⟩:=bs h;refine A ?_;exact (⟨s.2.2,h,zy []⟩)
      ·refine zg ?_;exact ⟨true,h,zy []⟩
 ·rintro C h;refine A ?_
  exact RT0⟩
def zhJ(a:zn)(b:List za)(c:T2)(d:List za)(e:T2):Option (Bool):=
  (zeD a.C b c).bind fun f=>(cond f (some true) ((zkz d e a).bind fun i=>some (!i))).bind fun j=>some j
instance (a:zn)(b:List za)(c:T2)(d:List za)(e:T2):PF Tryz.prog 305 [.agg (zv a),.ipt 1 [[.fn (.func 299) [] [.ipt 1 [[.ipt 2 [[.isl 6 (map zb b),.imp (map (rKV (fun x=>iA x)) c)]] 0 0]] 0 0]]] 0 0,.ipt 1 [[.ipt 2 [[.isl 6 (map zb d),.imp (map (rKV (fun x=>iA x)) e)]] 0 0]] 0 0] (zhJ a b c d e) bA:=⟨fun r h=>by
 refine zo Tryz.func305 y kz y y<|A ?_;obtain ⟨f,i,j,l,h⟩:=bs2 h;refine A ?_
 exact RT0⟩
def zek:Option (Int):=
  some (-1)
def za8(b:List zn)(e:List za)(f:T2)(i:List za)(j:T2)(a:Int):Option (Sum (Int) (Sum (Unit) (Int))):=
  cond (decide (a<(length b:Int))) ((idx b a).bind fun c=>(zhJ c e f i j).bind fun d=>cond d (some (.inr (.inr a))) (some (.inl (IntKind.i64.wrap (a+1))))) (some (.inr (.inl ())))
def zcJ(a:List zn)(c:List za)(d:T2)(e:List za)(f:T2):Option (Int):=
  (zr (fun z=>za8 a c d e f z) 0).bind fun o=>zQ o (fun b=>zek) some
instance (a:List zn)(c:List za)(d:T2)(e:List za)(f:T2):PF Tryz.prog 349 [.isl 4 (map zv a),.fn (.func 305) [] [.ipt 1 [[.fn (.func 299) [] [.ipt 1 [[.ipt 2 [[.isl 6 (map zb c),.imp (map (rKV (fun x=>iA x)) d)]] 0 0]] 0 0]]] 0 0,.ipt 1 [[.ipt 2 [[.isl 6 (map zb e),.imp (map (rKV (fun x=>iA x)) f)]] 0 0]] 0 0]] (zcJ a c d e f) iA:=⟨fun r h=>by
 refine zo Tryz.func349 y kz y y<|A ?_;refine zi<|A ?_;obtain ⟨o,ho,h⟩:=bs h;refine lpB ho (fun z=>[(0,.isl 4 (map zv a)),(1,.fn (.func 305) [] [.ipt 1 [[.fn (.func 299) [] [.ipt 1 [[.ipt 2 [[.isl 6 (map zb c),.imp (map (rKV (fun x=>iA x)) d)]] 0 0]] 0 0]]] 0 0,.ipt 1 [[.ipt 2 [[.isl 6 (map zb e),.imp (map (rKV (fun x=>iA x)) f)]] 0 0]] 0 0]),(7,iA (length a:Int)),(8,iA z)]) (fun z=>[]) (fun b=>[]) (fun b=>[]) (pG Tryz.f349 iA) (zbZ []) ?_ ?_
 ·rintro n r h;refine A ?_;refine zi ?_;refine zeh h y (fun i h=>?_) fun i h=>?_
  ·refine zg<|zi<|zs<|A ?_;obtain ⟨l,p,m,q,h⟩:=bs2 h;refine A ?_;refine zeh h y (fun j h=>?_) fun j h=>?_
   ·refine A ?_;refine zL ?_;obtain rfl:=sm h;exact ⟨_,y,_,y,zbc []⟩
   ·refine zg<|A ?_;obtain rfl:=sm h;exact ⟨_,y,zy []⟩
  ·refine zJ ?_;obtain rfl:=sm h;exact ⟨y,_,y,zy []⟩
 ·rintro ⟨⟩ rfl;refine zA<|A ?_
  exact RT0⟩
def za7(a:List zn)(b:List za)(c:T2)(d:List za)(e:T2):Option (Bool):=
  (zcJ a b c d e).bind fun f=>some (decide (0≤f))
instance (a:List zn)(b:List za)(c:T2)(d:List za)(e:T2):PF Tryz.prog 304 [.isl 4 (map zv a),.fn (.func 305) [] [.ipt 1 [[.fn (.func 299) [] [.ipt 1 [[.ipt 2 [[.isl 6 (map zb b),.imp (map (rKV (fun x=>iA x)) c)]] 0 0]] 0 0]]] 0 0,.ipt 1 [[.ipt 2 [[.isl 6 (map zb d),.imp (map (rKV (fun x=>iA x)) e)]] 0 0]] 0 0]] (za7 a b c d e) bA:=⟨fun r h=>by
 refine zo Tryz.func304 y kz y y<|A ?_;obtain ⟨f,i,h⟩:=bs h;refine A ?_
 exact RT0⟩
def zeS:Option (Int):=
  some (-1)
def zbu(b:T1)(c:List za)(d:T2)(a:Int):Option (Sum (Int) (Sum (Unit) (Int))):=
  cond (decide (a<(length b:Int))) ((idx b a).bind fun e=>(zeD e c d).bind fun f=>cond f (some (.inr (.inr a))) (some (.inl (IntKind.i64.wrap (a+1))))) (some (.inr (.inl ())))
def zdd(a:T1)(c:List za)(d:T2):Option (Int):=
  (zr (fun z=>zbu a c d z) 0).bind fun o=>zQ o (fun b=>zeS) some
instance (a:T1)(c:List za)(d:T2):PF Tryz.prog 181 [.isl 1 (map zm a),.fn (.func 299) [] [.ipt 1 [[.ipt 2 [[.isl 6 (map zb c),.imp (map (rKV (fun x=>iA x)) d)]] 0 0]] 0 0]] (zdd a c d) iA:=⟨fun r h=>by
 refine zo Tryz.func181 y kz y y<|A ?_;refine zi<|A ?_;obtain ⟨o,ho,h⟩:=bs h;refine lpB ho (fun z=>[(0,.isl 1 (map zm a)),(1,.fn (.func 299) [] [.ipt 1 [[.ipt 2 [[.isl 6 (map zb c),.imp (map (rKV (fun x=>iA x)) d)]] 0 0]] 0 0]),(7,iA (length a:Int)),(8,iA z)]) (fun z=>[]) (fun b=>[]) (fun b=>[]) (pG Tryz.f181 iA) (zbZ []) ?_ ?_
 ·rintro i r h;refine A ?_;refine zi ?_;refine zeh h y (fun e h=>?_) fun e h=>?_
  ·refine zg<|zi<|zs<|A ?_;obtain ⟨j,l,m,n,h⟩:=bs2 h;refine A ?_;refine zeh h y (fun f h=>?_) fun f h=>?_
   ·refine A ?_;refine zL ?_;obtain rfl:=sm h;exact ⟨_,y,_,y,zbc []⟩
   ·refine zg<|A ?_;obtain rfl:=sm h;exact ⟨_,y,zy []⟩
  ·refine zJ ?_;obtain rfl:=sm h;exact ⟨y,_,y,zy []⟩
 ·rintro ⟨⟩ rfl;refine zA<|A ?_
  exact RT0⟩
def zbn(a:T1)(b:List za)(c:T2):Option (Bool):=
  (zdd a b c).bind fun d=>some (decide (0≤d))
instance (a:T1)(b:List za)(c:T2):PF Tryz.prog 99 [.isl 1 (map zm a),.fn (.func 299) [] [.ipt 1 [[.ipt 2 [[.isl 6 (map zb b),.imp (map (rKV (fun x=>iA x)) c)]] 0 0]] 0 0]] (zbn a b c) bA:=⟨fun r h=>by
 refine zo Tryz.func99 y kz y y<|A ?_;obtain ⟨d,e,h⟩:=bs h;refine A ?_
 exact RT0⟩
def ziY(a:zc)(b:List za)(c:T2)(e:List za)(f:T2):Option (Bool):=
  (zaY a.Traps b c).bind fun i=>(za7 a.Code b c e f).bind fun j=>(zeD a.Ret b c).bind fun l=>(cond l (some true) ((zbn a.Params b c).bind fun m=>some m)).bind fun d=>some ((d||i)||j)
instance (a:zc)(b:List za)(c:T2)(d:List za)(e:T2):PF Tryz.prog 301 [.agg (zf a),.ipt 1 [[.fn (.func 299) [] [.ipt 1 [[.ipt 2 [[.isl 6 (map zb b),.imp (map (rKV (fun x=>iA x)) c)]] 0 0]] 0 0]]] 0 0,.ipt 1 [[.ipt 2 [[.isl 6 (map zb d),.imp (map (rKV (fun x=>iA x)) e)]] 0 0]] 0 0] (ziY a b c d e) bA:=⟨fun r h=>by
 refine zo Tryz.func301 y kz y y<|A ?_;obtain ⟨i,j,h⟩:=bs h;refine A ?_;obtain ⟨l,m,h⟩:=bs h;refine A ?_;obtain ⟨n,o,f,p,h⟩:=bs2 h;refine A ?_
 exact RT0⟩
def zcX:Option (Int):=
  some (-1)
def zaB(b:List zc)(e:List za)(f:T2)(i:List za)(j:T2)(a:Int):Option (Sum (Int) (Sum (Unit) (Int))):=
  cond (decide (a<(length b:Int))) ((idx b a).bind fun c=>(ziY c e f i j).bind fun d=>cond d (some (.inr (.inr a))) (some (.inl (IntKind.i64.wrap (a+1))))) (some (.inr (.inl ())))
def zbS(a:List zc)(c:List za)(d:T2)(e:List za)(f:T2):Option (Int):=
  (zr (fun z=>zaB a c d e f z) 0).bind fun o=>zQ o (fun b=>zcX) some
instance (a:List zc)(c:List za)(d:T2)(e:List za)(f:T2):PF Tryz.prog 225 [.isl 10 (map zf a),.fn (.func 301) [] [.ipt 1 [[.fn (.func 299) [] [.ipt 1 [[.ipt 2 [[.isl 6 (map zb c),.imp (map (rKV (fun x=>iA x)) d)]] 0 0]] 0 0]]] 0 0,.ipt 1 [[.ipt 2 [[.isl 6 (map zb e),.imp (map (rKV (fun x=>iA x)) f)]] 0 0]] 0 0]] (zbS a c d e f) iA:=⟨fun r h=>by
 refine zo Tryz.func225 y kz y y<|A ?_;refine zi<|A ?_;obtain ⟨o,ho,h⟩:=bs h;refine lpB ho (fun z=>[(0,.isl 10 (map zf a)),(1,.fn (.func 301) [] [.ipt 1 [[.fn (.func 299) [] [.ipt 1 [[.ipt 2 [[.isl 6 (map zb c),.imp (map (rKV (fun x=>iA x)) d)]] 0 0]] 0 0]]] 0 0,.ipt 1 [[.ipt 2 [[.isl 6 (map zb e),.imp (map (rKV (fun x=>iA x)) f)]] 0 0]] 0 0]),(7,iA (length a:Int)),(8,iA z)]) (fun z=>[]) (fun b=>[]) (fun b=>[]) (pG Tryz.f225 iA) (zbZ []) ?_ ?_
 ·rintro n r h;refine A ?_;refine zi ?_;refine zeh h y (fun i h=>?_) fun i h=>?_
  ·refine zg<|zi<|zs<|A ?_;obtain ⟨l,p,m,q,h⟩:=bs2 h;refine A ?_;refine zeh h y (fun j h=>?_) fun j h=>?_
   ·refine A ?_;refine zL ?_;obtain rfl:=sm h;exact ⟨_,y,_,y,zbc []⟩
   ·refine zg<|A ?_;obtain rfl:=sm h;exact ⟨_,y,zy []⟩
  ·refine zJ ?_;obtain rfl:=sm h;exact ⟨y,_,y,zy []⟩
 ·rintro ⟨⟩ rfl;refine zA<|A ?_
  exact RT0⟩
def zag(a:List zc)(b:List za)(c:T2)(d:List za)(e:T2):Option (Bool):=
  (zbS a b c d e).bind fun f=>some (decide (0≤f))
theorem zcv(a:List zc)(b:List za)(c:T2)(d:List za)(e:T2){r:Bool}(h:zag a b c d e=some r):zan Tryz.prog 239 [.isl 10 (map zf a),.fn (.func 301) [] [.ipt 1 [[.fn (.func 299) [] [.ipt 1 [[.ipt 2 [[.isl 6 (map zb b),.imp (map (rKV (fun x=>iA x)) c)]] 0 0]] 0 0]]] 0 0,.ipt 1 [[.ipt 2 [[.isl 6 (map zb d),.imp (map (rKV (fun x=>iA x)) e)]] 0 0]] 0 0]] (bA r):=by
 refine zo Tryz.func239 y kz y y<|A ?_;obtain ⟨f,i,h⟩:=bs h;refine A ?_;exact RT0
instance (a:List zc)(b:List za)(c:T2)(d:List za)(e:T2):PF Tryz.prog 239 [.isl 10 (map zf a),.fn (.func 301) [] [.ipt 1 [[.fn (.func 299) [] [.ipt 1 [[.ipt 2 [[.isl 6 (map zb b),.imp (map (rKV (fun x=>iA x)) c)]] 0 0]] 0 0]]] 0 0,.ipt 1 [[.ipt 2 [[.isl 6 (map zb d),.imp (map (rKV (fun x=>iA x)) e)]] 0 0]] 0 0]] (zag a b c d e) bA:=⟨fun _=>zcv a b c d e⟩
def zi9(a:List za)(b:T2)(c:za):Option (Bool):=
  (zao c.Fields a b).bind fun d=>(zag c.Methods a b a b).bind fun e=>some ((!d)&&(!e))
theorem zmC(a:List za)(b:T2)(c:za){r:Bool}(h:zi9 a b c=some r):zan Tryz.prog 213 [.ipt 2 [[.isl 6 (map zb a),.imp (map (rKV (fun x=>iA x)) b)]] 0 0,.agg (zb c)] (bA r):=by
 refine zo Tryz.func213 y kz y y<|A ?_;refine A ?_;obtain ⟨f,d,h⟩:=bs h;refine A ?_;refine u<|pcs (zcR c.Fields a b d) y y (.cons (si y) (.cons (zfW t ⟨(zay y ⟨(zfW t ⟨(zay y ⟨(si y),t⟩),t⟩),t⟩),t⟩) .nil)) za9<|A ?_;obtain ⟨i,e,h⟩:=bs h;refine A ?_;refine u<|pcs (zcv c.Methods a b a b e) y y (.cons (si y) (.cons (zfW t ⟨(zay y ⟨(zfW t ⟨(zay y ⟨(si y),t⟩),t⟩),t⟩),(zay y ⟨(si y),t⟩),t⟩) .nil)) za9<|A ?_;refine A ?_;exact RT0
instance (a:List za)(b:T2)(c:za):PF Tryz.prog 213 [.ipt 2 [[.isl 6 (map zb a),.imp (map (rKV (fun x=>iA x)) b)]] 0 0,.agg (zb c)] (zi9 a b c) bA:=⟨fun _=>zmC a b c⟩

end
end Go.Proofs.YthmnlfenkhmmhaaGreat
