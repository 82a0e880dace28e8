/- VerifyTurn: for every input the law returns true, and each argument reads as it read before. No further condition. Part 3 of 8. -/
import Derived.Test.YthmnlfenkhmmhaaGreatTv2
namespace Go.Proofs.YthmnlfenkhmmhaaGreat
noncomputable section
open List (length map)
set_option linter.unusedVariables false
set_option linter.unusedSectionVars false
set_option linter.unusedSimpArgs false
set_option maxRecDepth 100000
set_option maxHeartbeats 4000000
variable [Flo]
structure Zz(q:Prop):Prop where
 z:q
inductive LsE:List AV→List AV→Prop
 |nil:LsE [] []
 |cons {x:AV} {l l':List AV}:LsE l l'→LsE (x ::l) (x ::l')
theorem LsE.eq{l l':List AV}(h:LsE l l'):l=l':=by
 induction h with
 |nil=>rfl
 |cons _ ih=>rw [ih]
section
variable {P : Program} {env : Ev} {st : St} {d : Nat} {ty : TypeId} {pos : String} {aft : Array Edge} {gu : Option (Nat × Bool)} {K : Ev → St → Prop}
theorem ldR{t:TypeId}{x:Operand}{ti:TI}{p:AV}{r:List AV}(ht:zbd P t=some ti)(hx:ev env x=some p)(hr:zoZ st p=some (r,0))(hv:zs7 ti r 0=some (.agg r))(k:K ((d,.agg r)::env) st):SOp P ⟨some d,.load t x,ty,pos,aft,gu⟩ env st K:=ld ht hx ((zoc hr).trans hv) k
theorem ldJ{α:Type}{t:TypeId}{x:Operand}{ti:TI}{sz i:Nat}{l:List α}{f:α→List AV}{c:α}(ht:zbd P t=some ti)(hx:ev env x=some (.ipt sz (l.map f) i 0))(h:l[i]?=some c)(hv:zs7 ti (f c) 0=some (.agg (f c)))(k:K ((d,.agg (f c))::env) st):SOp P ⟨some d,.load t x,ty,pos,aft,gu⟩ env st K:=ldI ht hx h hv k
theorem ldQ{α:Type}{t:TypeId}{x:Operand}{ti:TI}{sz b i:Nat}{l:List α}{f:α→List AV}{c:α}(ht:zbd P t=some ti)(hx:ev env x=some (.mpt b i 0))(hb:st[b]?=some (some (sz,l.map f)))(h:l[i]?=some c)(hv:zs7 ti (f c) 0=some (.agg (f c)))(k:K ((d,.agg (f c))::env) st):SOp P ⟨some d,.load t x,ty,pos,aft,gu⟩ env st K:=ldM ht hx hb h hv k
theorem gLd{t:TypeId}{x:Operand}(h:SOp P ⟨some d,.load t x,ty,pos,aft,gu⟩ env st K):SOp P ⟨some d,.load t x,ty,pos,aft,gu⟩ env st K:=h
theorem zDi{o:BinOp}{t u':TypeId}{x y:Operand}(h:SOp P ⟨some d,.binOp o t x y u',ty,pos,aft,gu⟩ env st K):SOp P ⟨some d,.binOp o t x y u',ty,pos,aft,gu⟩ env st K:=h
theorem zCy{c:Call}(h:SOp P ⟨some d,.call c,ty,pos,aft,gu⟩ env st K):SOp P ⟨some d,.call c,ty,pos,aft,gu⟩ env st K:=h
theorem gPk{c x y:Operand}(h:SOp P ⟨some d,.pick c x y,ty,pos,aft,gu⟩ env st K):SOp P ⟨some d,.pick c x y,ty,pos,aft,gu⟩ env st K:=h
theorem gIx{t:TypeId}{x y:Operand}(h:SOp P ⟨some d,.indexAddr t x y,ty,pos,aft,gu⟩ env st K):SOp P ⟨some d,.indexAddr t x y,ty,pos,aft,gu⟩ env st K:=h
end
class PF(P:Program)(f:FuncId)(args:List AV){R:outParam Type}(m:outParam (Option R))(enc:outParam (R→AV)):Prop where
 ok:∀r,m=some r→zaF P f args (enc r)
theorem PF.of{P:Program}{f:FuncId}{args:List AV}{R:Type}{x:R}{enc:R→AV}(h:∀r,x=r→zaF P f args (enc r)):PF P f args (some x) enc:=⟨fun r e=>h r (Option.some.inj e)⟩
theorem pcI{P:Program}{env:Ev}{st:St}{d:Nat}{ty:TypeId}{pos:String}{aft:Array Edge}{gu:Option (Nat×Bool)}{K:Ev→St→Prop}{c:Call}{g:FuncId}{args args':List AV}{R:Type}{m:Option R}{enc:R→AV}{r:R}(hc:zfi (.call c)=true)(hg:zmh env (.call c)=some (g,args))(he:LsE args args')(hi:zgz args'=true)(pf:PF P g args' m enc)(q:m=some r)
  (k:K ((d,enc r)::env) st):SOp P ⟨some d,.call c,ty,pos,aft,gu⟩ env st K:=by
 have e:=he.eq
 subst e
 exact pc (pf.ok r q) hc hg hi k
theorem opS{p q:Prop}(z:q)(h:Zz q→p:=by (intro z;(first |((with_reducible apply mv);exact rfl) |((with_reducible apply fa);exact ti;exact rfl;exact rfl;exact rfl) |((with_reducible apply gLd);(first |((with_reducible apply ldR);exact ti;exact rfl;exact rfl;exact rfl) |((with_reducible apply ldJ);exact ti;exact rfl;exact (zm (by assumption)).2.2;exact rfl) |((with_reducible apply ldQ);exact ti;exact rfl;exact rfl;exact (zm (by assumption)).2.2;exact rfl) |((with_reducible apply ld);exact ti;exact rfl;exact rfl) |((with_reducible apply ldI);exact ti;exact rfl;exact (zm (by assumption)).2.2;exact rfl) |((with_reducible apply ldM);exact ti;exact rfl;exact rfl;exact (zm (by assumption)).2.2;exact rfl))) |((with_reducible apply asg);exact rfl) |((with_reducible apply zDi);(first |((with_reducible apply eql);exact ti;exact rfl;exact rfl) |((with_reducible apply lss);exact ti;exact rfl;exact rfl) |((with_reducible apply geq);exact ti;exact rfl;exact rfl) |((with_reducible apply seq);exact ti;exact rfl;exact rfl) |((with_reducible apply add);exact ti;exact rfl;exact rfl) |((with_reducible apply leq);exact ti;exact rfl;exact rfl) |((with_reducible apply sne);exact ti;exact rfl;exact rfl) |((with_reducible apply gtr);exact ti;exact rfl;exact rfl) |((with_reducible apply neq);exact ti;exact rfl;exact rfl) |((with_reducible apply sub);exact ti;exact rfl;exact rfl) |((with_reducible apply mul);exact ti;exact rfl;exact rfl) |((with_reducible apply beq);exact ti;exact rfl;exact rfl;exact rfl) |((with_reducible apply bne);exact ti;exact rfl;exact rfl;exact rfl) |((with_reducible apply slt);exact ti;exact rfl;exact rfl) |((with_reducible apply quo);exact ti;exact rfl;exact rfl;exact (by assumption)) |((with_reducible apply rem);exact ti;exact rfl;exact rfl;exact (by assumption)) |((with_reducible apply zDB);exact ti;exact rfl;exact rfl;exact (by assumption)) |((with_reducible apply shl);exact ti;exact rfl;exact rfl;exact (by assumption)) |((with_reducible apply shr);exact ti;exact rfl;exact rfl;exact (by assumption)) |((with_reducible apply nep);exact ti;exact rfl;exact rfl;exact rfl;exact rfl;exact rfl;exact rfl) |((with_reducible apply eqp);exact ti;exact rfl;exact rfl;exact rfl;exact rfl;exact rfl;exact rfl))) |((with_reducible apply zCy);(first |((with_reducible apply lnI);exact ti;exact rfl;exact rfl) |((with_reducible apply lnS);exact ti;exact rfl;exact rfl) |((with_reducible apply lnM);exact ti;exact rfl;exact rfl;exact rfl) |((with_reducible apply lnN);exact ti;exact rfl;exact rfl) |((with_reducible apply pcI);exact rfl;exact rfl;(repeat (first |exact LsE.nil |apply LsE.cons));exact rfl;exact inferInstance;(first |with_reducible exact rfl |assumption)))) |((with_reducible apply nc);exact rfl;exact rfl) |((with_reducible apply ex);exact rfl;exact rfl) |((with_reducible apply nt);exact rfl) |((with_reducible apply sto);exact ti;exact rfl;exact rfl;exact rfl) |((with_reducible apply gIx);(first |((with_reducible apply ixI);exact ti;exact rfl;exact ti;exact rfl;exact rfl;exact rfl;exact (by assumption)) |((with_reducible apply ixM);exact ti;exact rfl;exact ti;exact rfl;exact rfl;exact rfl;exact rfl;exact (by assumption)))) |((with_reducible apply ixS);exact ti;exact rfl;exact rfl;exact rfl;exact (by assumption)) |((with_reducible apply bd);exact ti;exact rfl;exact rfl;exact rfl) |((with_reducible apply mf);exact rfl;exact rfl) |((with_reducible apply fdV);exact rfl;exact rfl) |((with_reducible apply al);exact ti;(first |exact (rfl:_=0) |exact (rfl:_=1) |exact (rfl:_=2) |exact (rfl:_=3) |exact (rfl:_=4) |exact (rfl:_=5) |exact (rfl:_=6) |exact (rfl:_=7) |exact (rfl:_=8))) |((with_reducible apply bx);exact rfl;exact rfl;(first |exact (rfl:_=1) |exact (rfl:_=2) |exact (rfl:_=3) |exact (rfl:_=4) |exact (rfl:_=5) |exact (rfl:_=6) |exact (rfl:_=7) |exact (rfl:_=8) |exact (rfl:_=9) |exact (rfl:_=10) |exact (rfl:_=11) |exact (rfl:_=12) |exact (rfl:_=13) |exact (rfl:_=14) |exact (rfl:_=15) |exact (rfl:_=16));(first |exact (rfl:_=0) |exact (rfl:_=1) |exact (rfl:_=2) |exact (rfl:_=3) |exact (rfl:_=4) |exact (rfl:_=5) |exact (rfl:_=6) |exact (rfl:_=7) |exact (rfl:_=8))) |((with_reducible apply bl);exact ti;exact rfl;exact ti;(first |exact (rfl:_=1) |exact (rfl:_=2) |exact (rfl:_=3) |exact (rfl:_=4) |exact (rfl:_=5) |exact (rfl:_=6) |exact (rfl:_=7) |exact (rfl:_=8) |exact (rfl:_=9) |exact (rfl:_=10) |exact (rfl:_=11) |exact (rfl:_=12) |exact (rfl:_=13) |exact (rfl:_=14) |exact (rfl:_=15) |exact (rfl:_=16));decide;decide;exact rfl;exact rfl;(first |exact (rfl:_=0) |exact (rfl:_=1) |exact (rfl:_=2) |exact (rfl:_=3) |exact (rfl:_=4) |exact (rfl:_=5) |exact (rfl:_=6) |exact (rfl:_=7) |exact (rfl:_=8))) |((with_reducible apply ng);exact rfl) |((with_reducible apply gPk);(first |((with_reducible apply pk (b:=true));exact rfl;exact rfl) |((with_reducible apply pk (b:=false));exact rfl;exact rfl) |((with_reducible apply pkb);exact rfl;exact (by assumption);exact rfl))));exact z.1)):p:=h ⟨z⟩
def ztN(w:Bool):List Oper→Option Nat
 | []=>none
 |o :: _=>match o.guard with |some (j,x)=>(match x == w with |true=>some j |false=>none) |none=>none
inductive Exq:List Nat→Ev→Ev→Prop
 |z (e:Ev):Exq [] e e
 |s {a:Nat} {x:AV} {ds:List Nat} {e' e:Ev}:Exq ds e' e→Exq (a ::ds) ((a,x)::e') e
theorem Exq.look'{ds:List Nat}{e' e:Ev}(h:Exq ds e' e){t:Nat}{v:AV}(hl:look e t=some v):t ∉ ds→look e' t=some v:=by
 induction h with
 |z e=>exact fun _=>hl
 | @s a x ds e' e h ih =>
  intro hn
  have h1:=ih hl (fun hm=>hn (List.mem_cons_of_mem _ hm))
  have h2:a≠t:=fun e=>hn (e ▸ List.mem_cons_self)
  simpa [look,h2] using h1
theorem Exq.look{ds:List Nat}{e' e:Ev}(h:Exq ds e' e)(hk:zcn ds e=true):∀t v,look e t=some v→look e' t=some v:=fun t v hl=>h.look' hl (zb9 hk hl)
inductive Spl:List Oper→List Oper→List Oper→Prop
 |z (l:List Oper):Spl [] l l
 |s {o:Oper} {a l r:List Oper}:Spl a l r→Spl (o ::a) (o ::l) r
theorem Spl.eq{a l r:List Oper}(h:Spl a l r):l.take a.length=a∧l.drop a.length=r:=by
 induction h with
 |z l=>exact ⟨by simp,by simp⟩
 |s _ ih=>exact ⟨by simp [ih.1],by simp [ih.2]⟩
section
variable {P : Program} {n nb0 : Nat} {all l1 l2 lk : List Oper} {K : Ev → St → Prop} {env env' : Ev} {st : St}
theorem egB{ds:List Nat}{y:Operand}{b v:Bool}(hb:b=true)(h1:Exq ds env' env)(h2:zcn ds env=true)(h4:ev env' y=some (.lit (.bool v))):zvr env st y (b&&v) env' st:=⟨rfl,h1.look h2,by rw [hb];exact h4⟩
theorem egC{ds:List Nat}{y:Operand}{b v:Bool}(hb:b=false)(h1:Exq ds env' env)(h2:zcn ds env=true)(h4:ev env' y=some (.lit (.bool v))):zvr env st y (b||v) env' st:=⟨rfl,h1.look h2,by rw [hb];exact h4⟩
theorem hAA{p:Prop}(h:p:=by (intro hb;refine A ?_;apply egB hb;(repeat (first |exact Exq.z _ |apply Exq.s));exact rfl;exact rfl)):p:=h
theorem hOA{p:Prop}(h:p:=by (intro hb;refine A ?_;apply egC hb;(repeat (first |exact Exq.z _ |apply Exq.s));exact rfl;exact rfl)):p:=h
theorem aA{dp c:Nat}{y:Operand}{ty':TypeId}{pos':String}{aft':Array Edge}{gp:Option (Nat×Bool)}{j:Nat}{b v:Bool}{l:List Oper}(hj0:ztN true l1=some j)(hj:(all[j]?).bind (·.dst)=some c)
  (hs:Spl lk l1 (⟨some dp,.pick (.tmp c) y (.const (.bool false)),ty',pos',aft',gp⟩::l)) (hc:look env c=some (.lit (.bool b))) (hg:zvI all j true [] lk=true) (hk:zcn (zlo lk) env=true)
  (hgp:∀env':Ev,(∀t v,look env t=some v→look env' t=some v)→zfb all env' ⟨some dp,.pick (.tmp c) y (.const (.bool false)),ty',pos',aft',gp⟩=some true)
  (hT:b=true→SR P n nb0 all lk ((⟨some dp,.pick (.tmp c) y (.const (.bool false)),ty',pos',aft',gp⟩::l)++l2) (zvr env st y (b&&v)) env st)
  (h:SR P n nb0 all l l2 K ((dp,.lit (.bool (b&&v)))::env) st):SR P n nb0 all l1 l2 K env st:=
 zhw lk.length hs.eq.2 hj hc (hs.eq.1.symm ▸ hg) (hs.eq.1.symm ▸ hk) hgp (hs.eq.1.symm ▸ hs.eq.2.symm ▸ hT) zx9 h
theorem oA{dp c:Nat}{y:Operand}{ty':TypeId}{pos':String}{aft':Array Edge}{gp:Option (Nat×Bool)}{j:Nat}{b v:Bool}{l:List Oper}(hj0:ztN false l1=some j)(hj:(all[j]?).bind (·.dst)=some c)
  (hs:Spl lk l1 (⟨some dp,.pick (.tmp c) (.const (.bool true)) y,ty',pos',aft',gp⟩::l)) (hc:look env c=some (.lit (.bool b))) (hg:zvI all j false [] lk=true) (hk:zcn (zlo lk) env=true)
  (hgp:∀env':Ev,(∀t v,look env t=some v→look env' t=some v)→zfb all env' ⟨some dp,.pick (.tmp c) (.const (.bool true)) y,ty',pos',aft',gp⟩=some true)
  (hF:b=false→SR P n nb0 all lk ((⟨some dp,.pick (.tmp c) (.const (.bool true)) y,ty',pos',aft',gp⟩::l)++l2) (zvr env st y (b||v)) env st)
  (h:SR P n nb0 all l l2 K ((dp,.lit (.bool (b||v)))::env) st):SR P n nb0 all l1 l2 K env st:=
 zq3 lk.length hs.eq.2 hj hc (hs.eq.1.symm ▸ hg) (hs.eq.1.symm ▸ hk) hgp (hs.eq.1.symm ▸ hs.eq.2.symm ▸ hF) orT h
end
section
variable {P : Program} {n nb0 : Nat} {all l1 l2 lk : List Oper} {K : Ev → St → Prop} {env env' : Ev} {st : St}
theorem egD{ds:List Nat}{y:Operand}{e x:Bool}(he:e=x)(h1:Exq ds env' env)(h2:zcn ds env=true)(h4:ev env' y=some (.lit (.bool e))):zvr env st y x env' st:=⟨rfl,h1.look h2,by rw [←he];exact h4⟩
def Imp(a p:Prop):Prop:=a→p
theorem bI{α β:Type}{p:Prop}{m:Option α}{k:α→Option β}{r:β}(f:∀x,m=some x→Imp (k x=some r) p):Imp (m.bind k=some r) p:=fun h=>by
 obtain ⟨x,h1,h2⟩:=bs h
 exact f x h1 h2
theorem sI{β:Type}{p:Prop}{a r:β}(f:a=r→p):Imp (some a=some r) p:=fun h=>f (sm h)
theorem hQA{p:Prop}(h:p:=by (intro hb;(repeat ((with_reducible apply bI);intro _ _));(with_reducible apply sI);intro hq;refine A ?_;apply egD hq;(repeat (first |exact Exq.z _ |apply Exq.s));exact rfl;exact rfl)):p:=h
theorem aQ{dp c:Nat}{y:Operand}{ty':TypeId}{pos':String}{aft':Array Edge}{gp:Option (Nat×Bool)}{j:Nat}{b x:Bool}{m:Option Bool}{l:List Oper}(hj0:ztN true l1=some j)(hj:(all[j]?).bind (·.dst)=some c)(hc:look env c=some (.lit (.bool b)))(q:cond b m (some false)=some x)
  (hs:Spl lk l1 (⟨some dp,.pick (.tmp c) y (.const (.bool false)),ty',pos',aft',gp⟩::l)) (hg:zvI all j true [] lk=true) (hk:zcn (zlo lk) env=true)
  (hgp:∀env':Ev,(∀t v,look env t=some v→look env' t=some v)→zfb all env' ⟨some dp,.pick (.tmp c) y (.const (.bool false)),ty',pos',aft',gp⟩=some true)
  (hT:b=true→Imp (m=some x) (SR P n nb0 all lk ((⟨some dp,.pick (.tmp c) y (.const (.bool false)),ty',pos',aft',gp⟩::l)++l2) (zvr env st y x) env st))
  (h:SR P n nb0 all l l2 K ((dp,.lit (.bool x))::env) st):SR P n nb0 all l1 l2 K env st:=
 zhw lk.length hs.eq.2 hj hc (hs.eq.1.symm ▸ hg) (hs.eq.1.symm ▸ hk) hgp (hs.eq.1.symm ▸ hs.eq.2.symm ▸ fun e=>hT e (bT e q)) (fun e=>(sm (bF e q)).symm) h
theorem oQ{dp c:Nat}{y:Operand}{ty':TypeId}{pos':String}{aft':Array Edge}{gp:Option (Nat×Bool)}{j:Nat}{b x:Bool}{m:Option Bool}{l:List Oper}(hj0:ztN false l1=some j)(hj:(all[j]?).bind (·.dst)=some c)(hc:look env c=some (.lit (.bool b)))(q:cond b (some true) m=some x)
  (hs:Spl lk l1 (⟨some dp,.pick (.tmp c) (.const (.bool true)) y,ty',pos',aft',gp⟩::l)) (hg:zvI all j false [] lk=true) (hk:zcn (zlo lk) env=true)
  (hgp:∀env':Ev,(∀t v,look env t=some v→look env' t=some v)→zfb all env' ⟨some dp,.pick (.tmp c) (.const (.bool true)) y,ty',pos',aft',gp⟩=some true)
  (hF:b=false→Imp (m=some x) (SR P n nb0 all lk ((⟨some dp,.pick (.tmp c) (.const (.bool true)) y,ty',pos',aft',gp⟩::l)++l2) (zvr env st y x) env st))
  (h:SR P n nb0 all l l2 K ((dp,.lit (.bool x))::env) st):SR P n nb0 all l1 l2 K env st:=
 zq3 lk.length hs.eq.2 hj hc (hs.eq.1.symm ▸ hg) (hs.eq.1.symm ▸ hk) hgp (hs.eq.1.symm ▸ hs.eq.2.symm ▸ fun e=>hF e (bF e q)) (fun e=>(sm (bT e q)).symm) h
end
theorem A{p q:Prop}(z:q)(h:Zz q→p:=by (intro z;(first |(apply rg;exact rfl) |(apply rl;exact rfl) |skip);(repeat (first |((first |(with_reducible apply u) |((with_reducible apply g);exact rfl;(first |assumption |exact rfl)));refine opS ?_) |(apply aQ;exact rfl;exact rfl;exact rfl;assumption;(repeat (first |exact Spl.z _ |apply Spl.s));exact rfl;exact rfl;(first |exact gpn |exact gps rfl rfl (by assumption));exact hQA) |(apply oQ;exact rfl;exact rfl;exact rfl;assumption;(repeat (first |exact Spl.z _ |apply Spl.s));exact rfl;exact rfl;(first |exact gpn |exact gps rfl rfl (by assumption));exact hQA) |(apply aA;exact rfl;exact rfl;(repeat (first |exact Spl.z _ |apply Spl.s));exact rfl;exact rfl;exact rfl;(first |exact gpn |exact gps rfl rfl (by assumption));exact hAA) |(apply oA;exact rfl;exact rfl;(repeat (first |exact Spl.z _ |apply Spl.s));exact rfl;exact rfl;exact rfl;(first |exact gpn |exact gps rfl rfl (by assumption));exact hOA)));(first |exact zn z.1 |exact z.1))):p:=h ⟨z⟩
theorem zCi{st:St}{L:zeF}{l i j:Nat}(h:zeU L l=some l):Rs st L (.mpt l i j) (.mpt l i j):=.mpt h
theorem zCk{st:St}{L:zeF}{l i n:Nat}(h:zeU L l=some l):Rs st L (.msl l i n) (.msl l i n):=.msl h
section
variable {P : Program} {n nb0 : Nat} {env env0 : Ev} {st st0 : St}
theorem zaE(L:zeF)(h1:zjf st L env0 env:=by repeat' (first |exact True.intro |exact cn |exact ci rfl |exact zCi rfl |exact zCk rfl |exact .msl rfl |exact .mpt rfl |exact .nil |exact zbs fun _=>rfl |refine cv rfl ?_ ?_ |exact zij rfl rfl fun _=>rfl |refine zkP rfl rfl ?_ |exact ci (zq2 fun _=>rfl) |exact .mmp rfl |refine zvV rfl ?_ |refine zaz ?_ |refine zkO ?_ |refine ⟨_,rfl,?_⟩ |refine And.intro ?_ ?_ |refine zo1 ?_ |refine znT ?_ |exact rfl))(h2:zky L=true:=by exact rfl)(h3:zhD st L L st0:=by repeat' (first |exact True.intro |exact cn |exact ci rfl |exact zCi rfl |exact zCk rfl |exact .msl rfl |exact .mpt rfl |exact .nil |exact zbs fun _=>rfl |refine cv rfl ?_ ?_ |exact zij rfl rfl fun _=>rfl |refine zkP rfl rfl ?_ |exact ci (zq2 fun _=>rfl) |exact .mmp rfl |refine zvV rfl ?_ |refine zaz ?_ |refine zkO ?_ |refine ⟨_,rfl,?_⟩ |refine And.intro ?_ ?_ |refine zo1 ?_ |refine znT ?_ |exact rfl))(h4:zwr nb0 L=true:=by exact rfl)(h5:nb0≤st0.length:=by exact Nat.le_of_ble_eq_true rfl):Can nb0 env0 st0 env st:=⟨L,h1,h2,h3,h4,h5⟩
end
section
variable {P : Program} {all : List Oper} {env0 F env : Ev} {st : St} {ss p en : List Nat} {K : Ev → St → Prop}
theorem peC{i:Nat}{G:Prop}(h:G→zhd P all env0 F st i:=by first |exact nz |(intro _;refine pa rfl rfl rfl rfl ?_;refine opS ?_;exact ⟨rfl,rfl⟩) |exact fun _=>pau rfl rfl rfl rfl rfl |(intro _;refine pas rfl rfl rfl rfl ?_ rfl;(first |exact rfl |assumption)) |(intro _;refine pag rfl rfl rfl rfl ?_ rfl ?_;(first |exact rfl |assumption);refine opS ?_;exact ⟨rfl,rfl⟩)):G→zhd P all env0 F st i:=h
theorem zcC{n:Nat}(h1:zsl P all env0 F st p en:=by repeat' (first |exact True.intro |refine And.intro ?_ ?_ |first |exact nz |(intro _;refine pa rfl rfl rfl rfl ?_;refine opS ?_;exact ⟨rfl,rfl⟩) |exact fun _=>pau rfl rfl rfl rfl rfl |(intro _;refine pas rfl rfl rfl rfl ?_ rfl;(first |exact rfl |assumption)) |(intro _;refine pag rfl rfl rfl rfl ?_ rfl ?_;(first |exact rfl |assumption);refine opS ?_;exact ⟨rfl,rfl⟩)))(z:zq6 P all ss env0 K n p en F st ss)(h2:zf8 all ss p en=true:=by kernel_rfl)(h3:zjg p ss=false:=by exact rfl):DT P all ss env0 K (n+1) p en F st:=dtS h1 h2 h3 z
theorem zdg(h1:zsl P all env0 F st p en:=by repeat' (first |exact True.intro |refine And.intro ?_ ?_ |first |exact nz |(intro _;refine pa rfl rfl rfl rfl ?_;refine opS ?_;exact ⟨rfl,rfl⟩) |exact fun _=>pau rfl rfl rfl rfl rfl |(intro _;refine pas rfl rfl rfl rfl ?_ rfl;(first |exact rfl |assumption)) |(intro _;refine pag rfl rfl rfl rfl ?_ rfl ?_;(first |exact rfl |assumption);refine opS ?_;exact ⟨rfl,rfl⟩)))(z:K (F++zmn (ztD all) env0) st)(h2:zf8 all ss p en=true:=by kernel_rfl)(h3:zjg p ss=true:=by exact rfl):DT P all ss env0 K 0 p en F st:=dt0 h1 h2 h3 z
end
theorem rdQ{P:Program}{n nb0:Nat}{Q:Exit→Ev→St→Prop}{env:Ev}{st:St}{id:Nat}{ops:Array Oper}(ss en:List Nat)(F:Ev)(k:Nat)
  (h:DT P ops.toList ss env (Q .normal) k [] en F st) (hm:P.follows .mixedOrders=true:=by kernel_rfl) (hok:zj9 n ops.toList=true:=by kernel_rfl) (hss:znP ops.size ss=true:=by exact rfl) (hks:zgN ops.toList en (zb8 F)=true:=by kernel_rfl):
  SW P n nb0 (.region id ops true) Q env st:=zdy ss en F k hm hok hss hks h
section
variable {P : Program} {n nb0 : Nat} {env : Ev} {st st0 : St}
theorem zeh{Q:Exit→Ev→St→Prop}{c:Operand}{x y:Code}{b:Bool}{α:Type}{m1 m2 r:α}(h:cond b m1 m2=r)(hc:ev env c=some (.lit (.bool b)))(ht:b=true→m1=r→SW P n nb0 x Q env st)(hf:b=false→m2=r→SW P n nb0 y Q env st):SW P n nb0 (.cond c x y) Q env st:=
 zg3 hc (fun e=>ht e (bT e h)) (fun e=>hf e (bF e h))
theorem zxW{av0 av:AV}(L:zeF)(h1:Rs st L av0 av:=by repeat' (first |exact True.intro |exact cn |exact ci rfl |exact zCi rfl |exact zCk rfl |exact .msl rfl |exact .mpt rfl |exact .nil |exact zbs fun _=>rfl |refine cv rfl ?_ ?_ |exact zij rfl rfl fun _=>rfl |refine zkP rfl rfl ?_ |exact ci (zq2 fun _=>rfl) |exact .mmp rfl |refine zvV rfl ?_ |refine zaz ?_ |refine zkO ?_ |refine ⟨_,rfl,?_⟩ |refine And.intro ?_ ?_ |refine zo1 ?_ |refine znT ?_ |exact rfl))(h2:zky L=true:=by exact rfl)(h3:zhD st L L st0:=by repeat' (first |exact True.intro |exact cn |exact ci rfl |exact zCi rfl |exact zCk rfl |exact .msl rfl |exact .mpt rfl |exact .nil |exact zbs fun _=>rfl |refine cv rfl ?_ ?_ |exact zij rfl rfl fun _=>rfl |refine zkP rfl rfl ?_ |exact ci (zq2 fun _=>rfl) |exact .mmp rfl |refine zvV rfl ?_ |refine zaz ?_ |refine zkO ?_ |refine ⟨_,rfl,?_⟩ |refine And.intro ?_ ?_ |refine zo1 ?_ |refine znT ?_ |exact rfl))(h4:zwr nb0 L=true:=by exact rfl)(h5:nb0≤st0.length:=by exact Nat.le_of_ble_eq_true rfl):zBi nb0 av0 st0 av st:=⟨L,h1,h2,h3,h4,h5⟩
end
theorem RT0{p:Prop}(z:p:=by (refine zD ?_;obtain rfl:=sm h;exact ⟨_,rfl,zxW []⟩)):p:=z
theorem RT1{p:Prop}(z:p:=by (refine zD ?_;obtain rfl:=sm h;exact ⟨_,rfl,zxW [.old 0]⟩)):p:=z
theorem RT3{p:Prop}(z:p:=by (refine zD ?_;obtain rfl:=sm h;exact ⟨_,rfl,zxW [.old 0,.old 1,.old 2]⟩)):p:=z
theorem bs2{α β γ:Type}{a:Option α}{b:α→Option β}{k:α→β→Option γ}{r:γ}(h:(a.bind fun x=>(b x).bind (k x))=some r):∃x,a=some x∧∃y,b x=some y∧k x y=some r:=by
 obtain ⟨x,h1,h⟩:=bs h
 obtain ⟨y,h2,h⟩:=bs h
 exact ⟨x,h1,y,h2,h⟩
theorem bs3{α β γ δ:Type}{a:Option α}{b:α→Option β}{c:α→β→Option γ}{k:α→β→γ→Option δ}{r:δ}(h:(a.bind fun x=>(b x).bind fun y=>(c x y).bind (k x y))=some r):∃x,a=some x∧∃y,b x=some y∧∃z,c x y=some z∧k x y z=some r:=by
 obtain ⟨x,h1,h⟩:=bs h
 exact ⟨x,h1,bs2 h⟩
theorem bs4{α β γ δ ε:Type}{a:Option α}{b:α→Option β}{c:α→β→Option γ}{d:α→β→γ→Option δ}{k:α→β→γ→δ→Option ε}{r:ε}(h:(a.bind fun x=>(b x).bind fun y=>(c x y).bind fun z=>(d x y z).bind (k x y z))=some r):∃x,a=some x∧∃y,b x=some y∧∃z,c x y=some z∧∃u,d x y z=some u∧k x y z u=some r:=by
 obtain ⟨x,h1,h⟩:=bs h
 exact ⟨x,h1,bs3 h⟩
abbrev pG{R:Type}(fn:Func)(e:R→AV):R→Ev→St→Prop:=fun r env st=>zj8 Tryz.prog fn 0 (e r) [] env st
abbrev pF{R:Type}(fn:Func)(e:R→AV)(s:R→St):R→Ev→St→Prop:=fun r env st=>zj8 Tryz.prog fn 0 (e r) (s r) env st
section
variable {P : Program} {n nb0 : Nat} {env : Ev} {st : St} {id : Nat} {c y : Code} {Q : Exit → Ev → St → Prop} {X B R : Type} {body : X → Option (Sum X (Sum B R))} {z0 : X} {o : Sum B R}
theorem lpA(ho:zs body z0=some o)(E:X→Ev)(S:X→St)(E':B→Ev)(S':B→St)(post:R→Ev→St→Prop)(hc:Can nb0 (E z0) (S z0) env st)(round:∀z r,body z=some r→SW P n nb0 c (LQ id nb0 E S E' S' post r) (E z) (S z))
  (hb:∀b,o=.inl b→SW P n nb0 y Q (E' b) (S' b)) (hr:∀r,o=.inr r→∀env st,post r env st→Q .ret env st:=by (rintro r' rfl env st hp;obtain rfl:=sm h;exact hp)):SW P n nb0 (.seq (.block id (.loop c)) y) Q env st:=zCQ E S E' S' post ho hc round hb hr
theorem lpS(ho:zs body z0=some o)(E:X→Ev)(S:X→St)(E':B→Ev)(S':B→St)(post:R→Ev→St→Prop)(hc:Can nb0 (E z0) (S z0) env st)(round:∀z r,body z=some r→SW P n nb0 c (LQ id nb0 E S E' S' post r) (E z) (S z))(hb:∀b,o=.inl b→OW n nb0 (Q .normal) (E' b) (S' b))(hr:∀r,o=.inr r→∀env st,post r env st→Q .ret env st):SW P n nb0 (.block id (.loop c)) Q env st:=zmO E S E' S' post ho hc round hb hr
theorem lpB(ho:zs body z0=some o)(E:X→Ev)(S:X→St)(E':B→Ev)(S':B→St)(post:R→Ev→St→Prop)(hc:Can nb0 (E z0) (S z0) env st)(round:∀z r,body z=some r→SW P n nb0 c (LQ id nb0 E S E' S' post r) (E z) (S z))(hb:∀b,o=.inl b→OW n nb0 (Q .normal) (E' b) (S' b))(hr:∀r,o=.inr r→∀env st,post r env st→Q .ret env st:=by (rintro r' rfl env st hp;obtain rfl:=sm h;exact hp)):SW P n nb0 (.block id (.loop c)) Q env st:=zmO E S E' S' post ho hc round hb hr
end
section
open Go.ChangeShapes Go.WideShapes Go.ChangeAt Go.RowKit Go.WideMaps Go.WideElems
open Go.ChangeMaps (open_string shut_string)
theorem ziN.below{w w':World}(h:ziN w w'):Below w.heap.size w w':=⟨h.os,h.tape,h.output,h.size,h.heap⟩
theorem Tryz.ownNot:ownKnob Tryz.prog.godebug=none:=by kernel_rfl
theorem Tryz.laidOut:laidOutB Tryz.prog=true:=by kernel_rfl
section
variable {H : Type} {enc : TypeId × Value → H} {P : Program}
theorem zrh(hl:laidOutB P=true){W W':World}(hg:ziN W W'){sp:Nat→Bool}:∀{ts:List TypeId} {vs:List Value} {ds:List (DataW H)} {ps:List MemPlace},
  ts.all (fun t=>P.readableRec t&&decide (t<P.types.size))=true→DataW.TrodAll enc P W 0 (fun _=>true) true ts vs ds ps→(∀p∈ps,p.block<W.heap.size)→(∀p∈ps,sp p.block=true)→DataW.TrodAll enc P W' 0 sp true ts vs ds ps
 | [],[],[],ps,_,h,_,_=>h
 |t ::ts,v ::vs,d ::ds,ps,ht,h,hlt,hs=>by
  obtain ⟨p,q,h1,h2,rfl⟩:=h
  simp only [List.all_cons,Bool.and_eq_true,decide_eq_true_eq] at ht
  exact ⟨p,q,WideElems.Trod_stays hl ht.1.1 ht.1.2 h1 (fun x hx=>hg.below.same (hlt x (by simp [hx]))) (fun x hx=>hs x (by simp [hx])),
   zrh hl hg ht.2 h2 (fun x hx=>hlt x (by simp [hx])) (fun x hx=>hs x (by simp [hx])),rfl⟩
 | [],_ :: _,_,_,_,h,_,_=>h.elim
 | [],[],_ :: _,_,_,h,_,_=>h.elim
 |_ :: _,[],_,_,_,h,_,_=>h.elim
 |_ :: _,_ :: _,[],_,_,h,_,_=>h.elim
theorem zw4{f:Func}{s:ChangeSpec}{apart fresh handsOn again:Bool}{W W':World}{args:Array Value}{ds gs:List (DataW H)}{before:List MemPlace}{tb:TypeId}
  (hl:laidOutB P=true) (hW:DataW.Whole enc P f.params.toList s.vars apart W args.toList ds gs before) (hg:ziN W W')
  (hts:f.params.toList.all (fun t=>P.readableRec t&&decide (t<P.types.size))=true) (hvars:s.vars=[]) (hr:f.resultTypes=#[tb]) (hb:P.underlying tb=some .bool)
  (hfn:s.fn H (ds++gs)={ results:=[.lit (.bool true)],args:=ds }):
  s.post enc P f apart fresh handsOn again W args (.bool true) W':=by
 have hlt:=hW.lt
 have hW':=hW
 obtain ⟨p,q,hA,hV,hpq,hz,hn⟩:=hW'
 rw [hvars] at hV
 obtain ⟨rfl,rfl⟩:=trodVars_none hV
 simp only [List.append_nil] at hpq
 subst hpq
 have hargs:∀sp:Nat→Bool,(∀x∈before,sp x.block=true)→DataW.TrodAll enc P W' 0 sp true f.params.toList args.toList ds before:=fun sp hsp=>zrh hl hg hts hA hlt hsp
 have hres:∀(b:Nat) (sp:Nat→Bool) (hd:Bool),DataW.TrodAll enc P W' b sp hd f.resultTypes.toList ((Value.bool true).resultList f.resultTypes.size) [.lit (.bool true)] []:=fun b sp hd=>by
  rw [hr];exact trodAll_mk1 (shut_bool hb true)
 have hvs:∀sp:Nat→Bool,DataW.TrodVars enc P W' sp s.vars ([]:List (DataW H)) []:=fun sp=>by rw [hvars];rfl
 refine ⟨ds,[],before,[],before,[],hW,by rw [hfn];exact hres _ _ _,by rw [hfn];exact hargs _ (fun x hx=>by simpa using hlt x hx),by rw [hfn];exact hvs _,hg.below.frame _,fun _=>⟨?_,_,_,([]++before)++[],⟨[]++before,[],trodAll_append (hargs _ (fun _ _=>rfl)) (hres _ _ _),hvs _,rfl,?_,?_⟩,?_⟩⟩
 ·exact ok_one hr rfl (okWide_bool_mk hb _)
 ·intro b off hp
  have hp':MemPlace.cell b off∈before:=by simpa using hp
  rw [hg.below.frozen (p:=⟨b,off,none⟩) (hlt _ hp')]
  exact hz b off hp'
 ·intro ha
  simpa using hn ha
 ·intro x hx _
  simpa using hx
theorem zaF.truly{f:FuncId}{args:List AV}(h:zaF P f args (.lit (.bool true))){W:World}{vals:Array Value}(hN:Flo.N=W.heap.size)(hv:VIL (fun B _=>B<W.heap.size) W args vals):
  Calls P f vals W fun e w'=>e=.returned (.bool true)∧ziN W w':=
 (h.2 _ W vals ⟨fun _ _ h=>h,fun B k k' h1 h2 _=>absurd h2 (by omega),by omega⟩ hv).mono fun e w' ⟨v,A',he,hg,hx,hvi⟩=>by
  cases hvi
  exact ⟨he,hg⟩
theorem zA8{A w}:VIL A w [] #[]:=⟨rfl,fun i h=>by simp at h⟩
theorem zll{A w}{c:AV}{v:Value}{cs:List AV}{vs:List Value}(h:VI A w c v)(t:VIL A w cs vs.toArray):VIL A w (c ::cs) (v ::vs).toArray:=by
 obtain ⟨h1,h2⟩:=t
 refine ⟨by simpa using h1,fun i hi=>?_⟩
 cases i with
 |zero=>simpa using h
 |succ i =>
  have:=h2 i (by simpa using hi)
  simpa [Array.getD] using this
end
end
section
open Go.ChangeShapes Go.WideShapes Go.ChangeAt Go.RowKit Go.WideMaps Go.WideElems
def zrw(P:Program):Nat→List Field→Option Nat
 |o,[]=>some o
 |o,f ::r=>if f.offset=o then zrw P (o+P.cellsOf f.type) r else none
def zrP(P:Program):Nat→TypeId→Bool
 | 0,_=>false
 |n+1,t =>
  match P.underlying t with
  |some .bool=>true
  |some (.int _)=>true
  |some .string=>true
  |some (.slice e)=>Nat.blt 0 (P.cellsOf e)&&zrP P n e
  |some (.struct fs)=>(zrw P 0 fs.toList == some (P.cellsOf t))&&fs.toList.all fun f=>zrP P n f.type
  |_=>false
def znq(P:Program):Nat→TypeId→List AV→Prop
 | 0,_,_=>False
 |n+1,t,avs =>
  match P.underlying t with
  |some .bool=>∃b,avs=[.lit (.bool b)]
  |some (.int k)=>∃m,avs=[.lit (.int k m)]∧(Lit.int k m).wf=true
  |some .string=>∃s:List UInt8,avs=[.lit (.string (B s))]∧s.length≤9223372036854775807
  |some (.slice e)=>∃els,avs=[.isl (P.cellsOf e) els]∧els.length≤9223372036854775807∧∀r∈els,znq P n e r
  |some (.struct fs)=>∃parts:List (List AV),avs=parts.flatten∧parts.length=fs.size∧∀(i:Nat) f p,fs[i]?=some f→parts[i]?=some p→znq P n f.type p
  |_=>False
section
variable {H : Type} {enc : TypeId × Value → H} {P : Program} {W : World}
abbrev zpf(W:World)(avs:List AV)(cs:List Value):Prop:=avs.length=cs.length∧∀(i:Nat) av v,avs[i]?=some av→cs[i]?=some v→VI (fun B _=>B<W.heap.size) W av v
theorem zr4{a b:List AV}{cs ds:List Value}(h:zpf W a cs)(k:zpf W b ds):zpf W (a++b) (cs++ds):=by
 refine ⟨by simp [h.1,k.1],fun i av v h1 h2=>?_⟩
 by_cases hi:i<a.length
 ·rw [List.getElem?_append_left hi] at h1
  rw [List.getElem?_append_left (by rw [←h.1];exact hi)] at h2
  exact h.2 i av v h1 h2
 ·rw [List.getElem?_append_right (by omega)] at h1
  rw [List.getElem?_append_right (by rw [←h.1];omega),←h.1] at h2
  exact k.2 _ av v h1 h2
theorem zjb{av:AV}{v:Value}(h:VI (fun B _=>B<W.heap.size) W av v):zpf W [av] [v]:=
 ⟨rfl,fun i a u h1 h2=>by
  cases i with
  |zero=>cases h1;cases h2;exact h
  |succ i=>simp at h1⟩
theorem zvW{w:World}{base:Nat}{a:Addr}{n:Nat}{cs:List Value}(h:w.cells? base a n=some cs):cs.length=n∧∀j,j<n→w.cell? (a.add j)=cs[j]?:=by
 unfold World.cells? at h
 split at h
 ·have key:∀(l:List Nat) (r:List Value),l.mapM (fun i=>w.cell? (a.add i))=some r→r.length=l.length∧∀(j:Nat) x,l[j]?=some x→w.cell? (a.add x)=r[j]?:=by
   intro l
   induction l with
   |nil=>intro r hr;simp at hr;subst hr;exact ⟨rfl,fun j x hx=>by simp at hx⟩
   |cons y l ih =>
    intro r hr
    simp only [List.mapM_cons,Option.bind_eq_bind,Option.pure_def] at hr
    cases h1:w.cell? (a.add y) with
    |none=>simp [h1] at hr
    |some b =>
     cases h2:l.mapM (fun i=>w.cell? (a.add i)) with
     |none=>simp [h1,h2] at hr
     |some r' =>
      simp [h1,h2] at hr
      subst hr
      obtain ⟨k1,k2⟩:=ih r' h2
      refine ⟨by simp [k1],fun j x hx=>?_⟩
      cases j with
      |zero=>simp at hx;subst hx;simpa using h1
      |succ j=>simpa using k2 j x (by simpa using hx)
  obtain ⟨h1,h2⟩:=key _ _ h
  refine ⟨by simpa using h1,fun j hj=>h2 j j (by simp [hj])⟩
 ·cases h
theorem zqG(hN:Flo.N=W.heap.size):∀(n fuel:Nat) (t:TypeId) (cs:List Value) (x:DataW H×List MemPlace),zrP P n t=true→DataW.trod enc P W 0 (fun _=>true) true fuel t cs=some x→(∀p∈x.2,p.block<W.heap.size)→∃avs,znq P n t avs∧zpf W avs cs
 | 0,_,_,_,_,h,_,_=>by cases h
 |n+1,fuel,t,cs,x,hp,hx,hlt=>by
  have hmax:maxLen=9223372036854775807:=by unfold maxLen;decide
  unfold zrP at hp
  unfold znq
  cases hu:P.underlying t with
  |none=>rw [hu] at hp;cases hp
  |some d =>
   rw [hu] at hp
   cases d with
   |bool =>
    obtain ⟨b,rfl,_⟩:=DataW.trod_bool hu hx
    exact ⟨_,⟨b,rfl⟩,zjb (.lit _)⟩
   |int k =>
    obtain ⟨m,rfl,_,hw⟩:=DataW.trod_int hu hx
    exact ⟨_,⟨m,rfl,hw⟩,zjb (.lit _)⟩
   |string =>
    obtain ⟨s,rfl,_,hl⟩:=DataW.trod_string hu hx
    exact ⟨_,⟨s.data.toList,rfl,by rw [←hmax];exact hl⟩,zjb (.lit _)⟩
   |slice e =>
    simp only [Bool.and_eq_true] at hp
    have hk:0<P.cellsOf e:=Nat.le_of_ble_eq_true hp.1
    rcases DataW.trod_slice hu hx with ⟨rfl,rfl⟩ |⟨a,len,cap,elems,rest,n',rfl,rfl,rfl,hb,hl,hm,hlen,hel,hsp,hns⟩
    ·exact ⟨_,⟨[],rfl,by simp,fun r hr=>by cases hr⟩,zjb (.inil _ _ _ (.inl rfl))⟩
    rcases Nat.eq_zero_or_pos len with h0 |h0
    ·subst h0
     refine ⟨_,⟨[],rfl,by simp,fun r hr=>by cases hr⟩,zjb (.inil _ _ _ ?_)⟩
     rcases Nat.eq_zero_or_pos cap with h00 |h00
     ·exact .inl h00
     obtain ⟨B,o,p⟩:=a
     have h5:=(hsp rfl).1
     have hB:B<W.heap.size:=hlt (.cell B (o+0)) (by
      refine List.mem_append.2 (.inl (List.mem_map.2 ⟨0,List.mem_range.2 ?_,rfl⟩))
      exact Nat.mul_pos (by omega) hk)
     exact .inr (.inr ⟨B,0,hB,by rw [hN];exact hB⟩)
    have hrow:∀i,∃r,i<len→znq P n e r∧r.length=P.cellsOf e∧∃cl:List Value,cl.length=P.cellsOf e∧(∀j,j<P.cellsOf e→W.cell? ((a.add (i*P.cellsOf e)).add j)=cl[j]?)∧zpf W r cl:=fun i=>by
     by_cases hi:i<len
     ·have h1:=hel i hi
      have h2:elems[i]?=some elems[i]:=List.getElem?_eq_getElem (by omega)
      rw [h2] at h1
      cases hc:W.cells? 0 (a.add (i*P.cellsOf e)) (P.cellsOf e) with
      |none=>rw [hc] at h1;cases h1
      |some cl =>
       rw [hc] at h1
       obtain ⟨k1,k2⟩:=zvW hc
       obtain ⟨r,g1,g2⟩:=zqG hN n n' e cl elems[i] hp.2 h1 (fun p hpp=>hlt p (by
        simp only [List.mem_append,List.mem_flatMap]
        exact .inr ⟨elems[i],.inl (List.getElem_mem _),hpp⟩))
       exact ⟨r,fun _=>⟨g1,by rw [g2.1,k1],cl,k1,k2,g2⟩⟩
     ·exact ⟨[],fun h=>absurd h hi⟩
    obtain ⟨f,hf⟩:=Classical.axiomOfChoice hrow
    have hspot:a.spot=none:=by
     obtain ⟨_,_,cl,k1,k2,_⟩:=hf 0 h0
     have h2:=k2 0 hk
     rw [List.getElem?_eq_getElem (by omega)] at h2
     simp only [Nat.zero_mul,Addr.add,if_true] at h2
     cases hs:a.spot with
     |none=>rfl
     |some q =>
      rw [World.cell?] at h2
      split at h2
      ·rw [hs] at h2;simp at h2
      ·cases h2
    obtain ⟨B,o,p⟩:=a
    simp only at hspot
    subst hspot
    have hB:B<W.heap.size:=hlt (.cell B (o+0)) (by
     refine List.mem_append.2 (.inl (List.mem_map.2 ⟨0,List.mem_range.2 ?_,rfl⟩))
     exact Nat.mul_pos (by omega) hk)
    have hadd:∀i j,(((⟨B,o,none⟩:Addr).add (i*P.cellsOf e)).add j)=⟨B,o+i*P.cellsOf e+j,none⟩:=fun i j=>by rw [zfX,zfX]
    refine ⟨_,⟨(List.range len).map f,rfl,by simp;omega,fun r hr=>?_⟩,zjb ?_⟩
    ·obtain ⟨i,hi,rfl⟩:=List.mem_map.1 hr
     exact (hf i (List.mem_range.1 hi)).1
    ·have hl2:((List.range len).map f).length=len:=by simp
     have:=VI.isl (A:=fun B _=>B<W.heap.size) (w:=W) (P.cellsOf e) ((List.range len).map f) B o cap (fun i j=>(W.cell? ⟨B,o+i*P.cellsOf e+j,none⟩).getD undef) ⟨hB,fun h=>absurd hB (by omega)⟩ (by rw [hl2];exact hl)
      (fun i hi=>by simp at hi;simpa using (hf i hi).2.1)
      (fun i j hi hj=>by
       rw [hl2] at hi
       obtain ⟨_,_,cl,k1,k2,_⟩:=hf i hi
       have:=k2 j hj
       rw [hadd,List.getElem?_eq_getElem (by omega)] at this
       rw [this];rfl)
      (fun i hi j hj=>by
       have hi':i<len:=by rw [hl2] at hi;exact hi
       obtain ⟨_,g,cl,k1,k2,g2⟩:=hf i hi'
       have e1:((List.range len).map f)[i]=f i:=by simp
       have hj':j<(f i).length:=by rw [e1] at hj;exact hj
       have h3:=k2 j (by omega)
       rw [hadd] at h3
       show VI _ W _ ((W.cell? _).getD undef)
       rw [h3,List.getElem?_eq_getElem (by omega)]
       have h4:=g2.2 j (f i)[j] cl[j] (List.getElem?_eq_getElem hj') (List.getElem?_eq_getElem (by omega))
       have e2:((List.range len).map f)[i][j]=(f i)[j]:=by simp
       rw [e2]
       exact h4)
     rw [hl2] at this
     exact this
   |struct fs =>
    simp only [Bool.and_eq_true,beq_iff_eq,List.all_eq_true] at hp
    obtain ⟨xs,n',rfl,rfl,hcl,hxl,hfs⟩:=DataW.trod_struct hu hx
    have hfs':∀(i:Nat) (f:Field),fs.toList[i]?=some f→DataW.trod enc P W 0 (fun _=>true) true n' f.type ((cs.drop f.offset).take (P.cellsOf f.type))=xs[i]?:=fun i f h=>hfs i f (by simpa using h)
    have key:∀(l:List Field) (k o e:Nat),fs.toList.drop k=l→zrw P o l=some e→∃parts:List (List AV),parts.length=l.length∧(∀(i:Nat) f p,l[i]?=some f→parts[i]?=some p→znq P n f.type p)∧zpf W parts.flatten ((cs.drop o).take (e-o))∧o≤e:=by
     intro l
     induction l with
     |nil =>
      intro k o e _ hl
      simp only [zrw,Option.some.injEq] at hl
      subst hl
      exact ⟨[],rfl,fun i f p h=>by simp at h,⟨by simp,fun i av v h=>by simp at h⟩,Nat.le_refl _⟩
     |cons f l ih =>
      intro k o e hd hl
      unfold zrw at hl
      split at hl
      ·rename_i hoff
       have hk:fs.toList[k]?=some f:=by
        have:(fs.toList.drop k)[0]?=some f:=by rw [hd];rfl
        simpa using this
       have hd':fs.toList.drop (k+1)=l:=by
        have:=congrArg List.tail hd
        simpa [List.tail_drop] using this
       obtain ⟨parts,p1,p2,p3,p4⟩:=ih (k+1) _ e hd' hl
       have hr:=hfs' k f hk
       have hkl:k<xs.length:=by
        have:=(List.getElem?_eq_some_iff.1 hk).1
        simp at this;omega
       rw [List.getElem?_eq_getElem hkl,hoff] at hr
       obtain ⟨r,g1,g2⟩:=zqG hN n n' f.type _ xs[k] (hp.2 f (List.mem_of_getElem? hk)) hr (fun p hpp=>hlt p (List.mem_flatMap.2 ⟨xs[k],List.getElem_mem _,hpp⟩))
       refine ⟨r ::parts,by simp [p1],fun i f' p h1 h2=>?_,?_,by omega⟩
       ·cases i with
        |zero=>simp at h1 h2;subst h1 h2;exact g1
        |succ i=>exact p2 i f' p (by simpa using h1) (by simpa using h2)
       ·have e1:(cs.drop o).take (e-o)=(cs.drop o).take (P.cellsOf f.type)++(cs.drop (o+P.cellsOf f.type)).take (e-(o+P.cellsOf f.type)):=by
         have:e-o=P.cellsOf f.type+(e-(o+P.cellsOf f.type)):=by omega
         rw [this,List.take_add,List.drop_drop]
        rw [e1,List.flatten_cons]
        exact zr4 g2 p3
      ·cases hl
    obtain ⟨parts,p1,p2,p3,_⟩:=key fs.toList 0 0 _ rfl hp.1
    refine ⟨parts.flatten,⟨parts,rfl,by simpa using p1,fun i f p h1 h2=>p2 i f p (by simpa using h1) h2⟩,?_⟩
    rwa [List.drop_zero,Nat.sub_zero,List.take_of_length_le (by omega)] at p3
   |_=>cases hp
theorem zuc(hN:Flo.N=W.heap.size){n:Nat}{t:TypeId}{v:Value}{d:DataW H}{ps:List MemPlace}(hp:zrP P n t=true)(h:DataW.Trod enc P W 0 (fun _=>true) true t v d ps)(hlt:∀p∈ps,p.block<W.heap.size):∃avs,znq P n t avs∧zpf W avs v.cells.toList:=by
 obtain ⟨fuel,hf⟩:=h
 exact zqG hN n fuel t _ _ hp hf hlt
end
section
variable {P : Program} {n : Nat} {t : TypeId} {avs : List AV}
abbrev wI(k:IntKind)(x:Int):Prop:=(Lit.int k x).wf=true
abbrev wS(s:List UInt8):Prop:=s.length≤9223372036854775807
abbrev wT{α:Type}(_:α):Prop:=True
abbrev wL{α:Type}(w:α→Prop)(l:List α):Prop:=l.length≤9223372036854775807∧∀y∈l,w y
theorem gdB(hu:P.underlying t=some .bool)(h:znq P (n+1) t avs):∃x:Bool,avs=rB x∧wT x:=by
 unfold znq at h;rw [hu] at h;obtain ⟨b,rfl⟩:=h;exact ⟨b,rfl,trivial⟩
theorem gdI{k:IntKind}(hu:P.underlying t=some (.int k))(h:znq P (n+1) t avs):∃x:Int,avs=rI k x∧wI k x:=by
 unfold znq at h;rw [hu] at h;obtain ⟨m,rfl,hw⟩:=h;exact ⟨m,rfl,hw⟩
theorem gdS(hu:P.underlying t=some .string)(h:znq P (n+1) t avs):∃x:List UInt8,avs=zt x∧wS x:=by
 unfold znq at h;rw [hu] at h;obtain ⟨s,rfl,hw⟩:=h;exact ⟨s,rfl,hw⟩
theorem gdL{α:Type}{e:TypeId}{k:Nat}{f:α→List AV}{w:α→Prop}(hu:P.underlying t=some (.slice e))(hc:P.cellsOf e=k)(he:∀{r},znq P n e r→∃x:α,r=f x∧w x)(h:znq P (n+1) t avs):∃x:List α,avs=rL k f x∧wL w x:=by
 unfold znq at h;rw [hu] at h;obtain ⟨els,rfl,hl,hg⟩:=h
 subst hc
 have key:∀els:List (List AV),(∀r∈els,znq P n e r)→∃x:List α,els=x.map f∧∀y∈x,w y:=by
  intro els
  induction els with
  |nil=>intro _;exact ⟨[],rfl,fun y hy=>by cases hy⟩
  |cons r els ih =>
   intro h
   obtain ⟨x,rfl,hx⟩:=he (h r (by simp))
   obtain ⟨xs,rfl,hxs⟩:=ih fun r hr=>h r (by simp [hr])
   exact ⟨x ::xs,rfl,fun y hy=>by
    rcases List.mem_cons.1 hy with rfl |hy
    ·exact hx
    ·exact hxs y hy⟩
 obtain ⟨x,rfl,hx⟩:=key els hg
 exact ⟨x,rfl,by simpa using hl,hx⟩
theorem gdF{fs:Array Field}(hu:P.underlying t=some (.struct fs))(h:znq P (n+1) t avs):∃parts:List (List AV),avs=parts.flatten∧parts.length=fs.size∧∀(i:Nat) f p,fs[i]?=some f→parts[i]?=some p→znq P n f.type p:=by
 unfold znq at h;rw [hu] at h;exact h
variable {W : World}
theorem zz6{av:AV}{v:Value}(h:zpf W [av] v.cells.toList)(hv:v.cells.toList=[v]):VI (fun B _=>B<W.heap.size) W av v:=by
 rw [hv] at h
 exact h.2 0 av v rfl rfl
theorem zz5{cs:Array Value}(h:zpf W avs (Value.agg cs).cells.toList):VI (fun B _=>B<W.heap.size) W (.agg avs) (.agg cs):=by
 have h1:(Value.agg cs).cells.toList=cs.toList:=rfl
 rw [h1] at h
 refine .agg _ _ (by simpa using h.1.symm) fun i hi=>?_
 have hi':i<cs.size:=by have:=h.1;simp at this;omega
 have:=h.2 i avs[i] cs[i] (List.getElem?_eq_getElem hi) (by simp [hi'])
 simpa [Array.getD_eq_getD_getElem?,hi'] using this
theorem zqA{r:Reach}{base:Nat}{v:Value}{fs:Array Field}(hu:P.underlying t=some (.struct fs))(h:Value.okWide P W r base t v):∃cs,v=.agg cs:=by
 unfold Value.okWide at h
 rw [hu] at h
 obtain ⟨cs,h1,_⟩:=h
 exact ⟨cs,h1⟩
end
end
theorem zDL:zaF Tryz.prog 355 [] (.lit (.bool true)):=zhP [] 90 (by kernel_rfl) (fun g h=>by cases h) (by kernel_rfl)
theorem zDM:zaF Tryz.prog 232 [] (.lit (.bool true)):=zhP [355] 90 (by kernel_rfl) (kn1 zDL) (by kernel_rfl)
theorem zDN:zaF Tryz.prog 69 [] (.lit (.bool true)):=zhP [232] 90 (by kernel_rfl) (kn1 zDM) (by kernel_rfl)
theorem zDO:zaF Tryz.prog 364 [] (.lit (.bool true)):=zhP [69] 90 (by kernel_rfl) (kn1 zDN) (by kernel_rfl)
theorem zpm:zaF Tryz.prog 331 [] (.lit (.bool true)):=zhP [364] 90 (by kernel_rfl) (kn1 zDO) (by kernel_rfl)
theorem zDP:zaF Tryz.prog 254 [] (.lit (.bool true)):=zhP [331] 90 (by kernel_rfl) (kn1 zpm) (by kernel_rfl)
theorem zpn:zaF Tryz.prog 179 [] (.lit (.bool true)):=zhP [254] 90 (by kernel_rfl) (kn1 zDP) (by kernel_rfl)
theorem zDQ:zaF Tryz.prog 95 [] (.lit (.bool true)):=zhP [179] 90 (by kernel_rfl) (kn1 zpn) (by kernel_rfl)
theorem zpo:zaF Tryz.prog 191 [] (.lit (.bool true)):=zhP [95] 90 (by kernel_rfl) (kn1 zDQ) (by kernel_rfl)
theorem zqk{r:Bool}(_:true=r):zaF Tryz.prog 191 [] (bA true):=zpo
end
end Go.Proofs.YthmnlfenkhmmhaaGreat
namespace Go.Proofs
open Go.Shelf
def Tryz.lays190_ren:Go.Shelf.Ren:=⟨fun | 190=>338 | 125=>369 | 258=>368 | 128=>390 | 129=>391 | 302=>381 | 303=>382 | 304=>383 | 305=>384 | 306=>385 | 307=>386 | 308=>387 | 309=>388 | 310=>389 | 333=>392 | 329=>393 | 330=>394 | 334=>395 | 335=>396 | 336=>397 | 344=>398 |n=>n,fun | 31=>22 | 9=>9 | 3=>3 | 46=>211 | 0=>0 | 51=>319 | 53=>210 | 4=>4 | 183=>313 | 182=>312 | 131=>157 | 5=>5 | 218=>321 | 222=>325 | 228=>327 | 229=>248 |n=>n,fun |n=>n⟩
theorem Tryz.lays190:Go.Proofs.Lays.n190 Tryz.prog Tryz.lays190_ren:={
 mixed:=by kernel_rfl
 f125:=Tryz.func369.trans (congrArg some (by kernel_rfl))
 f128:=Tryz.func390.trans (congrArg some (by kernel_rfl))
 f129:=Tryz.func391.trans (congrArg some (by kernel_rfl))
 f190:=Tryz.func338.trans (congrArg some (by kernel_rfl))
 f258:=Tryz.func368.trans (congrArg some (by kernel_rfl))
 f302:=Tryz.func381.trans (congrArg some (by kernel_rfl))
 f303:=Tryz.func382.trans (congrArg some (by kernel_rfl))
 f304:=Tryz.func383.trans (congrArg some (by kernel_rfl))
 f305:=Tryz.func384.trans (congrArg some (by kernel_rfl))
 f306:=Tryz.func385.trans (congrArg some (by kernel_rfl))
 f307:=Tryz.func386.trans (congrArg some (by kernel_rfl))
 f308:=Tryz.func387.trans (congrArg some (by kernel_rfl))
 f309:=Tryz.func388.trans (congrArg some (by kernel_rfl))
 f310:=Tryz.func389.trans (congrArg some (by kernel_rfl))
 f329:=Tryz.func393.trans (congrArg some (by kernel_rfl))
 f330:=Tryz.func394.trans (congrArg some (by kernel_rfl))
 f333:=Tryz.func392.trans (congrArg some (by kernel_rfl))
 f334:=Tryz.func395.trans (congrArg some (by kernel_rfl))
 f335:=Tryz.func396.trans (congrArg some (by kernel_rfl))
 f336:=Tryz.func397.trans (congrArg some (by kernel_rfl))
 f344:=Tryz.func398.trans (congrArg some (by kernel_rfl))
 t0:=Tryz.underlying0
 a0:=Tryz.isAgg0
 z0:=Tryz.sizeOf0
 v0:=Tryz.zeroValue0
 t3:=Tryz.underlying3
 a3:=Tryz.isAgg3
 z3:=Tryz.sizeOf3
 v3:=Tryz.zeroValue3
 t4:=Tryz.underlying4
 a4:=Tryz.isAgg4
 z4:=Tryz.sizeOf4
 v4:=Tryz.zeroValue4
 t5:=Tryz.underlying5
 a5:=Tryz.isAgg5
 z5:=Tryz.sizeOf5
 v5:=Tryz.zeroValue5
 t9:=Tryz.underlying9
 a9:=Tryz.isAgg9
 z9:=Tryz.sizeOf9
 v9:=Tryz.zeroValue9
 t31:=Tryz.underlying22
 a31:=Tryz.isAgg22
 z31:=Tryz.sizeOf22
 v31:=Tryz.zeroValue22
 t46:=Tryz.underlying211
 a46:=Tryz.isAgg211
 z46:=Tryz.sizeOf211
 v46:=Tryz.zeroValue211
 t51:=Tryz.underlying319
 a51:=Tryz.isAgg319
 z51:=Tryz.sizeOf319
 v51:=Tryz.zeroValue319
 t53:=Tryz.underlying210
 a53:=Tryz.isAgg210
 z53:=Tryz.sizeOf210
 v53:=Tryz.zeroValue210
 t131:=Tryz.underlying157
 a131:=Tryz.isAgg157
 z131:=Tryz.sizeOf157
 v131:=Tryz.zeroValue157
 t182:=Tryz.underlying312
 a182:=Tryz.isAgg312
 z182:=Tryz.sizeOf312
 v182:=Tryz.zeroValue312
 t183:=Tryz.underlying313
 a183:=Tryz.isAgg313
 z183:=Tryz.sizeOf313
 v183:=Tryz.zeroValue313
 t218:=Tryz.underlying321
 a218:=Tryz.isAgg321
 z218:=Tryz.sizeOf321
 v218:=Tryz.zeroValue321
 t222:=Tryz.underlying325
 a222:=Tryz.isAgg325
 z222:=Tryz.sizeOf325
 v222:=Tryz.zeroValue325
 t228:=Tryz.underlying327
 a228:=Tryz.isAgg327
 z228:=Tryz.sizeOf327
 v228:=Tryz.zeroValue327
 t229:=Tryz.underlying248
 a229:=Tryz.isAgg248
 z229:=Tryz.sizeOf248
 v229:=Tryz.zeroValue248 }
end Go.Proofs
namespace Go.Proofs.YthmnlfenkhmmhaaGreat
noncomputable section
open List (length map)
set_option linter.unusedVariables false
set_option linter.unusedSectionVars false
set_option linter.unusedSimpArgs false
set_option maxRecDepth 100000
set_option maxHeartbeats 4000000
variable [Flo]
section
open Go.Sort Go.RowKit
theorem R.redo{A:Am}{m:BM}{w w':World}{st:St}(hR:R A m w st){l k:Nat}{els els':List (List AV)}(hl:st[l]?=some (some (k,els))){b:Blk}(hb:m l=some b)(hh:b.has=true)(hm:b.mp=false)
  (hsize:w.heap.size≤w'.heap.size) (hos:w'.os=w.os) (htape:w'.tape=w.tape) (hout:w'.output=w.output) (hother:∀B,B<w.heap.size→B≠b.B→w'.heap[B]?=w.heap[B]?)
  (hlen:els'.length=els.length) (hthere:∀off,off<b.top→∃v,w'.cell? ⟨b.B,off,none⟩=some v) (hfree:∀off,off<b.top→fz w' ⟨b.B,off,none⟩=false) (hw:∀i (h:i<els'.length),els'[i].length=b.k)
  (hv:∀i (h:i<els'.length) j (h':j<els'[i].length),∃v,w'.cell? ⟨b.B,b.o+i*b.k+j,none⟩=some v∧V A m st.length w els'[i][j] v):
  R A m w' (st.set l (some (k,els')))∧zdG A m st.length w A m st.length w':=by
 obtain ⟨hbk,hok,_⟩:=hR.at hb hl
 replace hok:=hok hh
 have hS:zdG A m st.length w A m st.length w':=
  ⟨Nat.le_refl _,hsize,fun _ _ h=>h,fun _ _ h=>.inl h,fun _ _=>.inl rfl,fun l b h hh=>.inr ⟨l,b,h,hh,rfl⟩,fun B hB ho=>hother B hB (fun e=>ho l b hb hh e.symm),hos,htape,hout⟩
 have hV:∀av v,V A m st.length w av v→V A m st.length w' av v:=fun av v h=>h.step hR hS
 have hlt:l<st.length:=hR.lt hb
 refine ⟨⟨fun B k hB=>Nat.lt_of_lt_of_le (hR.aLow B k hB) hsize,hR.aOwn,hR.aFun,Nat.le_trans hR.nLe hsize,hR.nOwn,hR.inj,fun l' b' h=>?_,fun l' k' els1 he=>?_⟩,hS⟩
 ·obtain ⟨els1,he⟩:=hR.live l' b' h
  by_cases e:l'=l
  ·subst e
   have:b'=b:=Option.some.inj (h.symm.trans hb)
   subst this
   exact ⟨els',by simp [hlt,hbk]⟩
  ·exact ⟨els1,by rw [List.getElem?_set_ne (Ne.symm e)];exact he⟩
 ·rw [List.length_set]
  by_cases e:l'=l
  ·subst e
   rw [List.getElem?_set_self hlt] at he
   simp at he
   obtain ⟨rfl,rfl⟩:=he
   refine ⟨b,hb,hbk,fun _=>zmd.blk ⟨Nat.lt_of_lt_of_le hok.low hsize,hthere,hfree,by rw [hlen];exact hok.fit hm,hw,fun i hi j hj=>?_⟩ hm,fun h=>by rw [hh] at h;cases h⟩
   obtain ⟨v,h1,h2⟩:=hv i hi j hj
   exact ⟨v,h1,hV _ _ h2⟩
  ·rw [List.getElem?_set_ne (Ne.symm e)] at he
   obtain ⟨b',h1,h2,h3,h4⟩:=hR.blk l' k' els1 he
   refine ⟨b',h1,h2,fun hh'=>(h3 hh').keep hsize (hother _ (h3 hh').low (fun e'=>e (hR.inj l' l b' b h1 hb hh' hh e'))) hV,h4⟩
def ztO(s:List UInt8):List (List UInt8)→List (List UInt8)
 | []=>[s]
 |x ::r=>if s≤x then s ::x ::r else x ::ztO s r
def zny:List (List UInt8)→List (List UInt8)
 | []=>[]
 |x ::r=>ztO x (zny r)
theorem zkr(s:List UInt8):∀l,(ztO s l).Perm (s ::l)
 | []=>.refl _
 |x ::r=>by
  unfold ztO
  split
  ·exact .refl _
  ·exact (List.Perm.cons x (zkr s r)).trans (List.Perm.swap s x r)
theorem zga:∀l,(zny l).Perm l
 | []=>.refl _
 |x ::r=>(zkr x (zny r)).trans (List.Perm.cons x (zga r))
theorem zzA(a b:List UInt8):a≤b∨b≤a:=List.le_total a b
theorem zlT(s:List UInt8):∀{l:List (List UInt8)},l.Pairwise (·≤·)→(ztO s l).Pairwise (·≤·)
 | [],_=>by simp [ztO]
 |x ::r,h=>by
  obtain ⟨h1,h2⟩:=List.pairwise_cons.1 h
  unfold ztO
  split
  ·rename_i hs
   refine List.pairwise_cons.2 ⟨fun y hy=>?_,h⟩
   rcases List.mem_cons.1 hy with rfl |hy
   ·exact hs
   ·exact List.le_trans hs (h1 y hy)
  ·rename_i hs
   refine List.pairwise_cons.2 ⟨fun y hy=>?_,zlT s h2⟩
   rcases List.mem_cons.1 ((zkr s r).mem_iff.1 hy) with rfl |hy
   ·exact (zzA y x).resolve_left hs
   ·exact h1 y hy
theorem zjx:∀l:List (List UInt8),(zny l).Pairwise (·≤·)
 | []=>List.Pairwise.nil
 |x ::r=>zlT x (zjx r)
theorem zwx(l:List (List UInt8)):(l.mergeSort fun x y=>decide (x≤y))=zny l:=by
 have h1:(l.mergeSort fun x y=>decide (x≤y)).Pairwise (·≤·):=by
  have:=List.pairwise_mergeSort (le:=fun x y:List UInt8=>decide (x≤y)) (fun a b c h1 h2=>decide_eq_true (List.le_trans (of_decide_eq_true h1) (of_decide_eq_true h2))) (fun a b=>by
   rcases zzA a b with h |h
   ·simp [h]
   ·simp [h]) l
  exact this.imp fun h=>of_decide_eq_true h
 exact List.Perm.eq_of_pairwise (fun a b _ _ h1 h2=>List.le_antisymm h1 h2) h1 (zjx l) ((List.mergeSort_perm l _).trans (zga l).symm)
def zvi(l:List (List UInt8)):Option (List (List UInt8)):=if l.length<4611686018427387904 then some (zny l) else none
theorem zxl{l r:List (List UInt8)}(h:zvi l=some r):r.length=l.length:=by
 unfold zvi at h
 split at h
 ·cases h;exact (zga _).length_eq
 ·cases h
theorem zyq{w w':World}{b:Nat}(h:∀c e fr,w.heap[b]?=some (.cells c e fr)→∃c',w'.heap[b]?=some (.cells c' e fr))(hc:∃c e fr,w.heap[b]?=some (.cells c e fr))(off:Nat):fz w' ⟨b,off,none⟩=fz w ⟨b,off,none⟩:=by
 obtain ⟨c,e,fr,h1⟩:=hc
 obtain ⟨c',h2⟩:=h c e fr h1
 simp only [fz,h1,h2]
theorem zy3(l:List (List UInt8)){r:List (List UInt8)}(h:zvi l=some r):SC Tryz.prog 338 [.msl 0 0 (List.length l)] [.many 1 (List.map zt l)] (.tup []) [.many 1 (List.map zt r)]:=by
 unfold zvi at h
 split at h
 case isFalse=>cases h
 rename_i hsz
 cases h
 refine ⟨⟨zgu (sz:=1) (fun _=>rfl),trivial⟩,?_⟩
 cases l with
 |nil =>
  exact zsZ (kn:=[]) (by kernel_rfl) (fun g h=>by cases h) 40 _ _ _ _ _ (by kernel_rfl)
 |cons x l =>
  generalize hl:x ::l=ss at *
  have hne:0<ss.length:=by rw [←hl];simp
  refine ⟨⟨_,Tryz.func338,by kernel_rfl,by kernel_rfl⟩,fun A m w vals hR hv=>?_⟩
  have h0:V A m 1 w (.msl 0 0 ss.length) (vals.getD 0 undef):=hv.2 0 (by simp)
  obtain ⟨hlt,a,n',cap,hval,hb⟩:=h0.msl_inv
  obtain ⟨b,h1,h2,h3,h4⟩:=hR.blk 0 1 (List.map zt ss) rfl
  obtain ⟨rfl,hcap,hc⟩:=hb b h1
  rcases hc with rfl |⟨hh,hm,rfl,hfit⟩
  ·omega
  have hok:=(h3 hh).cells hm
  have hvals:vals=#[.slice (some ⟨b.B,b.o,none⟩) ss.length cap]:=by
   have h5:vals.size=1:=hv.1
   obtain ⟨u,rfl⟩:=Array.size_eq_one_iff.1 h5
   have:u=.slice (some ⟨b.B,b.o+0*b.k,none⟩) ss.length cap:=hval
   rw [this];simp
  subst hvals
  rw [h2] at hfit
  have hcell:∀j (hj:j<ss.length),w.cell? ⟨b.B,b.o+j,none⟩=some (.string (B ss[j])):=fun j hj=>by
   obtain ⟨v,h5,h6⟩:=hok.val j (by simpa using hj) 0 (by simp [zt])
   rw [h2] at h5
   have e1:(List.map zt ss)[j]'(by simpa using hj)=[.lit (.string (B ss[j]))]:=by simp [zt]
   have h7:V A m 1 w (.lit (.string (B ss[j]))) v:=by
    have:((List.map zt ss)[j]'(by simpa using hj))[0]'(by simp [zt])=.lit (.string (B ss[j])):=by simp [zt]
    rw [←this];exact h6
   rw [h7.lit_inv] at h5
   simpa using h5
  have hH:Holds encStr w b.B b.o ss.toArray:=fun j hj=>by
   have hj':j<ss.length:=by simpa using hj
   refine ⟨?_,ziU (hok.free _ (by omega))⟩
   rw [hcell j hj']
   congr 1
   simp [encStr,hj']
  refine (Any.slices_Sort_string Tryz.lays190 b.B b.o cap ss w hH hok.low hsz).mono fun e w' ⟨he,n,os,hw'⟩=>?_
  rw [zwx] at hw'
  generalize hso:zny ss=so at hw' ⊢
  have hsl:so.length=ss.length:=by rw [←hso];exact (zga _).length_eq
  have hsa:so.toArray.size=ss.toArray.size:=by simp [hsl]
  have hlow:=hok.low
  have hheap:∀B,B<w.heap.size→B≠b.B→w'.heap[B]?=w.heap[B]?:=fun B hB hne=>by
   rw [hw',heap_grow_old _ _ (by simpa using hB)]
   show ((Go.Sort.ahead w n).heap.modify b.B _)[B]?=_
   rw [Array.getElem?_modify,if_neg (Ne.symm hne)];rfl
  have hcs:∀a:Addr,a.block=b.B→w'.cell? a=(putRow encStr w b.B b.o so.toArray).cell? a:=fun a ha=>by
   rw [hw',cell?_grow _ _ _ (by rw [ha];simpa using hlow)];rfl
  have hin:∀j (hj:j<so.length),w'.cell? ⟨b.B,b.o+j,none⟩=some (.string (B so[j])):=fun j hj=>by
   rw [hcs _ rfl,cell?_putRow encStr w b.B b.o ss.toArray so.toArray hH hsa j (by simpa using hj)]
   simp [encStr,hj]
  have hobj:∃c e fr,w.heap[b.B]?=some (.cells c e fr):=by
   obtain ⟨v,h5⟩:=hok.there b.o (by omega)
   unfold World.cell? at h5
   split at h5
   ·rename_i c e fr hq;exact ⟨c,e,_,hq⟩
   ·cases h5
  have hred:=hR.redo (w':=w') (l:=0) (k:=1) (els:=List.map zt ss) (els':=List.map zt so) rfl h1 hh hm (by rw [hw'];simp) (by rw [hw'];rfl) (by rw [hw'];rfl) (by rw [hw'];rfl) hheap (by simp [hsl])
   (fun off ho=>by
    rw [hcs _ rfl]
    by_cases hin2:b.o≤off∧off<b.o+so.length
    ·have:=hin (off-b.o) (by omega)
     rw [hcs _ rfl,show b.o+(off-b.o)=off by omega] at this
     exact ⟨_,this⟩
    ·rw [cell?_putRow_other _ _ _ _ _ _ (by right;simp;omega)]
     exact hok.there off ho)
   (fun off ho=>by
    rw [zyq (w:=w) (fun c e fr hq=>?_) hobj]
    ·exact hok.free off ho
    ·refine ⟨putCells encStr b.o so.toArray c,?_⟩
     rw [hw',heap_grow_old _ _ (by simpa using hlow)]
     show ((Go.Sort.ahead w n).heap.modify b.B _)[b.B]?=_
     rw [Array.getElem?_modify,if_pos rfl]
     show (w.heap[b.B]?).map _=_
     rw [hq];rfl)
   (fun i hi=>by rw [h2];simp [zt])
   (fun i hi j hj=>by
    have hi':i<so.length:=by simpa using hi
    have hj0:j=0:=by simp [zt] at hj;exact hj
    subst hj0
    refine ⟨.string (B so[i]),by rw [h2,Nat.mul_one,Nat.add_zero];exact hin i hi',?_⟩
    have:(List.map zt so)[i][0]'hj=.lit (.string (B so[i])):=by simp [zt]
    rw [this];exact .imm (.lit _))
  exact ⟨.tuple #[],A,m,_,.tup [],he,hred.1,hred.2,.imm (.tup _ _ rfl fun i hi=>by cases hi),rfl,rfl⟩
end
structure zw where
  Op:Int
  A:Int
  C:T0
  M:T0
def zi(x:zw):List AV:=[iA x.Op,iA x.A,sA x.C,sA x.M]
def zb5(a:UInt8):Bool:=
  ((decide (97≤(a.toNat:Int)))&&(decide ((a.toNat:Int)≤122)))
instance (a:UInt8):PF Tryz.prog 237 [.lit (.int .u8 (a.toNat:Int))] (some (zb5 a)) bA:=.of fun r h=>by
 refine zl Tryz.func237 y kz y y ?_
 unfold zb5 at h
 refine A ?_
 refine A ?_
 refine zD ?_
 obtain rfl:=h
 exact ⟨_,y,zab []⟩
def zc2(a:UInt8):Bool:=
  ((decide (65≤(a.toNat:Int)))&&(decide ((a.toNat:Int)≤90)))
instance (a:UInt8):PF Tryz.prog 249 [.lit (.int .u8 (a.toNat:Int))] (some (zc2 a)) bA:=.of fun r h=>by
 refine zl Tryz.func249 y kz y y ?_
 unfold zc2 at h
 refine A ?_
 refine A ?_
 refine zD ?_
 obtain rfl:=h
 exact ⟨_,y,zab []⟩
def zgh(a:UInt8):Bool:=
  ((decide (48≤(a.toNat:Int)))&&(decide ((a.toNat:Int)≤57)))
instance (a:UInt8):PF Tryz.prog 322 [.lit (.int .u8 (a.toNat:Int))] (some (zgh a)) bA:=.of fun r h=>by
 refine zl Tryz.func322 y kz y y ?_
 unfold zgh at h
 refine A ?_
 refine A ?_
 refine zD ?_
 obtain rfl:=h
 exact ⟨_,y,zab []⟩
def zrv(a:T0):Option (Bool):=
  some ((!(a == []))&&(decide ((length a:Int)≤8)))
def zgi(b:T0)(a:Int):Option (Sum (Int) (Sum (Unit) (Bool))):=
  cond (decide (a<(length b:Int))) ((idx b a).bind fun i=>(cond (!(zb5 i)) ((idx b a).bind fun c=>some (!(zc2 c))) (some false)).bind fun d=>(cond d ((idx b a).bind fun e=>some (!(zgh e))) (some false)).bind fun f=>cond f (some (.inr (.inr false))) (some (.inl (IntKind.i64.wrap (a+1))))) (some (.inr (.inl ())))
def zkt(a:T0):Option (Bool):=
  (zs (fun z=>zgi a z) 0).bind fun o=>zQ o (fun b=>zrv a) some
instance (a:T0):PF Tryz.prog 236 [sA a] (zkt a) bA:=⟨fun r h=>by
 refine zl Tryz.func236 y kz y y<|A ?_
 refine zf<|A ?_
 obtain ⟨o,ho,h⟩:=bs h
 refine lpB ho (fun z=>[(0,sA a),(5,iA (length a:Int)),(6,iA z)]) (fun z=>[]) (fun b=>[(0,sA a)]) (fun b=>[]) (pG Tryz.f236 bA) (zaE []) ?_ ?_
 ·rintro m r h
  refine A ?_
  refine zf ?_
  refine zeh h y (fun c h=>?_) fun c h=>?_
  ·refine ze<|zf<|zj<|A ?_
   obtain ⟨n,e,f,i,j,l,h⟩:=bs3 h
   refine A ?_
   refine zeh h y (fun d h=>?_) fun d h=>?_
   ·refine A ?_
    refine zD ?_
    obtain rfl:=sm h
    exact ⟨_,y,_,y,zab []⟩
   ·refine ze<|A ?_
    obtain rfl:=sm h
    exact ⟨_,y,zp []⟩
  ·refine zy ?_
   obtain rfl:=sm h
   exact ⟨y,_,y,zp []⟩
 ·rintro ⟨⟩ rfl
  refine zu<|A ?_
  exact RT0⟩
def zfz(a:T0):Option (Bool):=
  (zkt a).bind fun b=>(cond (b&&(decide (1<(length a:Int)))) ((idx a 0).bind fun c=>some (zc2 c)) (some false)).bind fun d=>some d
instance (a:T0):PF Tryz.prog 158 [sA a] (zfz a) bA:=⟨fun r h=>by
 refine zl Tryz.func158 y kz y y<|A ?_
 obtain ⟨b,c,d,e,h⟩:=bs2 h
 refine A ?_
 exact RT0⟩
def ziX(a:T0):Option (Bool):=
  (cond (a == [36,105,110,105,116]) (some true) ((zkt a).bind fun b=>(cond b ((idx a 0).bind fun c=>some (zb5 c)) (some false)).bind fun d=>some d)).bind fun e=>some e
instance (a:T0):PF Tryz.prog 152 [sA a] (ziX a) bA:=⟨fun r h=>by
 refine zl Tryz.func152 y kz y y<|A ?_
 obtain ⟨b,c,h⟩:=bs h
 refine A ?_
 exact RT0⟩
def zcK(b:T0)(a:T0):Option (Bool):=
  (cond (decide ((length a:Int)≤(length b:Int))) ((zhs b 0 (length a:Int)).bind fun c=>some (c == a)) (some false)).bind fun d=>some d
instance (f:T0)(e:T0):PF Tryz.prog 168 [sA f,sA e] (zcK f e) bA:=⟨fun r h=>by
 refine zl Tryz.func168 y kz y y<|A ?_
 obtain ⟨l,d,h⟩:=bs h
 refine A ?_
 refine zhw (x:=l) (j:=5) 6 y y y y y gpn (fun c=>by replace d:=bT c d;obtain ⟨m,i,d⟩:=bs d;obtain rfl:=sm d;exact g y c<|mv y<|g y c<|mv y<|g y c<|lnS ti y y<|g y c<|slS (a:=0) (b:=(length e:Int)) ti y y y (zjZ y i) i<|g y c<|mv y<|g y c<|seq ti y y<|zn (eg [11,12,13,14,15,16] 6 y y y y)) (fun hb=>(sm (bF hb d)).symm)<|A ?_
 exact RT0⟩
def zcm(a:T0)(b:T0):Option (T0):=
  (zcK a b).bind fun c=>cond c ((zhs a (length b:Int) (length a:Int)).bind fun d=>some d) (some a)
instance (c:T0)(d:T0):PF Tryz.prog 323 [sA c,sA d] (zcm c d) sA:=⟨fun r h=>by
 refine zl Tryz.func323 y kz y y<|A ?_
 refine zf ?_
 obtain ⟨i,j,h⟩:=bs h
 refine A ?_
 refine zeh h y (fun e h=>?_) fun e h=>?_
 ·obtain ⟨l,f,h⟩:=bs h
  refine A ?_
  refine u<|slS (a:=(length d:Int)) (b:=(length c:Int)) ti y y (zfP y f) y f<|A ?_
  exact RT0
 ·refine ze<|A ?_
  exact RT0⟩
def zef(a:T0)(b:T0):Option (T0):=
  (zcm a b).bind fun c=>some c
instance (a:T0)(b:T0):PF Tryz.prog 238 [sA a,sA b] (zef a b) sA:=⟨fun r h=>by
 refine zl Tryz.func238 y kz y y<|A ?_
 obtain ⟨c,d,h⟩:=bs h
 refine A ?_
 exact RT0⟩
def zg8(b:T0):Option (Bool):=
  (zef b [91]).bind fun c=>(zef c [91]).bind fun a=>(cond (a == [73]) (some true) ((zfz a).bind fun d=>some d)).bind fun e=>some e
instance (a:T0):PF Tryz.prog 153 [sA a] (zg8 a) bA:=⟨fun r h=>by
 refine zl Tryz.func153 y kz y y<|A ?_
 obtain ⟨b,c,d,e,h⟩:=bs2 h
 refine A ?_
 obtain ⟨f,i,h⟩:=bs h
 refine A ?_
 exact RT0⟩
def zjz(a:T0):Option (Bool):=
  (cond (!(a == [73])) ((zg8 a).bind fun b=>some b) (some false)).bind fun c=>some c
instance (a:T0):PF Tryz.prog 107 [sA a] (zjz a) bA:=⟨fun r h=>by
 refine zl Tryz.func107 y kz y y<|A ?_
 obtain ⟨b,c,h⟩:=bs h
 refine A ?_
 exact RT0⟩
def zdB(a:Int)(b:Int)(c:Int):Bool:=
  ((decide (b≤a))&&(decide (a≤c)))
instance (a:Int)(b:Int)(c:Int):PF Tryz.prog 288 [iA a,iA b,iA c] (some (zdB a b c)) bA:=.of fun r h=>by
 refine zl Tryz.func288 y kz y y ?_
 unfold zdB at h
 refine A ?_
 refine A ?_
 refine zD ?_
 obtain rfl:=h
 exact ⟨_,y,zab []⟩
def zjG(a:Int):Bool:=
  (zdB a 1 61)
instance (a:Int):PF Tryz.prog 360 [iA a] (some (zjG a)) bA:=.of fun r h=>by
 refine zl Tryz.func360 y kz y y ?_
 unfold zjG at h
 refine A ?_
 refine A ?_
 refine zD ?_
 obtain rfl:=h
 exact ⟨_,y,zab []⟩
def zep(a:Int):Bool:=
  (zdB a 20 36)
instance (a:Int):PF Tryz.prog 201 [iA a] (some (zep a)) bA:=.of fun r h=>by
 refine zl Tryz.func201 y kz y y ?_
 unfold zep at h
 refine A ?_
 refine A ?_
 refine zD ?_
 obtain rfl:=h
 exact ⟨_,y,zab []⟩
def zjH(a:Int)(b:Int):Bool:=
  cond (a == (1:Int)) ((zdB b (-2147483648) 2147483647)) (cond ((a == (3:Int))||(a == (4:Int))) ((zdB b 0 15)) (cond (zep a) ((zdB b 0 99)) ((b == (0:Int)))))
instance (a:Int)(b:Int):PF Tryz.prog 361 [iA a,iA b] (some (zjH a b)) bA:=.of fun r h=>by
 refine zl Tryz.func361 y kz y y<|A ?_
 refine zf<|zj<|A ?_
 refine zeh h y (fun c h=>?_) fun c h=>?_
 ·refine A ?_
  refine zD ?_
  obtain rfl:=h
  exact ⟨_,y,zab []⟩
 ·refine A ?_
  refine zeh h y (fun d h=>?_) fun d h=>?_
  ·refine A ?_
   refine zD ?_
   obtain rfl:=h
   exact ⟨_,y,zab []⟩
  ·refine A ?_
   refine zeh h y (fun e h=>?_) fun e h=>?_
   ·refine A ?_
    refine zD ?_
    obtain rfl:=h
    exact ⟨_,y,zab []⟩
   ·refine ze<|A ?_
    refine zD ?_
    obtain rfl:=h
    exact ⟨_,y,zab []⟩
def zgB(a:Int):Bool:=
  (((a == (50:Int))||(a == (56:Int)))||(a == (57:Int)))
instance (a:Int):PF Tryz.prog 380 [iA a] (some (zgB a)) bA:=.of fun r h=>by
 refine zl Tryz.func380 y kz y y ?_
 unfold zgB at h
 refine A ?_
 refine A ?_
 refine zD ?_
 obtain rfl:=h
 exact ⟨_,y,zab []⟩
def zzI(a:Int):Bool:=
  (zdB a 38 45)
instance (a:Int):PF Tryz.prog 373 [iA a] (some (zzI a)) bA:=.of fun r h=>by
 refine zl Tryz.func373 y kz y y ?_
 unfold zzI at h
 refine A ?_
 refine A ?_
 refine zD ?_
 obtain rfl:=h
 exact ⟨_,y,zab []⟩
def zzH(a:Int):Bool:=
  (((a == (37:Int))||(zzI a))||(zgB a))
instance (a:Int):PF Tryz.prog 372 [iA a] (some (zzH a)) bA:=.of fun r h=>by
 refine zl Tryz.func372 y kz y y ?_
 unfold zzH at h
 refine A ?_
 refine A ?_
 refine zD ?_
 obtain rfl:=h
 exact ⟨_,y,zab []⟩
def zqC(b:Int)(a:T0):Option (Bool):=
  cond (zgB b) ((zjz a).bind fun c=>some c) (cond (zzH b) ((zfz a).bind fun d=>some d) (some (a == [])))
instance (a:Int)(b:T0):PF Tryz.prog 362 [iA a,sA b] (zqC a b) bA:=⟨fun r h=>by
 refine zl Tryz.func362 y kz y y<|A ?_
 refine zf<|zj<|A ?_
 refine zeh h y (fun c h=>?_) fun c h=>?_
 ·obtain ⟨e,f,h⟩:=bs h
  refine A ?_
  exact RT0
 ·refine A ?_
  refine zeh h y (fun d h=>?_) fun d h=>?_
  ·obtain ⟨i,j,h⟩:=bs h
   refine A ?_
   exact RT0
  ·refine ze<|A ?_
   exact RT0⟩
def zqD(b:Int)(a:T0):Option (Bool):=
  cond (zzI b) ((ziX a).bind fun c=>some (c&&(!(a == [36,105,110,105,116])))) (some (a == []))
instance (a:Int)(b:T0):PF Tryz.prog 363 [iA a,sA b] (zqD a b) bA:=⟨fun r h=>by
 refine zl Tryz.func363 y kz y y<|A ?_
 refine zf<|A ?_
 refine zeh h y (fun c h=>?_) fun c h=>?_
 ·obtain ⟨d,e,h⟩:=bs h
  refine A ?_
  exact RT0
 ·refine ze<|A ?_
  exact RT0⟩
def zt2(a:zw):Option (Bool):=
  (cond ((zjG a.Op)&&(zjH a.Op a.A)) ((zqC a.Op a.C).bind fun b=>some b) (some false)).bind fun c=>(cond c ((zqD a.Op a.M).bind fun d=>some d) (some false)).bind fun e=>some e
instance (a:zw):PF Tryz.prog 326 [.agg (zi a)] (zt2 a) bA:=⟨fun r h=>by
 refine zl Tryz.func326 y kz y y<|A ?_
 obtain ⟨b,c,d,e,h⟩:=bs2 h
 refine A ?_
 exact RT0⟩
def zi9(a:UInt8):Bool:=
  ((decide (65≤(a.toNat:Int)))&&(decide ((a.toNat:Int)≤90)))
instance (a:UInt8):PF Tryz.prog 265 [.lit (.int .u8 (a.toNat:Int))] (some (zi9 a)) bA:=.of fun r h=>by
 refine zl Tryz.func265 y kz y y ?_
 unfold zi9 at h
 refine A ?_
 refine A ?_
 refine zD ?_
 obtain rfl:=h
 exact ⟨_,y,zab []⟩
def zh8(a:UInt8):Bool:=
  ((decide (97≤(a.toNat:Int)))&&(decide ((a.toNat:Int)≤122)))
instance (a:UInt8):PF Tryz.prog 266 [.lit (.int .u8 (a.toNat:Int))] (some (zh8 a)) bA:=.of fun r h=>by
 refine zl Tryz.func266 y kz y y ?_
 unfold zh8 at h
 refine A ?_
 refine A ?_
 refine zD ?_
 obtain rfl:=h
 exact ⟨_,y,zab []⟩
def zi8(a:UInt8):Bool:=
  ((decide (48≤(a.toNat:Int)))&&(decide ((a.toNat:Int)≤57)))
instance (a:UInt8):PF Tryz.prog 267 [.lit (.int .u8 (a.toNat:Int))] (some (zi8 a)) bA:=.of fun r h=>by
 refine zl Tryz.func267 y kz y y ?_
 unfold zi8 at h
 refine A ?_
 refine A ?_
 refine zD ?_
 obtain rfl:=h
 exact ⟨_,y,zab []⟩
def zqI(a:T0):Option (Bool):=
  some ((decide (2≤(length a:Int)))&&(decide ((length a:Int)≤8)))
def zdi(b:T0)(a:Int):Option (Sum (Int) (Sum (Unit) (Bool))):=
  cond (decide (a<(length b:Int))) ((idx b a).bind fun c=>(cond (!(zi9 c)) ((cond (a == (0:Int)) (some true) ((idx b a).bind fun d=>(cond (!(zh8 d)) ((idx b a).bind fun e=>some (!(zi8 e))) (some false)).bind fun f=>some f)).bind fun i=>some i) (some false)).bind fun j=>cond j (some (.inr (.inr false))) (some (.inl (IntKind.i64.wrap (a+1))))) (some (.inr (.inl ())))
def zfC(a:T0):Option (Bool):=
  (zs (fun z=>zdi a z) 0).bind fun o=>zQ o (fun b=>zqI a) some
instance (a:T0):PF Tryz.prog 185 [sA a] (zfC a) bA:=⟨fun r h=>by
 refine zl Tryz.func185 y kz y y<|A ?_
 refine zf<|A ?_
 obtain ⟨o,ho,h⟩:=bs h
 refine lpB ho (fun z=>[(0,sA a),(3,iA z)]) (fun z=>[]) (fun b=>[(0,sA a)]) (fun b=>[]) (pG Tryz.f185 bA) (zaE []) ?_ ?_
 ·rintro l r h
  refine zf<|A ?_
  refine zeh h y (fun c h=>?_) fun c h=>?_
  ·refine ze<|zf<|zj ?_
   obtain ⟨e,f,i,j,h⟩:=bs2 h
   refine A ?_
   refine zeh h y (fun d h=>?_) fun d h=>?_
   ·refine A ?_
    refine zD ?_
    obtain rfl:=sm h
    exact ⟨_,y,_,y,zab []⟩
   ·refine ze<|A ?_
    obtain rfl:=sm h
    exact ⟨_,y,zp []⟩
  ·refine zy ?_
   obtain rfl:=sm h
   exact ⟨y,_,y,zp []⟩
 ·rintro ⟨⟩ rfl
  refine zu<|A ?_
  exact RT0⟩
def zgl(a:Int):Bool:=
  ((decide (20≤a))&&(decide (a≤36)))
theorem zmH(a:Int){r:Bool}(h:zgl a=r):zaF Tryz.prog 336 [iA a] (bA r):=by
 refine zl Tryz.func336 y kz y y ?_
 unfold zgl at h
 refine A ?_
 refine A ?_
 refine zD ?_
 obtain rfl:=h
 exact ⟨_,y,zab []⟩
instance (a:Int):PF Tryz.prog 336 [iA a] (some (zgl a)) bA:=.of fun _=>zmH a
def zhO(a:Bool):Bool×Int×Bool:=
  cond a ((false,2,false)) ((false,0,false))
def zgC(a:Int)(b:Bool):Bool×Int×Bool:=
  cond b ((true,0,false)) (cond (a == (37:Int)) ((false,1,false)) (cond ((decide (38≤a))&&(decide (a≤45))) ((false,1,true)) (cond (a == (50:Int)) (zhO (a == (50:Int))) (cond (a == (56:Int)) (zhO (a == (56:Int))) (zhO (a == (57:Int)))))))
def ze0(a:Int):Bool×Int×Bool:=
  cond (a == (1:Int)) (zgC a (a == (1:Int))) (cond (a == (3:Int)) (zgC a (a == (3:Int))) (cond (a == (4:Int)) (zgC a (a == (4:Int))) (zgC a (zgl a))))
instance (a:Int):PF Tryz.prog 365 [iA a] (some (ze0 a)) (fun r=>(.tup [bA r.1,iA r.2.1,bA r.2.2])):=.of fun r h=>by
 refine zl Tryz.func365 y kz y y<|A ?_
 refine zf<|zj ?_
 refine zaA (X:=Bool) (fun z=>[(0,iA a),(5,bA z)]) (fun z=>[]) (fun z=>zgC a z=r) ?_ ?_
 ·refine A ?_
  refine zeh h y (fun c h=>?_) fun c h=>?_
  ·refine ze ?_
   exact ⟨(a == (1:Int)),h,zp []⟩
  ·refine A ?_
   refine zeh h y (fun d h=>?_) fun d h=>?_
   ·refine ze ?_
    exact ⟨(a == (3:Int)),h,zp []⟩
   ·refine A ?_
    refine zeh h y (fun e h=>?_) fun e h=>?_
    ·refine ze ?_
     exact ⟨(a == (4:Int)),h,zp []⟩
    ·refine A ?_
     exact (⟨(zgl a),h,zp []⟩)
 ·rintro n h
  refine zeh h y (fun f h=>?_) fun f h=>?_
  ·refine A ?_
   refine zD ?_
   obtain rfl:=h
   exact ⟨_,y,zab []⟩
  ·refine A ?_
   refine zeh h y (fun i h=>?_) fun i h=>?_
   ·refine A ?_
    refine zD ?_
    obtain rfl:=h
    exact ⟨_,y,zab []⟩
   ·refine A ?_
    refine zeh h y (fun j h=>?_) fun j h=>?_
    ·refine A ?_
     refine zD ?_
     obtain rfl:=h
     exact ⟨_,y,zab []⟩
    ·refine zaA (X:=Bool) (fun z=>[(24,bA z)]) (fun z=>[]) (fun z=>zhO z=r) ?_ ?_
     ·refine A ?_
      refine zeh h y (fun l h=>?_) fun l h=>?_
      ·refine ze ?_
       exact ⟨(a == (50:Int)),h,zp []⟩
      ·refine A ?_
       refine zeh h y (fun m h=>?_) fun m h=>?_
       ·refine ze ?_
        exact ⟨(a == (56:Int)),h,zp []⟩
       ·refine A ?_
        exact (⟨(a == (57:Int)),h,zp []⟩)
     ·rintro o h
      refine zeh h y (fun b h=>?_) fun b h=>?_
      ·refine A ?_
       refine zD ?_
       obtain rfl:=h
       exact ⟨_,y,zab []⟩
      ·refine ze<|A ?_
       refine zD ?_
       obtain rfl:=h
       exact ⟨_,y,zab []⟩
def zh9(b:Int)(a:Int):Bool:=
  cond (b == (1:Int)) (((decide ((-2147483648)≤a))&&(decide (a<2147483648)))) (cond (zgl b) (((decide (0≤a))&&(decide (a<100)))) (((decide (0≤a))&&(decide (a<16)))))
instance (a:Int)(b:Int):PF Tryz.prog 366 [iA a,iA b] (some (zh9 a b)) bA:=.of fun r h=>by
 refine zl Tryz.func366 y kz y y<|A ?_
 refine zf<|zj<|A ?_
 refine zeh h y (fun c h=>?_) fun c h=>?_
 ·refine A ?_
  refine zD ?_
  obtain rfl:=h
  exact ⟨_,y,zab []⟩
 ·refine A ?_
  refine zeh h y (fun d h=>?_) fun d h=>?_
  ·refine A ?_
   refine zD ?_
   obtain rfl:=h
   exact ⟨_,y,zab []⟩
  ·refine ze<|A ?_
   refine zD ?_
   obtain rfl:=h
   exact ⟨_,y,zab []⟩
def zl0(a:T0):Option (Bool):=
  (cond (a == [73]) (some true) ((zfC a).bind fun b=>some b)).bind fun c=>some c
def zgZ(a:T0)(b:Int):Option (Sum (T0×Int) (Sum (T0) (Bool))):=
  (cond ((decide (b<2))&&(decide (0<(length a:Int)))) ((idx a 0).bind fun e=>some ((e.toNat:Int) == (91:Int))) (some false)).bind fun c=>cond c ((zhs a 1 (length a:Int)).bind fun d=>some (.inl (d,(IntKind.i64.wrap (b+1))))) (some (.inr (.inl a)))
def zf4(a:T0):Option (Bool):=
  (zs (fun z=>zgZ z.1 z.2) (a,0)).bind fun o=>zQ o (fun b=>zl0 b) some
instance (e:T0):PF Tryz.prog 187 [sA e] (zf4 e) bA:=⟨fun r h=>by
 refine zl Tryz.func187 y kz y y<|A ?_
 refine zf<|A ?_
 obtain ⟨o,ho,h⟩:=bs h
 refine lpB ho (fun z=>[(0,sA z.1),(3,iA z.2)]) (fun z=>[]) (fun b=>[(0,sA b)]) (fun b=>[]) (pG Tryz.f187 bA) (zaE []) ?_ ?_
 ·rintro ⟨f,q⟩ r h
  refine zf ?_
  obtain ⟨i,j,h⟩:=bs h
  refine A ?_
  refine zeh h y (fun d h=>?_) fun d h=>?_
  ·refine ze<|zf<|zj ?_
   obtain ⟨l,c,h⟩:=bs h
   refine rl y<|u<|mv y<|u<|slS (a:=1) (b:=(length f:Int)) ti y y (zfP y c) y c<|A ?_
   refine A ?_
   obtain rfl:=sm h
   exact ⟨_,y,zp []⟩
  ·refine zy ?_
   obtain rfl:=sm h
   exact ⟨y,_,y,zp []⟩
 ·rintro m rfl
  refine zu ?_
  obtain ⟨n,p,h⟩:=bs h
  refine A ?_
  exact RT0⟩
def zn3(a:T0):Option (Bool):=
  (cond (!(a == [73])) ((zf4 a).bind fun b=>some b) (some false)).bind fun c=>some c
instance (a:T0):PF Tryz.prog 367 [sA a] (zn3 a) bA:=⟨fun r h=>by
 refine zl Tryz.func367 y kz y y<|A ?_
 obtain ⟨b,c,h⟩:=bs h
 refine A ?_
 exact RT0⟩
def zrT(a:T0):Option (Bool):=
  some ((decide (1≤(length a:Int)))&&(decide ((length a:Int)≤8)))
def zd8(b:T0)(a:Int):Option (Sum (Int) (Sum (Unit) (Bool))):=
  cond (decide (a<(length b:Int))) ((idx b a).bind fun c=>(cond (!(zh8 c)) ((cond (a == (0:Int)) (some true) ((idx b a).bind fun d=>(cond (!(zi9 d)) ((idx b a).bind fun e=>some (!(zi8 e))) (some false)).bind fun f=>some f)).bind fun i=>some i) (some false)).bind fun j=>cond j (some (.inr (.inr false))) (some (.inl (IntKind.i64.wrap (a+1))))) (some (.inr (.inl ())))
def zi7(a:T0):Option (Bool):=
  cond (a == [36,105,110,105,116]) (some true) ((zs (fun z=>zd8 a z) 0).bind fun o=>zQ o (fun b=>zrT a) some)
instance (a:T0):PF Tryz.prog 186 [sA a] (zi7 a) bA:=⟨fun r h=>by
 refine zl Tryz.func186 y kz y y<|A ?_
 refine zf<|A ?_
 refine zeh h y (fun e h=>?_) fun e h=>?_
 ·refine A ?_
  exact RT0
 ·refine ze<|zf<|A ?_
  obtain ⟨o,ho,h⟩:=bs h
  refine lpB ho (fun z=>[(0,sA a),(3,iA z)]) (fun z=>[]) (fun b=>[(0,sA a)]) (fun b=>[]) (pG Tryz.f186 bA) (zaE []) ?_ ?_
  ·rintro m r h
   refine zf<|A ?_
   refine zeh h y (fun c h=>?_) fun c h=>?_
   ·refine ze<|zf<|zj ?_
    obtain ⟨f,i,j,l,h⟩:=bs2 h
    refine A ?_
    refine zeh h y (fun d h=>?_) fun d h=>?_
    ·refine A ?_
     refine zD ?_
     obtain rfl:=sm h
     exact ⟨_,y,_,y,zab []⟩
    ·refine ze<|A ?_
     obtain rfl:=sm h
     exact ⟨_,y,zp []⟩
   ·refine zy ?_
    obtain rfl:=sm h
    exact ⟨y,_,y,zp []⟩
  ·rintro ⟨⟩ rfl
   refine zu<|A ?_
   exact RT0⟩
def zh7(a:zw):Option (Bool):=
  cond ((decide (a.Op<1))||(decide (61<a.Op))) (some false) (cond ((((ze0 a.Op).1)&&(!(zh9 a.Op a.A)))||((!((ze0 a.Op).1))&&(!(a.A == (0:Int))))) (some false) ((cond ((((ze0 a.Op).2.1) == (0:Int))&&(!(a.C == []))) (some true) ((cond (((ze0 a.Op).2.1) == (1:Int)) ((zfC a.C).bind fun b=>some (!b)) (some false)).bind fun c=>some c)).bind fun d=>(cond d (some true) ((cond (((ze0 a.Op).2.1) == (2:Int)) ((zn3 a.C).bind fun e=>some (!e)) (some false)).bind fun f=>some f)).bind fun i=>cond i (some false) (cond ((ze0 a.Op).2.2) ((zi7 a.M).bind fun j=>some (j&&(!(a.M == [36,105,110,105,116])))) (some (a.M == [])))))
theorem zlF(c:zw){r:Bool}(h:zh7 c=some r):zaF Tryz.prog 335 [.agg (zi c)] (bA r):=by
 refine zl Tryz.func335 y kz y y<|A ?_
 refine A ?_
 refine zf<|zj<|A ?_
 refine zeh h y (fun d h=>?_) fun d h=>?_
 ·refine A ?_
  exact RT0
 ·refine A ?_
  refine zeh h y (fun e h=>?_) fun e h=>?_
  ·refine A ?_
   exact RT0
  ·obtain ⟨l,f,m,i,h⟩:=bs2 h
   refine A ?_
   refine zeh h y (fun a h=>?_) fun a h=>?_
   ·refine A ?_
    exact RT0
   ·refine A ?_
    refine zeh h y (fun b h=>?_) fun b h=>?_
    ·obtain ⟨n,j,h⟩:=bs h
     refine A ?_
     exact RT0
    ·refine ze<|A ?_
     exact RT0
instance (a:zw):PF Tryz.prog 335 [.agg (zi a)] (zh7 a) bA:=⟨fun _=>zlF a⟩
def zgW(a:Bool):Bool:=
  cond a (true) (false)
def zh6(a:Int):Bool:=
  cond (a == (20:Int)) (zgW (a == (20:Int))) (cond (a == (46:Int)) (zgW (a == (46:Int))) (cond (a == (47:Int)) (zgW (a == (47:Int))) (cond (a == (48:Int)) (zgW (a == (48:Int))) (cond (a == (58:Int)) (zgW (a == (58:Int))) (zgW (a == (61:Int)))))))
instance (a:Int):PF Tryz.prog 203 [iA a] (some (zh6 a)) bA:=.of fun r h=>by
 refine zl Tryz.func203 y kz y y<|A ?_
 refine zf<|A ?_
 refine zj ?_
 refine zaA (X:=Bool) (fun z=>[(4,bA z)]) (fun z=>[]) (fun z=>zgW z=r) ?_ ?_
 ·refine A ?_
  refine zeh h y (fun b h=>?_) fun b h=>?_
  ·refine ze ?_
   exact ⟨(a == (20:Int)),h,zp []⟩
  ·refine A ?_
   refine zeh h y (fun c h=>?_) fun c h=>?_
   ·refine ze ?_
    exact ⟨(a == (46:Int)),h,zp []⟩
   ·refine A ?_
    refine zeh h y (fun d h=>?_) fun d h=>?_
    ·refine ze ?_
     exact ⟨(a == (47:Int)),h,zp []⟩
    ·refine A ?_
     refine zeh h y (fun e h=>?_) fun e h=>?_
     ·refine ze ?_
      exact ⟨(a == (48:Int)),h,zp []⟩
     ·refine A ?_
      refine zeh h y (fun f h=>?_) fun f h=>?_
      ·refine ze ?_
       exact ⟨(a == (58:Int)),h,zp []⟩
      ·refine A ?_
       exact (⟨(a == (61:Int)),h,zp []⟩)
 ·rintro j h
  refine zeh h y (fun i h=>?_) fun i h=>?_
  ·refine A ?_
   refine zD ?_
   obtain rfl:=h
   exact ⟨_,y,zab []⟩
  ·refine ze<|A ?_
   refine zD ?_
   obtain rfl:=h
   exact ⟨_,y,zab []⟩
def zfn(a:Bool):Bool:=
  cond a (true) (false)
def zhm(a:Int):Bool:=
  cond (a == (20:Int)) (zfn (a == (20:Int))) (cond (a == (46:Int)) (zfn (a == (46:Int))) (cond (a == (47:Int)) (zfn (a == (47:Int))) (cond (a == (48:Int)) (zfn (a == (48:Int))) (cond (a == (58:Int)) (zfn (a == (58:Int))) (zfn (a == (61:Int)))))))
instance (a:Int):PF Tryz.prog 212 [iA a] (some (zhm a)) bA:=.of fun r h=>by
 refine zl Tryz.func212 y kz y y<|A ?_
 refine zf<|A ?_
 refine zj ?_
 refine zaA (X:=Bool) (fun z=>[(4,bA z)]) (fun z=>[]) (fun z=>zfn z=r) ?_ ?_
 ·refine A ?_
  refine zeh h y (fun b h=>?_) fun b h=>?_
  ·refine ze ?_
   exact ⟨(a == (20:Int)),h,zp []⟩
  ·refine A ?_
   refine zeh h y (fun c h=>?_) fun c h=>?_
   ·refine ze ?_
    exact ⟨(a == (46:Int)),h,zp []⟩
   ·refine A ?_
    refine zeh h y (fun d h=>?_) fun d h=>?_
    ·refine ze ?_
     exact ⟨(a == (47:Int)),h,zp []⟩
    ·refine A ?_
     refine zeh h y (fun e h=>?_) fun e h=>?_
     ·refine ze ?_
      exact ⟨(a == (48:Int)),h,zp []⟩
     ·refine A ?_
      refine zeh h y (fun f h=>?_) fun f h=>?_
      ·refine ze ?_
       exact ⟨(a == (58:Int)),h,zp []⟩
      ·refine A ?_
       exact (⟨(a == (61:Int)),h,zp []⟩)
 ·rintro j h
  refine zeh h y (fun i h=>?_) fun i h=>?_
  ·refine A ?_
   refine zD ?_
   obtain rfl:=h
   exact ⟨_,y,zab []⟩
  ·refine ze<|A ?_
   refine zD ?_
   obtain rfl:=h
   exact ⟨_,y,zab []⟩
def zfR(a:T0):Option (T0×Bool):=
  (zg8 a).bind fun b=>(cond (!b) (some true) ((idx a 0).bind fun c=>some (!((c.toNat:Int) == (91:Int))))).bind fun d=>cond d (some ([],false)) ((zhs a 1 (length a:Int)).bind fun e=>some (e,true))
instance (c:T0):PF Tryz.prog 220 [sA c] (zfR c) (fun r=>(.tup [sA r.1,bA r.2])):=⟨fun r h=>by
 refine zl Tryz.func220 y kz y y<|A ?_
 refine zf ?_
 obtain ⟨f,i,j,l,h⟩:=bs2 h
 refine A ?_
 refine zeh h y (fun d h=>?_) fun d h=>?_
 ·refine A ?_
  exact RT0
 ·refine ze ?_
  obtain ⟨m,e,h⟩:=bs h
  refine rg y<|u<|mv y<|u<|slS (a:=1) (b:=(length c:Int)) ti y y (zfP y e) y e<|A ?_
  exact RT0⟩
structure zq where
  Name:T0
  Type_:T0
  Static:Bool
def zA(x:zq):List AV:=[sA x.Name,sA x.Type_,bA x.Static]
structure zU where
  At:Int
  Locals:T1
  Stack:T1
def zx(x:zU):List AV:=[iA x.At,.isl 1 (map zt x.Locals),.isl 1 (map zt x.Stack)]
structure zan where
  From:Int
  To:Int
  At:Int
  C:T0
def zap(x:zan):List AV:=[iA x.From,iA x.To,iA x.At,sA x.C]
structure zb where
  Name:T0
  Params:T1
  Ret:T0
  Static:Bool
  Abstract:Bool
  Locals:Int
  Stack:Int
  Code:List zw
  Maps:List zU
  Traps:List zan
def zd(x:zb):List AV:=[sA x.Name,.isl 1 (map zt x.Params),sA x.Ret,bA x.Static,bA x.Abstract,iA x.Locals,iA x.Stack,.isl 4 (map zi x.Code),.isl 3 (map zx x.Maps),.isl 4 (map zap x.Traps)]
structure za where
  Name:T0
  Super:T0
  Interface:Bool
  Impl:T1
  Fields:List zq
  Methods:List zb
def zc(x:za):List AV:=[sA x.Name,sA x.Super,bA x.Interface,.isl 1 (map zt x.Impl),.isl 3 (map zA x.Fields),.isl 10 (map zd x.Methods)]
def zhZ(a:zq):Option (Bool):=
  (ziX a.Name).bind fun b=>(cond (b&&(!(a.Name == [36,105,110,105,116]))) ((zg8 a.Type_).bind fun c=>some c) (some false)).bind fun d=>some d
theorem zlx(a:zq){r:Bool}(h:zhZ a=some r):zaF Tryz.prog 151 [.agg (zA a)] (bA r):=by
 refine zl Tryz.func151 y kz y y<|A ?_
 obtain ⟨b,c,d,e,h⟩:=bs2 h
 refine A ?_
 exact RT0
instance (a:zq):PF Tryz.prog 151 [.agg (zA a)] (zhZ a) bA:=⟨fun _=>zlx a⟩
def zhY(a:zq):T0:=
  a.Name
theorem zlw(a:zq){r:T0}(h:zhY a=r):zaF Tryz.prog 150 [.agg (zA a)] (sA r):=by
 refine zl Tryz.func150 y kz y y ?_
 unfold zhY at h
 refine A ?_
 refine A ?_
 refine zD ?_
 obtain rfl:=h
 exact ⟨_,y,zab []⟩
instance (a:zq):PF Tryz.prog 150 [.agg (zA a)] (some (zhY a)) sA:=.of fun _=>zlw a
def zff(a:zq)(b:T0)(c:T0)(d:Bool):Bool:=
  ((zhY (zq.mk b c d)) == (zhY a))
instance (d:zq)(a:T0)(b:T0)(c:Bool):PF Tryz.prog 235 [.agg (zA d),.ipt 1 [[.fn (.func 150) [] []]] 0 0,.ipt 3 [[sA a,sA b,bA c]] 0 0] (some (zff d a b c)) bA:=.of fun r h=>by
 refine zl Tryz.func235 y kz y y ?_
 unfold zff at h
 refine A ?_
 refine rdA [(4,_)] [] [] [0,1,2,3,4,5,6,7] [(4,_),(11,_),(10,_),(9,_),(8,_),(7,_),(6,_),(5,_)] 0 (zdg ⟨peC,peC,(by exact pb y (pc (zlw (zq.mk a b c) y) y y y<|w)),peC,peC,peC,peC,peC,t⟩ (zaE [])) ?_
 refine zD ?_
 obtain rfl:=h
 exact ⟨_,y,zab []⟩
def zcX:Option (Int):=
  some (-1)
def zaC(b:List zq)(c:T0)(d:T0)(e:Bool)(a:Int):Option (Sum (Int) (Sum (Unit) (Int))):=
  cond (decide (a<(length b:Int))) ((idx b a).bind fun f=>cond (zff f c d e) (some (.inr (.inr a))) (some (.inl (IntKind.i64.wrap (a+1))))) (some (.inr (.inl ())))
def zbB(a:List zq)(c:T0)(d:T0)(e:Bool):Option (Int):=
  (zs (fun z=>zaC a c d e z) 0).bind fun o=>zQ o (fun b=>zcX) some
instance (a:List zq)(c:T0)(d:T0)(e:Bool):PF Tryz.prog 315 [.isl 3 (map zA a),.fn (.func 235) [] [.ipt 1 [[.fn (.func 150) [] []]] 0 0,.ipt 3 [[sA c,sA d,bA e]] 0 0]] (zbB a c d e) iA:=⟨fun r h=>by
 refine zl Tryz.func315 y kz y y<|A ?_
 refine zf<|A ?_
 obtain ⟨o,ho,h⟩:=bs h
 refine lpB ho (fun z=>[(0,.isl 3 (map zA a)),(1,.fn (.func 235) [] [.ipt 1 [[.fn (.func 150) [] []]] 0 0,.ipt 3 [[sA c,sA d,bA e]] 0 0]),(7,iA (length a:Int)),(8,iA z)]) (fun z=>[]) (fun b=>[]) (fun b=>[]) (pG Tryz.f315 iA) (zaE []) ?_ ?_
 ·rintro j r h
  refine A ?_
  refine zf ?_
  refine zeh h y (fun f h=>?_) fun f h=>?_
  ·refine ze<|zf<|zj<|A ?_
   obtain ⟨l,m,h⟩:=bs h
   refine A ?_
   refine zeh h y (fun i h=>?_) fun i h=>?_
   ·refine A ?_
    refine zD ?_
    obtain rfl:=sm h
    exact ⟨_,y,_,y,zab []⟩
   ·refine ze<|A ?_
    obtain rfl:=sm h
    exact ⟨_,y,zp []⟩
  ·refine zy ?_
   obtain rfl:=sm h
   exact ⟨y,_,y,zp []⟩
 ·rintro ⟨⟩ rfl
  refine zu<|A ?_
  exact RT0⟩
def z8(a:List zq)(b:T0)(c:T0)(d:Bool):Option (Bool):=
  (zbB a b c d).bind fun e=>some (decide (0≤e))
theorem zcc(a:List zq)(b:T0)(c:T0)(d:Bool){r:Bool}(h:z8 a b c d=some r):zaF Tryz.prog 234 [.isl 3 (map zA a),.fn (.func 235) [] [.ipt 1 [[.fn (.func 150) [] []]] 0 0,.ipt 3 [[sA b,sA c,bA d]] 0 0]] (bA r):=by
 refine zl Tryz.func234 y kz y y<|A ?_
 obtain ⟨e,f,h⟩:=bs h
 refine A ?_
 exact RT0
instance (a:List zq)(b:T0)(c:T0)(d:Bool):PF Tryz.prog 234 [.isl 3 (map zA a),.fn (.func 235) [] [.ipt 1 [[.fn (.func 150) [] []]] 0 0,.ipt 3 [[sA b,sA c,bA d]] 0 0]] (z8 a b c d) bA:=⟨fun _=>zcc a b c d⟩
def zka(a:List zq)(b:Int):Option (Bool):=
  some (decide ((length a:Int)≤b))
def ze1(c:List zq)(b:Int):Option (Sum (Int) (Sum (Unit) (Bool))):=
  cond (decide (b<(length c:Int))) ((idx c b).bind fun a=>(zhZ a).bind fun d=>(cond (!d) (some true) ((zhs c 0 b).bind fun e=>(z8 e a.Name a.Type_ a.Static).bind fun f=>some f)).bind fun i=>cond i (some (.inr (.inr false))) (some (.inl (IntKind.i64.wrap (b+1))))) (some (.inr (.inl ())))
def zeG(a:List zq)(c:Int):Option (Bool):=
  (zs (fun z=>ze1 a z) 0).bind fun o=>zQ o (fun b=>zka a c) some
instance (f:List zq)(i:Int):PF Tryz.prog 149 [.isl 3 (map zA f),iA i,.fn (.func 150) [] [],.fn (.func 151) [] []] (zeG f i) bA:=⟨fun r h=>by
 refine zl Tryz.func149 y kz y y<|A ?_
 refine zf<|A ?_
 obtain ⟨o,ho,h⟩:=bs h
 refine lpB ho (fun z=>[(0,.isl 3 (map zA f)),(1,iA i),(3,.fn (.func 151) [] []),(6,.mpt 0 0 0),(11,.isl 3 (map zA f)),(12,iA (length f:Int)),(13,iA z)]) (fun z=>[some (1,[[.fn (.func 150) [] []]])]) (fun b=>[(0,.isl 3 (map zA f)),(1,iA i)]) (fun b=>[]) (pG Tryz.f149 bA) (zaE [.old 0]) ?_ ?_
 ·rintro B r h
  refine A ?_
  refine zf ?_
  refine zeh h y (fun n h=>?_) fun n h=>?_
  ·refine ze<|zf<|zj ?_
   obtain ⟨e,C,h⟩:=bs h
   refine A ?_
   obtain ⟨D,p,q,d,h⟩:=bs2 h
   refine rg y<|u<|mv y<|u<|ld ti y y<|u<|pc (zlx e p) y y y<|u<|nt y<|u<|mv y<|zq3 (x:=q) (j:=4) 5 y y y y y gpn (fun c=>by replace d:=bF c d;obtain ⟨s,l,d⟩:=bs d;obtain ⟨E,v,d⟩:=bs d;obtain rfl:=sm d;exact g y c<|mv y<|g y c<|mv y<|g y c<|slI (a:=0) (b:=B) ti y ti y y y (zjZ y l) l<|g y c<|mf y y<|g y c<|pcs (zcc s e.Name e.Type_ e.Static v) y y (.cons (si y) (.cons (zgP t ⟨(zbO y ⟨(si y),t⟩),(zbO y ⟨(si y),(si y),(si y),t⟩),t⟩) .nil)) zbF<|zn (eg [23,24,25,26,27] 5 y y y y)) (fun hb=>(sm (bT hb d)).symm)<|zn ?_
   refine zeh h y (fun m h=>?_) fun m h=>?_
   ·refine A ?_
    refine zD ?_
    obtain rfl:=sm h
    exact ⟨_,y,_,y,zab []⟩
   ·refine ze<|A ?_
    obtain rfl:=sm h
    exact ⟨_,y,zp [.old 0]⟩
  ·refine zy ?_
   obtain rfl:=sm h
   exact ⟨y,_,y,zp []⟩
 ·rintro ⟨⟩ rfl
  refine zu<|A ?_
  exact RT0⟩
def zjo(a:T0):Option (Bool):=
  (zg8 a).bind fun b=>some (!b)
instance (a:T0):PF Tryz.prog 324 [sA a,.ipt 1 [[.fn (.func 153) [] []]] 0 0] (zjo a) bA:=⟨fun r h=>by
 refine zl Tryz.func324 y kz y y<|A ?_
 obtain ⟨b,c,h⟩:=bs h
 refine A ?_
 exact RT0⟩
def zee:Option (Int):=
  some (-1)
def zbc(b:T1)(a:Int):Option (Sum (Int) (Sum (Unit) (Int))):=
  cond (decide (a<(length b:Int))) ((idx b a).bind fun c=>(zjo c).bind fun d=>cond d (some (.inr (.inr a))) (some (.inl (IntKind.i64.wrap (a+1))))) (some (.inr (.inl ())))
def zcY(a:T1):Option (Int):=
  (zs (fun z=>zbc a z) 0).bind fun o=>zQ o (fun b=>zee) some
instance (a:T1):PF Tryz.prog 181 [.isl 1 (map zt a),.fn (.func 324) [] [.ipt 1 [[.fn (.func 153) [] []]] 0 0]] (zcY a) iA:=⟨fun r h=>by
 refine zl Tryz.func181 y kz y y<|A ?_
 refine zf<|A ?_
 obtain ⟨o,ho,h⟩:=bs h
 refine lpB ho (fun z=>[(0,.isl 1 (map zt a)),(1,.fn (.func 324) [] [.ipt 1 [[.fn (.func 153) [] []]] 0 0]),(7,iA (length a:Int)),(8,iA z)]) (fun z=>[]) (fun b=>[]) (fun b=>[]) (pG Tryz.f181 iA) (zaE []) ?_ ?_
 ·rintro e r h
  refine A ?_
  refine zf ?_
  refine zeh h y (fun c h=>?_) fun c h=>?_
  ·refine ze<|zf<|zj<|A ?_
   obtain ⟨f,i,j,l,h⟩:=bs2 h
   refine A ?_
   refine zeh h y (fun d h=>?_) fun d h=>?_
   ·refine A ?_
    refine zD ?_
    obtain rfl:=sm h
    exact ⟨_,y,_,y,zab []⟩
   ·refine ze<|A ?_
    obtain rfl:=sm h
    exact ⟨_,y,zp []⟩
  ·refine zy ?_
   obtain rfl:=sm h
   exact ⟨y,_,y,zp []⟩
 ·rintro ⟨⟩ rfl
  refine zu<|A ?_
  exact RT0⟩
def zbb(a:T1):Option (Bool):=
  (zcY a).bind fun b=>some (decide (0≤b))
theorem zdr(a:T1){r:Bool}(h:zbb a=some r):zaF Tryz.prog 99 [.isl 1 (map zt a),.fn (.func 324) [] [.ipt 1 [[.fn (.func 153) [] []]] 0 0]] (bA r):=by
 refine zl Tryz.func99 y kz y y<|A ?_
 obtain ⟨b,c,h⟩:=bs h
 refine A ?_
 exact RT0
instance (a:T1):PF Tryz.prog 99 [.isl 1 (map zt a),.fn (.func 324) [] [.ipt 1 [[.fn (.func 153) [] []]] 0 0]] (zbb a) bA:=⟨fun _=>zdr a⟩
def zjn(a:T1):Option (Bool):=
  (zbb a).bind fun b=>some (!b)
instance (a:T1):PF Tryz.prog 241 [.isl 1 (map zt a),.fn (.func 153) [] []] (zjn a) bA:=⟨fun r h=>by
 refine zl Tryz.func241 y kz y y<|A ?_
 obtain ⟨c,b,h⟩:=bs h
 refine A ?_
 refine u<|pcs (zdr a b) y y (.cons (si y) (.cons (zgP t ⟨(zbO y ⟨(si y),t⟩),t⟩) .nil)) zbF<|A ?_
 exact RT0⟩
def znY(a:T0):Option (Bool):=
  (cond (a == [86]) (some true) ((zg8 a).bind fun b=>some b)).bind fun c=>some c
instance (a:T0):PF Tryz.prog 242 [sA a] (znY a) bA:=⟨fun r h=>by
 refine zl Tryz.func242 y kz y y<|A ?_
 obtain ⟨b,c,h⟩:=bs h
 refine A ?_
 exact RT0⟩
def zfg(a:zb):Bool:=
  (((((!a.Static)&&(!(a.Name == [36,105,110,105,116])))&&(a.Locals == (0:Int)))&&(a.Stack == (0:Int)))&&((IntKind.i64.wrap ((IntKind.i64.wrap ((length a.Code:Int)+(length a.Maps:Int)))+(length a.Traps:Int))) == (0:Int)))
instance (a:zb):PF Tryz.prog 243 [.agg (zd a)] (some (zfg a)) bA:=.of fun r h=>by
 refine zl Tryz.func243 y kz y y ?_
 unfold zfg at h
 refine A ?_
 refine A ?_
 refine zD ?_
 obtain rfl:=h
 exact ⟨_,y,zab []⟩
def zac(a:zb):Int:=
  cond a.Static ((length a.Params:Int)) ((IntKind.i64.wrap ((length a.Params:Int)+1)))
theorem zhG(a:zb){r:Int}(h:zac a=r):zaF Tryz.prog 245 [.agg (zd a)] (iA r):=by
 refine zl Tryz.func245 y kz y y<|A ?_
 refine zf<|A ?_
 refine zeh h y (fun b h=>?_) fun b h=>?_
 ·refine A ?_
  refine zD ?_
  obtain rfl:=h
  exact ⟨_,y,zab []⟩
 ·refine ze<|A ?_
  refine zD ?_
  obtain rfl:=h
  exact ⟨_,y,zab []⟩
instance (a:zb):PF Tryz.prog 245 [.agg (zd a)] (some (zac a)) iA:=.of fun _=>zhG a
def zo(a:Int)(b:Int)(c:Int):Bool:=
  ((decide (b≤a))&&(decide (a≤c)))
theorem zdT(a:Int)(b:Int)(c:Int){r:Bool}(h:zo a b c=r):zaF Tryz.prog 244 [iA a,iA b,iA c] (bA r):=by
 refine zl Tryz.func244 y kz y y ?_
 unfold zo at h
 refine A ?_
 refine A ?_
 refine zD ?_
 obtain rfl:=h
 exact ⟨_,y,zab []⟩
instance (a:Int)(b:Int)(c:Int):PF Tryz.prog 244 [iA a,iA b,iA c] (some (zo a b c)) bA:=.of fun _=>zdT a b c
def zfK(a:zw)(b:Int):Option (Bool):=
  (zt2 a).bind fun c=>some ((!c)||((zep a.Op)&&(decide (b≤a.A))))
instance (a:zw)(b:Int):PF Tryz.prog 325 [.agg (zi a),.ipt 1 [[iA b]] 0 0] (zfK a b) bA:=⟨fun r h=>by
 refine zl Tryz.func325 y kz y y<|A ?_
 obtain ⟨c,d,h⟩:=bs h
 refine A ?_
 exact RT0⟩
def zdL:Option (Int):=
  some (-1)
def za0(b:List zw)(c:Int)(a:Int):Option (Sum (Int) (Sum (Unit) (Int))):=
  cond (decide (a<(length b:Int))) ((idx b a).bind fun d=>(zfK d c).bind fun e=>cond e (some (.inr (.inr a))) (some (.inl (IntKind.i64.wrap (a+1))))) (some (.inr (.inl ())))
def zcg(a:List zw)(c:Int):Option (Int):=
  (zs (fun z=>za0 a c z) 0).bind fun o=>zQ o (fun b=>zdL) some
instance (a:List zw)(c:Int):PF Tryz.prog 349 [.isl 4 (map zi a),.fn (.func 325) [] [.ipt 1 [[iA c]] 0 0]] (zcg a c) iA:=⟨fun r h=>by
 refine zl Tryz.func349 y kz y y<|A ?_
 refine zf<|A ?_
 obtain ⟨o,ho,h⟩:=bs h
 refine lpB ho (fun z=>[(0,.isl 4 (map zi a)),(1,.fn (.func 325) [] [.ipt 1 [[iA c]] 0 0]),(7,iA (length a:Int)),(8,iA z)]) (fun z=>[]) (fun b=>[]) (fun b=>[]) (pG Tryz.f349 iA) (zaE []) ?_ ?_
 ·rintro f r h
  refine A ?_
  refine zf ?_
  refine zeh h y (fun d h=>?_) fun d h=>?_
  ·refine ze<|zf<|zj<|A ?_
   obtain ⟨i,j,l,m,h⟩:=bs2 h
   refine A ?_
   refine zeh h y (fun e h=>?_) fun e h=>?_
   ·refine A ?_
    refine zD ?_
    obtain rfl:=sm h
    exact ⟨_,y,_,y,zab []⟩
   ·refine ze<|A ?_
    obtain rfl:=sm h
    exact ⟨_,y,zp []⟩
  ·refine zy ?_
   obtain rfl:=sm h
   exact ⟨y,_,y,zp []⟩
 ·rintro ⟨⟩ rfl
  refine zu<|A ?_
  exact RT0⟩
def zat(a:List zw)(b:Int):Option (Bool):=
  (zcg a b).bind fun c=>some (decide (0≤c))
theorem zc7(a:List zw)(b:Int){r:Bool}(h:zat a b=some r):zaF Tryz.prog 304 [.isl 4 (map zi a),.fn (.func 325) [] [.ipt 1 [[iA b]] 0 0]] (bA r):=by
 refine zl Tryz.func304 y kz y y<|A ?_
 obtain ⟨c,d,h⟩:=bs h
 refine A ?_
 exact RT0
instance (a:List zw)(b:Int):PF Tryz.prog 304 [.isl 4 (map zi a),.fn (.func 325) [] [.ipt 1 [[iA b]] 0 0]] (zat a b) bA:=⟨fun _=>zc7 a b⟩
def zd2(a:zb):Option (Bool):=
  (cond (!(zo (length a.Code:Int) 1 100)) (some true) ((idx a.Code (IntKind.i64.wrap ((length a.Code:Int)-1))).bind fun b=>some (!(zh6 b.Op)))).bind fun c=>cond c (some false) ((zat a.Code (length a.Code:Int)).bind fun d=>some (!d))
theorem zhf(a:zb){r:Bool}(h:zd2 a=some r):zaF Tryz.prog 246 [.agg (zd a)] (bA r):=by
 refine zl Tryz.func246 y kz y y<|A ?_
 refine A ?_
 refine zf ?_
 obtain ⟨d,e,h⟩:=bs h
 refine A ?_
 refine zeh h y (fun b h=>?_) fun b h=>?_
 ·refine A ?_
  exact RT0
 ·refine ze ?_
  obtain ⟨f,c,h⟩:=bs h
  refine A ?_
  refine u<|pcs (zc7 a.Code (length a.Code:Int) c) y y (.cons (si y) (.cons (zgP t ⟨(zbO y ⟨(si y),t⟩),t⟩) .nil)) zbF<|A ?_
  exact RT0
instance (a:zb):PF Tryz.prog 246 [.agg (zd a)] (zd2 a) bA:=⟨fun _=>zhf a⟩
def zk4(a:T0):Option (Bool):=
  (cond (((a == [73])||(a == [78]))||(a == [84])) (some true) ((zjz a).bind fun b=>some b)).bind fun c=>some c
instance (a:T0):PF Tryz.prog 327 [sA a] (zk4 a) bA:=⟨fun r h=>by
 refine zl Tryz.func327 y kz y y<|A ?_
 obtain ⟨b,c,h⟩:=bs h
 refine A ?_
 exact RT0⟩
def zht(a:T0):Option (Bool):=
  (zk4 a).bind fun b=>some (!b)
instance (a:T0):PF Tryz.prog 324 [sA a,.ipt 1 [[.fn (.func 327) [] []]] 0 0] (zht a) bA:=⟨fun r h=>by
 refine zl Tryz.func324 y kz y y<|A ?_
 obtain ⟨b,c,h⟩:=bs h
 refine A ?_
 exact RT0⟩
def zds:Option (Int):=
  some (-1)
def zaS(b:T1)(a:Int):Option (Sum (Int) (Sum (Unit) (Int))):=
  cond (decide (a<(length b:Int))) ((idx b a).bind fun c=>(zht c).bind fun d=>cond d (some (.inr (.inr a))) (some (.inl (IntKind.i64.wrap (a+1))))) (some (.inr (.inl ())))
def zbY(a:T1):Option (Int):=
  (zs (fun z=>zaS a z) 0).bind fun o=>zQ o (fun b=>zds) some
instance (a:T1):PF Tryz.prog 181 [.isl 1 (map zt a),.fn (.func 324) [] [.ipt 1 [[.fn (.func 327) [] []]] 0 0]] (zbY a) iA:=⟨fun r h=>by
 refine zl Tryz.func181 y kz y y<|A ?_
 refine zf<|A ?_
 obtain ⟨o,ho,h⟩:=bs h
 refine lpB ho (fun z=>[(0,.isl 1 (map zt a)),(1,.fn (.func 324) [] [.ipt 1 [[.fn (.func 327) [] []]] 0 0]),(7,iA (length a:Int)),(8,iA z)]) (fun z=>[]) (fun b=>[]) (fun b=>[]) (pG Tryz.f181 iA) (zaE []) ?_ ?_
 ·rintro e r h
  refine A ?_
  refine zf ?_
  refine zeh h y (fun c h=>?_) fun c h=>?_
  ·refine ze<|zf<|zj<|A ?_
   obtain ⟨f,i,j,l,h⟩:=bs2 h
   refine A ?_
   refine zeh h y (fun d h=>?_) fun d h=>?_
   ·refine A ?_
    refine zD ?_
    obtain rfl:=sm h
    exact ⟨_,y,_,y,zab []⟩
   ·refine ze<|A ?_
    obtain rfl:=sm h
    exact ⟨_,y,zp []⟩
  ·refine zy ?_
   obtain rfl:=sm h
   exact ⟨y,_,y,zp []⟩
 ·rintro ⟨⟩ rfl
  refine zu<|A ?_
  exact RT0⟩
def zaP(a:T1):Option (Bool):=
  (zbY a).bind fun b=>some (decide (0≤b))
theorem zcR(a:T1){r:Bool}(h:zaP a=some r):zaF Tryz.prog 99 [.isl 1 (map zt a),.fn (.func 324) [] [.ipt 1 [[.fn (.func 327) [] []]] 0 0]] (bA r):=by
 refine zl Tryz.func99 y kz y y<|A ?_
 obtain ⟨b,c,h⟩:=bs h
 refine A ?_
 exact RT0
instance (a:T1):PF Tryz.prog 99 [.isl 1 (map zt a),.fn (.func 324) [] [.ipt 1 [[.fn (.func 327) [] []]] 0 0]] (zaP a) bA:=⟨fun _=>zcR a⟩
def zfQ(a:T1):Option (Bool):=
  (zaP a).bind fun b=>some (!b)
instance (a:T1):PF Tryz.prog 241 [.isl 1 (map zt a),.fn (.func 327) [] []] (zfQ a) bA:=⟨fun r h=>by
 refine zl Tryz.func241 y kz y y<|A ?_
 obtain ⟨c,b,h⟩:=bs h
 refine A ?_
 refine u<|pcs (zcR a b) y y (.cons (si y) (.cons (zgP t ⟨(zbO y ⟨(si y),t⟩),t⟩) .nil)) zbF<|A ?_
 exact RT0⟩
def zeW:Option (Int):=
  some (-1)
def zbD(b:T1)(c:T0)(a:Int):Option (Sum (Int) (Sum (Unit) (Int))):=
  cond (decide (a<(length b:Int))) ((idx b a).bind fun d=>cond (c == d) (some (.inr (.inr a))) (some (.inl (IntKind.i64.wrap (a+1))))) (some (.inr (.inl ())))
def zdS(a:T1)(c:T0):Option (Int):=
  (zs (fun z=>zbD a c z) 0).bind fun o=>zQ o (fun b=>zeW) some
instance (a:T1)(c:T0):PF Tryz.prog 131 [.isl 1 (map zt a),sA c] (zdS a c) iA:=⟨fun r h=>by
 refine zl Tryz.func131 y kz y y<|A ?_
 refine zf<|A ?_
 obtain ⟨o,ho,h⟩:=bs h
 refine lpB ho (fun z=>[(0,.isl 1 (map zt a)),(1,sA c),(7,iA (length a:Int)),(8,iA z)]) (fun z=>[]) (fun b=>[]) (fun b=>[]) (pG Tryz.f131 iA) (zaE []) ?_ ?_
 ·rintro f r h
  refine A ?_
  refine zf ?_
  refine zeh h y (fun d h=>?_) fun d h=>?_
  ·refine ze<|zf<|zj<|A ?_
   obtain ⟨i,j,h⟩:=bs h
   refine A ?_
   refine zeh h y (fun e h=>?_) fun e h=>?_
   ·refine A ?_
    refine zD ?_
    obtain rfl:=sm h
    exact ⟨_,y,_,y,zab []⟩
   ·refine ze<|A ?_
    obtain rfl:=sm h
    exact ⟨_,y,zp []⟩
  ·refine zy ?_
   obtain rfl:=sm h
   exact ⟨y,_,y,zp []⟩
 ·rintro ⟨⟩ rfl
  refine zu<|A ?_
  exact RT0⟩
def zI(a:T1)(b:T0):Option (Bool):=
  (zdS a b).bind fun c=>some (decide (0≤c))
theorem zag(a:T1)(b:T0){r:Bool}(h:zI a b=some r):zaF Tryz.prog 136 [.isl 1 (map zt a),sA b] (bA r):=by
 refine zl Tryz.func136 y kz y y<|A ?_
 obtain ⟨c,d,h⟩:=bs h
 refine A ?_
 exact RT0
instance (a:T1)(b:T0):PF Tryz.prog 136 [.isl 1 (map zt a),sA b] (zI a b) bA:=⟨fun _=>zag a b⟩
def zp5(a:zb):Option (Bool):=
  some (decide ((length a.Maps:Int)≤100))
def zfw(b:zb)(c:Int)(a:zU)(d:Bool):Option (Sum (Int) (Sum (Unit) (Bool))):=
  cond d (some (.inr (.inr false))) ((cond ((!((length a.Locals:Int) == b.Locals))||(decide (b.Stack<(length a.Stack:Int)))) (some true) ((zfQ a.Locals).bind fun e=>some (!e))).bind fun f=>(cond f (some true) ((zfQ a.Stack).bind fun i=>some (!i))).bind fun j=>(cond j (some true) ((zI a.Stack [84]).bind fun l=>some l)).bind fun m=>cond m (some (.inr (.inr false))) (some (.inl (IntKind.i64.wrap (c+1)))))
def zfx(c:zb)(a:Int):Option (Sum (Int) (Sum (Unit) (Bool))):=
  cond (decide (a<(length c.Maps:Int))) ((idx c.Maps a).bind fun b=>cond (!(zo b.At 0 (IntKind.i64.wrap ((length c.Code:Int)-1)))) (zfw c a b true) (cond (decide (0<a)) ((idx c.Maps (IntKind.i64.wrap (a-1))).bind fun d=>zfw c a b (decide (b.At≤d.At))) (zfw c a b false))) (some (.inr (.inl ())))
def zk2(a:zb):Option (Bool):=
  (zs (fun z=>zfx a z) 0).bind fun o=>zQ o (fun b=>zp5 a) some
instance (a:zb):PF Tryz.prog 247 [.agg (zd a)] (zk2 a) bA:=⟨fun r h=>by
 refine zl Tryz.func247 y kz y y<|A ?_
 refine zf<|A ?_
 obtain ⟨o,ho,h⟩:=bs h
 refine lpB ho (fun z=>[(1,.mpt 0 0 0),(6,.isl 3 (map zx a.Maps)),(7,iA (length a.Maps:Int)),(8,iA z)]) (fun z=>[some (10,[(zd a)])]) (fun b=>[(1,.mpt 0 0 0)]) (fun b=>[some (10,[(zd a)])]) (pG Tryz.f247 bA) (zaE [.old 0]) ?_ ?_
 ·rintro f r h
  refine A ?_
  refine zf ?_
  refine zeh h y (fun i h=>?_) fun i h=>?_
  ·refine ze<|zf<|zj ?_
   obtain ⟨e,n,h⟩:=bs h
   refine A ?_
   refine zf ?_
   refine zaA (X:=Bool) (fun z=>[(1,.mpt 0 0 0),(4,.mpt 1 0 0),(6,.isl 3 (map zx a.Maps)),(7,iA (length a.Maps:Int)),(8,iA f),(36,bA z)]) (fun z=>[some (10,[(zd a)]),some (3,[(zx e)])]) (fun z=>zfw a f e z=some r) ?_ ?_
   ·rcases bb (!(zo e.At 0 (IntKind.i64.wrap ((length a.Code:Int)-1)))) with c |c
    ·replace h:=bT c h
     exact rdQ [] [0,1,2,3,4,5,6,7,8,9,10,11,12,13,14,15,16,17,18,19,20,21,22,23] [(36,_),(35,_),(34,_),(33,_),(32,_),(31,_),(30,_),(29,_),(28,_),(27,_),(26,_),(25,_),(24,_),(23,_),(22,_),(21,_),(20,_),(19,_),(18,_),(17,_),(16,_),(15,_),(14,_),(13,_)] 0 (zdg (z:=by exact ⟨true,h,zaE [.old 0,.old 1]⟩))
    ·replace h:=bF c h
     rcases bb (decide (0<f)) with d |d
     ·replace h:=bT d h
      obtain ⟨m,p,h⟩:=bs h
      exact rdQ [] [0,1,2,3,4,5,6,7,8,9,10,11,12,13,14,15,16,17,18,19,20,21,22,23] [(36,_),(35,_),(34,_),(33,_),(32,_),(31,_),(30,_),(29,_),(28,_),(27,_),(26,_),(25,_),(24,_),(23,_),(22,_),(21,_),(20,_),(19,_),(18,_),(17,_),(16,_),(15,_),(14,_),(13,_)] 0 (zdg (z:=by exact ⟨(decide (e.At≤m.At)),h,zaE [.old 0,.old 1]⟩))
     ·replace h:=bF d h
      exact rdQ [] [0,1,2,3,4,5,6,7,8,9,10,11,12,13,14,15,16,17,18,19,20,21,22,23] [(36,_),(35,_),(34,_),(33,_),(32,_),(31,_),(30,_),(29,_),(28,_),(27,_),(26,_),(25,_),(24,_),(23,_),(22,_),(21,_),(20,_),(19,_),(18,_),(17,_),(16,_),(15,_),(14,_),(13,_)] 0 (zdg (z:=by exact ⟨false,h,zaE [.old 0,.old 1]⟩))
   ·rintro q h
    refine zeh h y (fun j h=>?_) fun j h=>?_
    ·refine A ?_
     refine zD ?_
     obtain rfl:=sm h
     exact ⟨_,y,_,y,zab []⟩
    ·refine ze ?_
     obtain ⟨s,v,x,B,C,D,h⟩:=bs3 h
     refine A ?_
     refine zeh h y (fun l h=>?_) fun l h=>?_
     ·refine A ?_
      refine zD ?_
      obtain rfl:=sm h
      exact ⟨_,y,_,y,zab []⟩
     ·refine ze<|A ?_
      obtain rfl:=sm h
      exact ⟨_,y,zp [.old 0]⟩
  ·refine zy ?_
   obtain rfl:=sm h
   exact ⟨y,_,y,zp [.old 0]⟩
 ·rintro ⟨⟩ rfl
  refine zu<|A ?_
  exact RT0⟩
def zjm(a:zan)(j:T0)(l:T1)(m:T0)(n:Bool)(o:Bool)(p:Int)(q:Int)(b:List zw)(f:List zU)(i:List zan):Option (Bool):=
  (cond ((((decide (a.From<0))||(decide (a.To≤a.From)))||(decide ((length b:Int)<a.To)))||(!(zo a.At 0 (IntKind.i64.wrap ((length b:Int)-1))))) (some true) ((cond (!(a.C == [])) ((zfz a.C).bind fun c=>some (!c)) (some false)).bind fun d=>some d)).bind fun e=>some e
instance (c:zan)(d:T0)(e:T1)(f:T0)(i:Bool)(j:Bool)(l:Int)(m:Int)(n:List zw)(a:List zU)(b:List zan):PF Tryz.prog 328 [.agg (zap c),.ipt 10 [[sA d,.isl 1 (map zt e),sA f,bA i,bA j,iA l,iA m,.isl 4 (map zi n),.isl 3 (map zx a),.isl 4 (map zap b)]] 0 0] (zjm c d e f i j l m n a b) bA:=⟨fun r h=>by
 refine zl Tryz.func328 y kz y y<|A ?_
 obtain ⟨o,p,h⟩:=bs h
 refine A ?_
 exact RT0⟩
def zdc:Option (Int):=
  some (-1)
def zaN(b:List zan)(i:T0)(j:T1)(l:T0)(m:Bool)(n:Bool)(o:Int)(p:Int)(q:List zw)(c:List zU)(d:List zan)(a:Int):Option (Sum (Int) (Sum (Unit) (Int))):=
  cond (decide (a<(length b:Int))) ((idx b a).bind fun e=>(zjm e i j l m n o p q c d).bind fun f=>cond f (some (.inr (.inr a))) (some (.inl (IntKind.i64.wrap (a+1))))) (some (.inr (.inl ())))
def zbP(d:List zan)(e:T0)(f:T1)(i:T0)(j:Bool)(l:Bool)(m:Int)(n:Int)(p:List zw)(a:List zU)(c:List zan):Option (Int):=
  (zs (fun z=>zaN d e f i j l m n p a c z) 0).bind fun o=>zQ o (fun b=>zdc) some
instance (d:List zan)(e:T0)(f:T1)(i:T0)(j:Bool)(l:Bool)(m:Int)(n:Int)(p:List zw)(a:List zU)(c:List zan):PF Tryz.prog 348 [.isl 4 (map zap d),.fn (.func 328) [] [.ipt 10 [[sA e,.isl 1 (map zt f),sA i,bA j,bA l,iA m,iA n,.isl 4 (map zi p),.isl 3 (map zx a),.isl 4 (map zap c)]] 0 0]] (zbP d e f i j l m n p a c) iA:=⟨fun r h=>by
 refine zl Tryz.func348 y kz y y<|A ?_
 refine zf<|A ?_
 obtain ⟨o,ho,h⟩:=bs h
 refine lpB ho (fun z=>[(0,.isl 4 (map zap d)),(1,.fn (.func 328) [] [.ipt 10 [[sA e,.isl 1 (map zt f),sA i,bA j,bA l,iA m,iA n,.isl 4 (map zi p),.isl 3 (map zx a),.isl 4 (map zap c)]] 0 0]),(7,iA (length d:Int)),(8,iA z)]) (fun z=>[]) (fun b=>[]) (fun b=>[]) (pG Tryz.f348 iA) (zaE []) ?_ ?_
 ·rintro v r h
  refine A ?_
  refine zf ?_
  refine zeh h y (fun q h=>?_) fun q h=>?_
  ·refine ze<|zf<|zj<|A ?_
   obtain ⟨x,C,B,D,h⟩:=bs2 h
   refine A ?_
   refine zeh h y (fun s h=>?_) fun s h=>?_
   ·refine A ?_
    refine zD ?_
    obtain rfl:=sm h
    exact ⟨_,y,_,y,zab []⟩
   ·refine ze<|A ?_
    obtain rfl:=sm h
    exact ⟨_,y,zp []⟩
  ·refine zy ?_
   obtain rfl:=sm h
   exact ⟨y,_,y,zp []⟩
 ·rintro ⟨⟩ rfl
  refine zu<|A ?_
  exact RT0⟩
def zaM(d:List zan)(e:T0)(f:T1)(i:T0)(j:Bool)(l:Bool)(m:Int)(n:Int)(o:List zw)(a:List zU)(b:List zan):Option (Bool):=
  (zbP d e f i j l m n o a b).bind fun c=>some (decide (0≤c))
theorem zcz(c:List zan)(d:T0)(e:T1)(f:T0)(i:Bool)(j:Bool)(l:Int)(m:Int)(n:List zw)(a:List zU)(b:List zan){r:Bool}(h:zaM c d e f i j l m n a b=some r):zaF Tryz.prog 302 [.isl 4 (map zap c),.fn (.func 328) [] [.ipt 10 [[sA d,.isl 1 (map zt e),sA f,bA i,bA j,iA l,iA m,.isl 4 (map zi n),.isl 3 (map zx a),.isl 4 (map zap b)]] 0 0]] (bA r):=by
 refine zl Tryz.func302 y kz y y<|A ?_
 obtain ⟨o,p,h⟩:=bs h
 refine A ?_
 exact RT0
instance (c:List zan)(d:T0)(e:T1)(f:T0)(i:Bool)(j:Bool)(l:Int)(m:Int)(n:List zw)(a:List zU)(b:List zan):PF Tryz.prog 302 [.isl 4 (map zap c),.fn (.func 328) [] [.ipt 10 [[sA d,.isl 1 (map zt e),sA f,bA i,bA j,iA l,iA m,.isl 4 (map zi n),.isl 3 (map zx a),.isl 4 (map zap b)]] 0 0]] (zaM c d e f i j l m n a b) bA:=⟨fun _=>zcz c d e f i j l m n a b⟩
def zjl(a:zb):Option (Bool):=
  (zaM a.Traps a.Name a.Params a.Ret a.Static a.Abstract a.Locals a.Stack a.Code a.Maps a.Traps).bind fun b=>some ((!b)&&(decide ((length a.Traps:Int)≤6)))
instance (a:zb):PF Tryz.prog 248 [.agg (zd a)] (zjl a) bA:=⟨fun r h=>by
 refine zl Tryz.func248 y kz y y<|A ?_
 obtain ⟨c,b,h⟩:=bs h
 refine A ?_
 refine u<|pcs (zcz a.Traps a.Name a.Params a.Ret a.Static a.Abstract a.Locals a.Stack a.Code a.Maps a.Traps b) y y (.cons (si y) (.cons (zgP t ⟨(zbO y ⟨(si y),(si y),(si y),(si y),(si y),(si y),(si y),(si y),(si y),(si y),t⟩),t⟩) .nil)) zbF<|A ?_
 refine A ?_
 exact RT0⟩
def zet(a:Bool):Option (Bool):=
  some a
def zit(a:zb):Option (Bool):=
  (ziX a.Name).bind fun b=>(cond ((!b)||(decide (6<(length a.Params:Int)))) (some true) ((zjn a.Params).bind fun c=>some (!c))).bind fun d=>(cond d (some true) ((znY a.Ret).bind fun e=>some (!e))).bind fun f=>cond f (some false) (cond a.Abstract (some (zfg a)) (cond ((a.Name == [36,105,110,105,116])&&(((!a.Static)||(decide (0<(length a.Params:Int))))||(!(a.Ret == [86])))) (some false) (cond (zo a.Locals (zac a) 16) (cond (zo a.Stack 0 16) ((zd2 a).bind fun i=>cond i ((zk2 a).bind fun j=>cond j ((zjl a).bind fun l=>zet l) (zet false)) (zet false)) (zet false)) (zet false))))
instance (a:zb):PF Tryz.prog 157 [.agg (zd a)] (zit a) bA:=⟨fun r h=>by
 refine zl Tryz.func157 y kz y y<|A ?_
 refine zf ?_
 obtain ⟨x,B,C,D,E,F,h⟩:=bs3 h
 refine A ?_
 refine zeh h y (fun m h=>?_) fun m h=>?_
 ·refine A ?_
  exact RT0
 ·refine ze<|zf<|A ?_
  refine zeh h y (fun j h=>?_) fun j h=>?_
  ·refine A ?_
   exact RT0
  ·refine ze<|zf<|A ?_
   refine zeh h y (fun l h=>?_) fun l h=>?_
   ·refine A ?_
    exact RT0
   ·refine ze ?_
    refine zaA (X:=Bool) (fun z=>[(2,bA z)]) (fun z=>[]) (fun z=>zet z=some r) ?_ ?_
    ·rcases bb (zo a.Locals (zac a) 16) with c |c
     ·replace h:=bT c h
      rcases bb (zo a.Stack 0 16) with d |d
      ·replace h:=bT d h
       obtain ⟨i,n,h⟩:=bs h
       rcases bb i with e |e
       ·replace h:=bT e h
        obtain ⟨o,q,h⟩:=bs h
        rcases bb o with f |f
        ·replace h:=bT f h
         obtain ⟨p,s,h⟩:=bs h
         exact rdQ [] [0,1,2,3,4,5,6,7,8,9,10,11,12,13,14,15,16,17,18,19,20,21,22] [(2,_),(69,_),(68,_),(67,_),(66,_),(65,_),(64,_),(63,_),(62,_),(61,_),(60,_),(59,_),(58,_),(57,_),(56,_),(55,_),(54,_),(53,_),(52,_),(51,_),(50,_),(49,_),(48,_)] 0 (zdg (z:=by exact ⟨p,h,zaE []⟩))
        ·replace h:=bF f h
         exact rdQ [] [0,1,2,3,4,5,6,7,8,9,10,11,12,13,14,15,16,17,18,19,20,21,22] [(2,_),(69,_),(68,_),(67,_),(66,_),(65,_),(64,_),(63,_),(62,_),(61,_),(60,_),(59,_),(58,_),(57,_),(56,_),(55,_),(54,_),(53,_),(52,_),(51,_),(50,_),(49,_),(48,_)] 0 (zdg (z:=by exact ⟨false,h,zaE []⟩))
       ·replace h:=bF e h
        exact zdy [] [22,21,20,19,18,17,16,15,14,13,12,11,10,9,8,7,6,5,4,3,2,1,0] [(2,bA false),(69,bA false),(68,.lit undef),(67,.lit undef),(66,bA false),(65,bA false),(64,.lit undef),(63,.lit undef),(62,bA i),(61,bA i),(60,bA i),(59,.agg (zd a)),(58,bA (zo a.Stack 0 16)),(57,bA (zo a.Stack 0 16)),(56,bA (zo a.Stack 0 16)),(55,iA a.Stack),(54,.mpt 0 0 6),(53,bA (zo a.Locals (zac a) 16)),(52,bA (zo a.Locals (zac a) 16)),(51,iA (zac a)),(50,.agg (zd a)),(49,iA a.Locals),(48,.mpt 0 0 5)] 0 kz kz y kz (zuJ ⟨pe,pe,pe,pe,pe,pe,pe,pe,pe,pe,(fun _=>pag (b:=(zo a.Stack 0 16)) y y y y d y (pc (zhf a n) y y y<|w)),(fun _=>pag (b:=(zo a.Stack 0 16)) y y y y d y (ld ti y y<|w)),pe,pe,(fun _=>pag (b:=(zo a.Locals (zac a) 16)) y y y y c y (pc (zdT a.Stack 0 16 y) y y y<|w)),(fun _=>pag (b:=(zo a.Locals (zac a) 16)) y y y y c y (ld ti y y<|w)),(fun _=>pag (b:=(zo a.Locals (zac a) 16)) y y y y c y (fa ti y y y<|w)),pe,(pb y (pc (zdT a.Locals (zac a) 16 y) y y y w)),(pb y (pc (zhG a y) y y y w)),(pb y (ld ti y y w)),(pb y (ld ti y y w)),(pb y (fa ti y y y w)),t⟩ ⟨false,h,zp []⟩)
      ·replace h:=bF d h
       exact zdy [] [22,21,20,19,18,17,16,15,14,13,12,11,10,9,8,7,6,5,4,3,2,1,0] [(2,bA false),(69,bA false),(68,.lit undef),(67,.lit undef),(66,bA false),(65,bA false),(64,.lit undef),(63,.lit undef),(62,bA false),(61,bA false),(60,.lit undef),(59,.lit undef),(58,bA (zo a.Stack 0 16)),(57,bA (zo a.Stack 0 16)),(56,bA (zo a.Stack 0 16)),(55,iA a.Stack),(54,.mpt 0 0 6),(53,bA (zo a.Locals (zac a) 16)),(52,bA (zo a.Locals (zac a) 16)),(51,iA (zac a)),(50,.agg (zd a)),(49,iA a.Locals),(48,.mpt 0 0 5)] 0 kz kz y kz (zuJ ⟨pe,pe,pe,pe,pe,pe,pe,pe,pe,pe,pe,pe,pe,pe,(fun _=>pag (b:=(zo a.Locals (zac a) 16)) y y y y c y (pc (zdT a.Stack 0 16 y) y y y<|w)),(fun _=>pag (b:=(zo a.Locals (zac a) 16)) y y y y c y (ld ti y y<|w)),(fun _=>pag (b:=(zo a.Locals (zac a) 16)) y y y y c y (fa ti y y y<|w)),pe,(pb y (pc (zdT a.Locals (zac a) 16 y) y y y w)),(pb y (pc (zhG a y) y y y w)),(pb y (ld ti y y w)),(pb y (ld ti y y w)),(pb y (fa ti y y y w)),t⟩ ⟨false,h,zp []⟩)
     ·replace h:=bF c h
      exact zdy [] [22,21,20,19,18,17,16,15,14,13,12,11,10,9,8,7,6,5,4,3,2,1,0] [(2,bA false),(69,bA false),(68,.lit undef),(67,.lit undef),(66,bA false),(65,bA false),(64,.lit undef),(63,.lit undef),(62,bA false),(61,bA false),(60,.lit undef),(59,.lit undef),(58,bA false),(57,bA false),(56,.lit undef),(55,.lit undef),(54,.lit undef),(53,bA (zo a.Locals (zac a) 16)),(52,bA (zo a.Locals (zac a) 16)),(51,iA (zac a)),(50,.agg (zd a)),(49,iA a.Locals),(48,.mpt 0 0 5)] 0 kz kz y kz (zuJ ⟨pe,pe,pe,pe,pe,pe,pe,pe,pe,pe,pe,pe,pe,pe,pe,pe,pe,pe,(pb y (pc (zdT a.Locals (zac a) 16 y) y y y w)),(pb y (pc (zhG a y) y y y w)),(pb y (ld ti y y w)),(pb y (ld ti y y w)),(pb y (fa ti y y y w)),t⟩ ⟨false,h,zp []⟩)
    ·rintro v h
     exact RT0⟩
def zjj(a:zb)(e:T0)(f:T0)(b:Bool)(i:T1)(j:List zq)(l:List zb):Option (Bool):=
  (cond (a.Abstract == b) ((zit a).bind fun c=>some c) (some false)).bind fun d=>some d
theorem zlz(a:zb)(b:T0)(c:T0)(d:Bool)(e:T1)(f:List zq)(i:List zb){r:Bool}(h:zjj a b c d e f i=some r):zaF Tryz.prog 156 [.agg (zd a),.ipt 6 [[sA b,sA c,bA d,.isl 1 (map zt e),.isl 3 (map zA f),.isl 10 (map zd i)]] 0 0] (bA r):=by
 refine zl Tryz.func156 y kz y y<|A ?_
 obtain ⟨j,l,h⟩:=bs h
 refine A ?_
 exact RT0
instance (a:zb)(b:T0)(c:T0)(d:Bool)(e:T1)(f:List zq)(i:List zb):PF Tryz.prog 156 [.agg (zd a),.ipt 6 [[sA b,sA c,bA d,.isl 1 (map zt e),.isl 3 (map zA f),.isl 10 (map zd i)]] 0 0] (zjj a b c d e f i) bA:=⟨fun _=>zlz a b c d e f i⟩
def zh0(a:zb):T0:=
  a.Name
theorem zly(a:zb){r:T0}(h:zh0 a=r):zaF Tryz.prog 155 [.agg (zd a)] (sA r):=by
 refine zl Tryz.func155 y kz y y ?_
 unfold zh0 at h
 refine A ?_
 refine A ?_
 refine zD ?_
 obtain rfl:=h
 exact ⟨_,y,zab []⟩
instance (a:zb):PF Tryz.prog 155 [.agg (zd a)] (some (zh0 a)) sA:=.of fun _=>zly a
def ze2(c:zb)(d:T0)(e:T1)(f:T0)(i:Bool)(j:Bool)(l:Int)(m:Int)(n:List zw)(a:List zU)(b:List zan):Bool:=
  ((zh0 (zb.mk d e f i j l m n a b)) == (zh0 c))
instance (n:zb)(c:T0)(d:T1)(e:T0)(f:Bool)(i:Bool)(j:Int)(l:Int)(m:List zw)(a:List zU)(b:List zan):PF Tryz.prog 240 [.agg (zd n),.ipt 1 [[.fn (.func 155) [] []]] 0 0,.ipt 10 [[sA c,.isl 1 (map zt d),sA e,bA f,bA i,iA j,iA l,.isl 4 (map zi m),.isl 3 (map zx a),.isl 4 (map zap b)]] 0 0] (some (ze2 n c d e f i j l m a b)) bA:=.of fun r h=>by
 refine zl Tryz.func240 y kz y y ?_
 unfold ze2 at h
 refine A ?_
 refine rdA [(4,_)] [] [] [0,1,2,3,4,5,6,7] [(4,_),(11,_),(10,_),(9,_),(8,_),(7,_),(6,_),(5,_)] 0 (zdg ⟨peC,peC,(by exact pb y (pc (zly (zb.mk c d e f i j l m a b) y) y y y<|w)),peC,peC,peC,peC,peC,t⟩ (zaE [])) ?_
 refine zD ?_
 obtain rfl:=h
 exact ⟨_,y,zab []⟩
def zcj:Option (Int):=
  some (-1)
def zau(b:List zb)(f:T0)(i:T1)(j:T0)(l:Bool)(m:Bool)(n:Int)(o:Int)(p:List zw)(c:List zU)(d:List zan)(a:Int):Option (Sum (Int) (Sum (Unit) (Int))):=
  cond (decide (a<(length b:Int))) ((idx b a).bind fun e=>cond (ze2 e f i j l m n o p c d) (some (.inr (.inr a))) (some (.inl (IntKind.i64.wrap (a+1))))) (some (.inr (.inl ())))
def zbp(d:List zb)(e:T0)(f:T1)(i:T0)(j:Bool)(l:Bool)(m:Int)(n:Int)(p:List zw)(a:List zU)(c:List zan):Option (Int):=
  (zs (fun z=>zau d e f i j l m n p a c z) 0).bind fun o=>zQ o (fun b=>zcj) some
instance (d:List zb)(e:T0)(f:T1)(i:T0)(j:Bool)(l:Bool)(m:Int)(n:Int)(p:List zw)(a:List zU)(c:List zan):PF Tryz.prog 225 [.isl 10 (map zd d),.fn (.func 240) [] [.ipt 1 [[.fn (.func 155) [] []]] 0 0,.ipt 10 [[sA e,.isl 1 (map zt f),sA i,bA j,bA l,iA m,iA n,.isl 4 (map zi p),.isl 3 (map zx a),.isl 4 (map zap c)]] 0 0]] (zbp d e f i j l m n p a c) iA:=⟨fun r h=>by
 refine zl Tryz.func225 y kz y y<|A ?_
 refine zf<|A ?_
 obtain ⟨o,ho,h⟩:=bs h
 refine lpB ho (fun z=>[(0,.isl 10 (map zd d)),(1,.fn (.func 240) [] [.ipt 1 [[.fn (.func 155) [] []]] 0 0,.ipt 10 [[sA e,.isl 1 (map zt f),sA i,bA j,bA l,iA m,iA n,.isl 4 (map zi p),.isl 3 (map zx a),.isl 4 (map zap c)]] 0 0]),(7,iA (length d:Int)),(8,iA z)]) (fun z=>[]) (fun b=>[]) (fun b=>[]) (pG Tryz.f225 iA) (zaE []) ?_ ?_
 ·rintro v r h
  refine A ?_
  refine zf ?_
  refine zeh h y (fun q h=>?_) fun q h=>?_
  ·refine ze<|zf<|zj<|A ?_
   obtain ⟨x,B,h⟩:=bs h
   refine A ?_
   refine zeh h y (fun s h=>?_) fun s h=>?_
   ·refine A ?_
    refine zD ?_
    obtain rfl:=sm h
    exact ⟨_,y,_,y,zab []⟩
   ·refine ze<|A ?_
    obtain rfl:=sm h
    exact ⟨_,y,zp []⟩
  ·refine zy ?_
   obtain rfl:=sm h
   exact ⟨y,_,y,zp []⟩
 ·rintro ⟨⟩ rfl
  refine zu<|A ?_
  exact RT0⟩
def z6(d:List zb)(e:T0)(f:T1)(i:T0)(j:Bool)(l:Bool)(m:Int)(n:Int)(o:List zw)(a:List zU)(b:List zan):Option (Bool):=
  (zbp d e f i j l m n o a b).bind fun c=>some (decide (0≤c))
theorem zbQ(c:List zb)(d:T0)(e:T1)(f:T0)(i:Bool)(j:Bool)(l:Int)(m:Int)(n:List zw)(a:List zU)(b:List zan){r:Bool}(h:z6 c d e f i j l m n a b=some r):zaF Tryz.prog 239 [.isl 10 (map zd c),.fn (.func 240) [] [.ipt 1 [[.fn (.func 155) [] []]] 0 0,.ipt 10 [[sA d,.isl 1 (map zt e),sA f,bA i,bA j,iA l,iA m,.isl 4 (map zi n),.isl 3 (map zx a),.isl 4 (map zap b)]] 0 0]] (bA r):=by
 refine zl Tryz.func239 y kz y y<|A ?_
 obtain ⟨o,p,h⟩:=bs h
 refine A ?_
 exact RT0
instance (c:List zb)(d:T0)(e:T1)(f:T0)(i:Bool)(j:Bool)(l:Int)(m:Int)(n:List zw)(a:List zU)(b:List zan):PF Tryz.prog 239 [.isl 10 (map zd c),.fn (.func 240) [] [.ipt 1 [[.fn (.func 155) [] []]] 0 0,.ipt 10 [[sA d,.isl 1 (map zt e),sA f,bA i,bA j,iA l,iA m,.isl 4 (map zi n),.isl 3 (map zx a),.isl 4 (map zap b)]] 0 0]] (z6 c d e f i j l m n a b) bA:=⟨fun _=>zbQ c d e f i j l m n a b⟩
def zjk(a:List zb)(b:Int):Option (Bool):=
  some (decide ((length a:Int)≤b))
def zeH(c:List zb)(j:T0)(l:T0)(m:Bool)(n:T1)(o:List zq)(p:List zb)(b:Int):Option (Sum (Int) (Sum (Unit) (Bool))):=
  cond (decide (b<(length c:Int))) ((idx c b).bind fun a=>(zjj a j l m n o p).bind fun d=>(cond (!d) (some true) ((zhs c 0 b).bind fun e=>(z6 e a.Name a.Params a.Ret a.Static a.Abstract a.Locals a.Stack a.Code a.Maps a.Traps).bind fun f=>some f)).bind fun i=>cond i (some (.inr (.inr false))) (some (.inl (IntKind.i64.wrap (b+1))))) (some (.inr (.inl ())))
def zda(a:List zb)(c:Int)(d:T0)(e:T0)(f:Bool)(i:T1)(j:List zq)(l:List zb):Option (Bool):=
  (zs (fun z=>zeH a d e f i j l z) 0).bind fun o=>zQ o (fun b=>zjk a c) some
theorem zgw(f:List zb)(i:Int)(l:T0)(m:T0)(n:Bool)(p:T1)(q:List zq)(s:List zb){r:Bool}(h:zda f i l m n p q s=some r):zaF Tryz.prog 154 [.isl 10 (map zd f),iA i,.fn (.func 155) [] [],.fn (.func 156) [] [.ipt 6 [[sA l,sA m,bA n,.isl 1 (map zt p),.isl 3 (map zA q),.isl 10 (map zd s)]] 0 0]] (bA r):=by
 refine zl Tryz.func154 y kz y y<|A ?_
 refine zf<|A ?_
 obtain ⟨o,ho,h⟩:=bs h
 refine lpB ho (fun z=>[(0,.isl 10 (map zd f)),(1,iA i),(3,.fn (.func 156) [] [.ipt 6 [[sA l,sA m,bA n,.isl 1 (map zt p),.isl 3 (map zA q),.isl 10 (map zd s)]] 0 0]),(6,.mpt 0 0 0),(11,.isl 10 (map zd f)),(12,iA (length f:Int)),(13,iA z)]) (fun z=>[some (1,[[.fn (.func 155) [] []]])]) (fun b=>[(0,.isl 10 (map zd f)),(1,iA i)]) (fun b=>[]) (pG Tryz.f154 bA) (zaE [.old 0]) ?_ ?_
 ·rintro C r h
  refine A ?_
  refine zf ?_
  refine zeh h y (fun D h=>?_) fun D h=>?_
  ·refine ze<|zf<|zj ?_
   obtain ⟨c,I,h⟩:=bs h
   refine A ?_
   obtain ⟨J,E,F,e,h⟩:=bs2 h
   refine rg y<|u<|mv y<|u<|ld ti y y<|u<|pc (zlz c l m n p q s E) y y y<|u<|nt y<|u<|mv y<|zq3 (x:=F) (j:=4) 5 y y y y y gpn (fun d=>by replace e:=bF d e;obtain ⟨G,v,e⟩:=bs e;obtain ⟨K,H,e⟩:=bs e;obtain rfl:=sm e;exact g y d<|mv y<|g y d<|mv y<|g y d<|slI (a:=0) (b:=C) ti y ti y y y (zjZ y v) v<|g y d<|mf y y<|g y d<|pcs (zbQ G c.Name c.Params c.Ret c.Static c.Abstract c.Locals c.Stack c.Code c.Maps c.Traps H) y y (.cons (si y) (.cons (zgP t ⟨(zbO y ⟨(si y),t⟩),(zbO y ⟨(si y),(si y),(si y),(si y),(si y),(si y),(si y),(si y),(si y),(si y),t⟩),t⟩) .nil)) zbF<|zn (eg [23,24,25,26,27] 5 y y y y)) (fun hb=>(sm (bT hb e)).symm)<|zn ?_
   refine zeh h y (fun B h=>?_) fun B h=>?_
   ·refine A ?_
    refine zD ?_
    obtain rfl:=sm h
    exact ⟨_,y,_,y,zab []⟩
   ·refine ze<|A ?_
    obtain rfl:=sm h
    exact ⟨_,y,zp [.old 0]⟩
  ·refine zy ?_
   obtain rfl:=sm h
   exact ⟨y,_,y,zp []⟩
 ·rintro ⟨⟩ rfl
  refine zu<|A ?_
  exact RT0
instance (a:List zb)(b:Int)(c:T0)(d:T0)(e:Bool)(f:T1)(i:List zq)(j:List zb):PF Tryz.prog 154 [.isl 10 (map zd a),iA b,.fn (.func 155) [] [],.fn (.func 156) [] [.ipt 6 [[sA c,sA d,bA e,.isl 1 (map zt f),.isl 3 (map zA i),.isl 10 (map zd j)]] 0 0]] (zda a b c d e f i j) bA:=⟨fun _=>zgw a b c d e f i j⟩
def zk3(a:T0):T0:=
  a
instance (a:T0):PF Tryz.prog 160 [sA a] (some (zk3 a)) sA:=.of fun r h=>by
 refine zl Tryz.func160 y kz y y ?_
 unfold zk3 at h
 refine A ?_
 refine A ?_
 refine zD ?_
 obtain rfl:=h
 exact ⟨_,y,zab []⟩
def zgx(a:T0)(b:T0):Bool:=
  ((zk3 b) == (zk3 a))
instance (a:T0)(b:T0):PF Tryz.prog 250 [sA a,.ipt 1 [[.fn (.func 160) [] []]] 0 0,.ipt 1 [[sA b]] 0 0] (some (zgx a b)) bA:=.of fun r h=>by
 refine zl Tryz.func250 y kz y y ?_
 unfold zgx at h
 refine A ?_
 refine rdA [(4,_)] [] [] [0,1,2,3,4,5,6,7] [(4,_),(11,_),(10,_),(9,_),(8,_),(7,_),(6,_),(5,_)] 0 (zdg (z:=zaE [])) ?_
 refine zD ?_
 obtain rfl:=h
 exact ⟨_,y,zab []⟩
def zdt:Option (Int):=
  some (-1)
def zaT(b:T1)(c:T0)(a:Int):Option (Sum (Int) (Sum (Unit) (Int))):=
  cond (decide (a<(length b:Int))) ((idx b a).bind fun d=>cond (zgx d c) (some (.inr (.inr a))) (some (.inl (IntKind.i64.wrap (a+1))))) (some (.inr (.inl ())))
def zbZ(a:T1)(c:T0):Option (Int):=
  (zs (fun z=>zaT a c z) 0).bind fun o=>zQ o (fun b=>zdt) some
instance (a:T1)(c:T0):PF Tryz.prog 181 [.isl 1 (map zt a),.fn (.func 250) [] [.ipt 1 [[.fn (.func 160) [] []]] 0 0,.ipt 1 [[sA c]] 0 0]] (zbZ a c) iA:=⟨fun r h=>by
 refine zl Tryz.func181 y kz y y<|A ?_
 refine zf<|A ?_
 obtain ⟨o,ho,h⟩:=bs h
 refine lpB ho (fun z=>[(0,.isl 1 (map zt a)),(1,.fn (.func 250) [] [.ipt 1 [[.fn (.func 160) [] []]] 0 0,.ipt 1 [[sA c]] 0 0]),(7,iA (length a:Int)),(8,iA z)]) (fun z=>[]) (fun b=>[]) (fun b=>[]) (pG Tryz.f181 iA) (zaE []) ?_ ?_
 ·rintro f r h
  refine A ?_
  refine zf ?_
  refine zeh h y (fun d h=>?_) fun d h=>?_
  ·refine ze<|zf<|zj<|A ?_
   obtain ⟨i,j,h⟩:=bs h
   refine A ?_
   refine zeh h y (fun e h=>?_) fun e h=>?_
   ·refine A ?_
    refine zD ?_
    obtain rfl:=sm h
    exact ⟨_,y,_,y,zab []⟩
   ·refine ze<|A ?_
    obtain rfl:=sm h
    exact ⟨_,y,zp []⟩
  ·refine zy ?_
   obtain rfl:=sm h
   exact ⟨y,_,y,zp []⟩
 ·rintro ⟨⟩ rfl
  refine zu<|A ?_
  exact RT0⟩
def zah(a:T1)(b:T0):Option (Bool):=
  (zbZ a b).bind fun c=>some (decide (0≤c))
theorem zcS(a:T1)(b:T0){r:Bool}(h:zah a b=some r):zaF Tryz.prog 99 [.isl 1 (map zt a),.fn (.func 250) [] [.ipt 1 [[.fn (.func 160) [] []]] 0 0,.ipt 1 [[sA b]] 0 0]] (bA r):=by
 refine zl Tryz.func99 y kz y y<|A ?_
 obtain ⟨c,d,h⟩:=bs h
 refine A ?_
 exact RT0
instance (a:T1)(b:T0):PF Tryz.prog 99 [.isl 1 (map zt a),.fn (.func 250) [] [.ipt 1 [[.fn (.func 160) [] []]] 0 0,.ipt 1 [[sA b]] 0 0]] (zah a b) bA:=⟨fun _=>zcS a b⟩
def zlN(a:T1)(b:Int):Option (Bool):=
  some (decide ((length a:Int)≤b))
def zf7(c:T1)(a:Int):Option (Sum (Int) (Sum (Unit) (Bool))):=
  cond (decide (a<(length c:Int))) ((idx c a).bind fun b=>(zfz b).bind fun d=>(cond (!d) (some true) ((zhs c 0 a).bind fun e=>(zah e b).bind fun f=>some f)).bind fun i=>cond i (some (.inr (.inr false))) (some (.inl (IntKind.i64.wrap (a+1))))) (some (.inr (.inl ())))
def zfZ(a:T1)(c:Int):Option (Bool):=
  (zs (fun z=>zf7 a z) 0).bind fun o=>zQ o (fun b=>zlN a c) some
instance (e:T1)(f:Int):PF Tryz.prog 159 [.isl 1 (map zt e),iA f,.fn (.func 160) [] [],.fn (.func 158) [] []] (zfZ e f) bA:=⟨fun r h=>by
 refine zl Tryz.func159 y kz y y<|A ?_
 refine zf<|A ?_
 obtain ⟨o,ho,h⟩:=bs h
 refine lpB ho (fun z=>[(0,.isl 1 (map zt e)),(1,iA f),(3,.fn (.func 158) [] []),(6,.mpt 0 0 0),(11,.isl 1 (map zt e)),(12,iA (length e:Int)),(13,iA z)]) (fun z=>[some (1,[[.fn (.func 160) [] []]])]) (fun b=>[(0,.isl 1 (map zt e)),(1,iA f)]) (fun b=>[]) (pG Tryz.f159 bA) (zaE [.old 0]) ?_ ?_
 ·rintro v r h
  refine A ?_
  refine zf ?_
  refine zeh h y (fun m h=>?_) fun m h=>?_
  ·refine ze<|zf<|zj ?_
   obtain ⟨n,B,h⟩:=bs h
   refine A ?_
   obtain ⟨C,D,p,d,h⟩:=bs2 h
   refine A ?_
   refine zq3 (x:=p) (j:=4) 5 y y y y y gpn (fun c=>by replace d:=bF c d;obtain ⟨q,i,d⟩:=bs d;obtain ⟨E,s,d⟩:=bs d;obtain rfl:=sm d;exact g y c<|mv y<|g y c<|mv y<|g y c<|slI (a:=0) (b:=v) ti y ti y y y (zjZ y i) i<|g y c<|mf y y<|g y c<|pcs (zcS q n s) y y (.cons (si y) (.cons (zgP t ⟨(zbO y ⟨(si y),t⟩),(zbO y ⟨(si y),t⟩),t⟩) .nil)) zbF<|zn (eg [23,24,25,26,27] 5 y y y y)) (fun hb=>(sm (bT hb d)).symm)<|zn ?_
   refine zeh h y (fun l h=>?_) fun l h=>?_
   ·refine A ?_
    refine zD ?_
    obtain rfl:=sm h
    exact ⟨_,y,_,y,zab []⟩
   ·refine ze<|A ?_
    obtain rfl:=sm h
    exact ⟨_,y,zp [.old 0]⟩
  ·refine zy ?_
   obtain rfl:=sm h
   exact ⟨y,_,y,zp []⟩
 ·rintro ⟨⟩ rfl
  refine zu<|A ?_
  exact RT0⟩
def zml(a:za):Option (Bool):=
  cond (a.Interface&&((!(a.Super == [79,98,106,101,99,116]))||(decide (0<(length a.Fields:Int))))) (some false) ((zeG a.Fields 8).bind fun b=>(zda a.Methods 8 a.Name a.Super a.Interface a.Impl a.Fields a.Methods).bind fun c=>(zfz a.Name).bind fun d=>(cond d ((zfz a.Super).bind fun e=>some e) (some false)).bind fun f=>(cond f ((zfZ a.Impl 4).bind fun i=>some i) (some false)).bind fun j=>some ((j&&b)&&c))
instance (a:za):PF Tryz.prog 72 [.agg (zc a)] (zml a) bA:=⟨fun r h=>by
 refine zl Tryz.func72 y kz y y<|A ?_
 refine zf<|A ?_
 refine zeh h y (fun b h=>?_) fun b h=>?_
 ·refine A ?_
  exact RT0
 ·refine ze ?_
  obtain ⟨e,f,h⟩:=bs h
  refine A ?_
  obtain ⟨i,c,h⟩:=bs h
  refine A ?_
  refine u<|pcs (zgw a.Methods 8 a.Name a.Super a.Interface a.Impl a.Fields a.Methods c) y y (.cons (si y) (.cons (si y) (.cons (si y) (.cons (zgP t ⟨(zbO y ⟨(si y),(si y),(si y),(si y),(si y),(si y),t⟩),t⟩) .nil)))) zbF<|A ?_
  obtain ⟨j,l,m,n,o,d,h⟩:=bs3 h
  refine A ?_
  exact RT0⟩
def ziI(a:zb)(b:T0):Bool:=
  (a.Name == b)
instance (a:zb)(b:T0):PF Tryz.prog 226 [.agg (zd a),.ipt 1 [[sA b]] 0 0] (some (ziI a b)) bA:=.of fun r h=>by
 refine zl Tryz.func226 y kz y y ?_
 unfold ziI at h
 refine A ?_
 refine A ?_
 refine zD ?_
 obtain rfl:=h
 exact ⟨_,y,zab []⟩
def zbR:Option (Int):=
  some (-1)
def zaf(b:List zb)(c:T0)(a:Int):Option (Sum (Int) (Sum (Unit) (Int))):=
  cond (decide (a<(length b:Int))) ((idx b a).bind fun d=>cond (ziI d c) (some (.inr (.inr a))) (some (.inl (IntKind.i64.wrap (a+1))))) (some (.inr (.inl ())))
def zav(a:List zb)(c:T0):Option (Int):=
  (zs (fun z=>zaf a c z) 0).bind fun o=>zQ o (fun b=>zbR) some
theorem zbS(a:List zb)(c:T0){r:Int}(h:zav a c=some r):zaF Tryz.prog 225 [.isl 10 (map zd a),.fn (.func 226) [] [.ipt 1 [[sA c]] 0 0]] (iA r):=by
 refine zl Tryz.func225 y kz y y<|A ?_
 refine zf<|A ?_
 obtain ⟨o,ho,h⟩:=bs h
 refine lpB ho (fun z=>[(0,.isl 10 (map zd a)),(1,.fn (.func 226) [] [.ipt 1 [[sA c]] 0 0]),(7,iA (length a:Int)),(8,iA z)]) (fun z=>[]) (fun b=>[]) (fun b=>[]) (pG Tryz.f225 iA) (zaE []) ?_ ?_
 ·rintro f r h
  refine A ?_
  refine zf ?_
  refine zeh h y (fun d h=>?_) fun d h=>?_
  ·refine ze<|zf<|zj<|A ?_
   obtain ⟨i,j,h⟩:=bs h
   refine A ?_
   refine zeh h y (fun e h=>?_) fun e h=>?_
   ·refine A ?_
    refine zD ?_
    obtain rfl:=sm h
    exact ⟨_,y,_,y,zab []⟩
   ·refine ze<|A ?_
    obtain rfl:=sm h
    exact ⟨_,y,zp []⟩
  ·refine zy ?_
   obtain rfl:=sm h
   exact ⟨y,_,y,zp []⟩
 ·rintro ⟨⟩ rfl
  refine zu<|A ?_
  exact RT0
instance (a:List zb)(b:T0):PF Tryz.prog 225 [.isl 10 (map zd a),.fn (.func 226) [] [.ipt 1 [[sA b]] 0 0]] (zav a b) iA:=⟨fun _=>zbS a b⟩
def zfe(a:za)(b:T0):Option (Int):=
  (zav a.Methods b).bind fun c=>some c
theorem zh1(a:za)(b:T0){r:Int}(h:zfe a b=some r):zaF Tryz.prog 141 [.agg (zc a),sA b] (iA r):=by
 refine zl Tryz.func141 y kz y y<|A ?_
 obtain ⟨d,c,h⟩:=bs h
 refine A ?_
 refine u<|pcs (zbS a.Methods b c) y y (.cons (si y) (.cons (zgP t ⟨(zbO y ⟨(si y),t⟩),t⟩) .nil)) zbF<|A ?_
 exact RT0
instance (a:za)(b:T0):PF Tryz.prog 141 [.agg (zc a),sA b] (zfe a b) iA:=⟨fun _=>zh1 a b⟩
def zji(a:zq)(b:T0):Bool:=
  (a.Name == b)
instance (a:zq)(b:T0):PF Tryz.prog 316 [.agg (zA a),.ipt 1 [[sA b]] 0 0] (some (zji a b)) bA:=.of fun r h=>by
 refine zl Tryz.func316 y kz y y ?_
 unfold zji at h
 refine A ?_
 refine A ?_
 refine zD ?_
 obtain rfl:=h
 exact ⟨_,y,zab []⟩
def zcd:Option (Int):=
  some (-1)
def zaq(b:List zq)(c:T0)(a:Int):Option (Sum (Int) (Sum (Unit) (Int))):=
  cond (decide (a<(length b:Int))) ((idx b a).bind fun d=>cond (zji d c) (some (.inr (.inr a))) (some (.inl (IntKind.i64.wrap (a+1))))) (some (.inr (.inl ())))
def zaD(a:List zq)(c:T0):Option (Int):=
  (zs (fun z=>zaq a c z) 0).bind fun o=>zQ o (fun b=>zcd) some
theorem zce(a:List zq)(c:T0){r:Int}(h:zaD a c=some r):zaF Tryz.prog 315 [.isl 3 (map zA a),.fn (.func 316) [] [.ipt 1 [[sA c]] 0 0]] (iA r):=by
 refine zl Tryz.func315 y kz y y<|A ?_
 refine zf<|A ?_
 obtain ⟨o,ho,h⟩:=bs h
 refine lpB ho (fun z=>[(0,.isl 3 (map zA a)),(1,.fn (.func 316) [] [.ipt 1 [[sA c]] 0 0]),(7,iA (length a:Int)),(8,iA z)]) (fun z=>[]) (fun b=>[]) (fun b=>[]) (pG Tryz.f315 iA) (zaE []) ?_ ?_
 ·rintro f r h
  refine A ?_
  refine zf ?_
  refine zeh h y (fun d h=>?_) fun d h=>?_
  ·refine ze<|zf<|zj<|A ?_
   obtain ⟨i,j,h⟩:=bs h
   refine A ?_
   refine zeh h y (fun e h=>?_) fun e h=>?_
   ·refine A ?_
    refine zD ?_
    obtain rfl:=sm h
    exact ⟨_,y,_,y,zab []⟩
   ·refine ze<|A ?_
    obtain rfl:=sm h
    exact ⟨_,y,zp []⟩
  ·refine zy ?_
   obtain rfl:=sm h
   exact ⟨y,_,y,zp []⟩
 ·rintro ⟨⟩ rfl
  refine zu<|A ?_
  exact RT0
instance (a:List zq)(b:T0):PF Tryz.prog 315 [.isl 3 (map zA a),.fn (.func 316) [] [.ipt 1 [[sA b]] 0 0]] (zaD a b) iA:=⟨fun _=>zce a b⟩
def zhX(a:za)(b:T0):Option (Int):=
  (zaD a.Fields b).bind fun c=>some c
theorem zlv(a:za)(b:T0){r:Int}(h:zhX a b=some r):zaF Tryz.prog 223 [.agg (zc a),sA b] (iA r):=by
 refine zl Tryz.func223 y kz y y<|A ?_
 obtain ⟨d,c,h⟩:=bs h
 refine A ?_
 refine u<|pcs (zce a.Fields b c) y y (.cons (si y) (.cons (zgP t ⟨(zbO y ⟨(si y),t⟩),t⟩) .nil)) zbF<|A ?_
 exact RT0
instance (a:za)(b:T0):PF Tryz.prog 223 [.agg (zc a),sA b] (zhX a b) iA:=⟨fun _=>zlv a b⟩
def zmG:Option (Int):=
  some (-1)
def zhM(b:za)(c:T0)(a:Int):Option (Sum (Int) (Sum (Unit) (Int))):=
  cond (decide (a<(length b.Fields:Int))) ((idx b.Fields a).bind fun d=>cond (d.Name == c) (some (.inr (.inr a))) (some (.inl (IntKind.i64.wrap (a+1))))) (some (.inr (.inl ())))
def zi5(a:za)(c:T0):Option (Int):=
  (zs (fun z=>zhM a c z) 0).bind fun o=>zQ o (fun b=>zmG) some
instance (a:za)(c:T0):PF Tryz.prog 188 [.agg (zc a),sA c] (zi5 a c) iA:=⟨fun r h=>by
 refine zl Tryz.func188 y kz y y<|A ?_
 refine zf<|A ?_
 obtain ⟨o,ho,h⟩:=bs h
 refine lpB ho (fun z=>[(1,sA c),(2,.mpt 0 0 0),(5,iA z)]) (fun z=>[some (6,[(zc a)])]) (fun b=>[]) (fun b=>[]) (pG Tryz.f188 iA) (zaE [.old 0]) ?_ ?_
 ·rintro f r h
  refine zf<|A ?_
  refine zeh h y (fun d h=>?_) fun d h=>?_
  ·refine ze<|zf<|zj ?_
   obtain ⟨i,j,h⟩:=bs h
   refine A ?_
   refine zeh h y (fun e h=>?_) fun e h=>?_
   ·refine A ?_
    refine zD ?_
    obtain rfl:=sm h
    exact ⟨_,y,_,y,zab []⟩
   ·refine ze<|A ?_
    obtain rfl:=sm h
    exact ⟨_,y,zp [.old 0]⟩
  ·refine zy ?_
   obtain rfl:=sm h
   exact ⟨y,_,y,zp []⟩
 ·rintro ⟨⟩ rfl
  refine zu<|A ?_
  exact RT0⟩
def zlG:Option (Int):=
  some (-1)
def zhb(b:za)(c:T0)(a:Int):Option (Sum (Int) (Sum (Unit) (Int))):=
  cond (decide (a<(length b.Methods:Int))) ((idx b.Methods a).bind fun d=>cond (d.Name == c) (some (.inr (.inr a))) (some (.inl (IntKind.i64.wrap (a+1))))) (some (.inr (.inl ())))
def zgd(a:za)(c:T0):Option (Int):=
  (zs (fun z=>zhb a c z) 0).bind fun o=>zQ o (fun b=>zlG) some
theorem zlH(a:za)(c:T0){r:Int}(h:zgd a c=some r):zaF Tryz.prog 143 [.agg (zc a),sA c] (iA r):=by
 refine zl Tryz.func143 y kz y y<|A ?_
 refine zf<|A ?_
 obtain ⟨o,ho,h⟩:=bs h
 refine lpB ho (fun z=>[(1,sA c),(2,.mpt 0 0 0),(5,iA z)]) (fun z=>[some (6,[(zc a)])]) (fun b=>[]) (fun b=>[]) (pG Tryz.f143 iA) (zaE [.old 0]) ?_ ?_
 ·rintro f r h
  refine zf<|A ?_
  refine zeh h y (fun d h=>?_) fun d h=>?_
  ·refine ze<|zf<|zj ?_
   obtain ⟨i,j,h⟩:=bs h
   refine A ?_
   refine zeh h y (fun e h=>?_) fun e h=>?_
   ·refine A ?_
    refine zD ?_
    obtain rfl:=sm h
    exact ⟨_,y,_,y,zab []⟩
   ·refine ze<|A ?_
    obtain rfl:=sm h
    exact ⟨_,y,zp [.old 0]⟩
  ·refine zy ?_
   obtain rfl:=sm h
   exact ⟨y,_,y,zp []⟩
 ·rintro ⟨⟩ rfl
  refine zu<|A ?_
  exact RT0
instance (a:za)(b:T0):PF Tryz.prog 143 [.agg (zc a),sA b] (zgd a b) iA:=⟨fun _=>zlH a b⟩
def zn4(a:T0):Option (Bool):=
  (cond (a == [86]) (some true) ((zf4 a).bind fun b=>some b)).bind fun c=>some c
instance (a:T0):PF Tryz.prog 268 [sA a] (zn4 a) bA:=⟨fun r h=>by
 refine zl Tryz.func268 y kz y y<|A ?_
 obtain ⟨b,c,h⟩:=bs h
 refine A ?_
 exact RT0⟩
def zrV:Option (Bool):=
  some true
def zgn(c:zb)(b:Int):Option (Sum (Int) (Sum (Unit) (Bool))):=
  cond (decide (b<(length c.Traps:Int))) ((idx c.Traps b).bind fun a=>(cond (((((decide (a.From<0))||(decide (a.To≤a.From)))||(decide ((length c.Code:Int)<a.To)))||(decide (a.At<0)))||(decide ((length c.Code:Int)≤a.At))) (some true) ((cond (!(a.C == [])) ((zfC a.C).bind fun d=>some (!d)) (some false)).bind fun e=>some e)).bind fun f=>cond f (some (.inr (.inr false))) (some (.inl (IntKind.i64.wrap (b+1))))) (some (.inr (.inl ())))
def ziz(a:zb):Option (Bool):=
  (zs (fun z=>zgn a z) 0).bind fun o=>zQ o (fun b=>zrV) some
def zgm(a:zb)(b:Int):Option (Sum (Int) (Sum (Unit) (Bool))):=
  cond (decide (b<(length a.Code:Int))) ((idx a.Code b).bind fun c=>(zh7 c).bind fun d=>cond ((!d)||((zgl c.Op)&&(decide ((length a.Code:Int)≤c.A)))) (some (.inr (.inr false))) (some (.inl (IntKind.i64.wrap (b+1))))) (some (.inr (.inl ())))
def zmI(a:zb):Option (Bool):=
  (cond ((decide ((length a.Code:Int)<1))||(decide (100<(length a.Code:Int)))) (some true) ((idx a.Code (IntKind.i64.wrap ((length a.Code:Int)-1))).bind fun c=>some (!(zhm c.Op)))).bind fun d=>cond (d||(decide (6<(length a.Traps:Int)))) (some false) ((zs (fun z=>zgm a z) 0).bind fun o=>zQ o (fun b=>ziz a) some)
instance (d:zb):PF Tryz.prog 269 [.agg (zd d)] (zmI d) bA:=⟨fun r h=>by
 refine zl Tryz.func269 y kz y y<|A ?_
 refine A ?_
 refine zf ?_
 obtain ⟨D,E,h⟩:=bs h
 refine A ?_
 refine zeh h y (fun m h=>?_) fun m h=>?_
 ·refine A ?_
  exact RT0
 ·refine ze<|zf<|A ?_
  obtain ⟨o,ho,h⟩:=bs h
  refine lpB ho (fun z=>[(1,.mpt 0 0 0),(3,iA (length d.Code:Int)),(4,iA z)]) (fun z=>[some (10,[(zd d)])]) (fun b=>[(1,.mpt 0 0 0),(3,iA (length d.Code:Int))]) (fun b=>[some (10,[(zd d)])]) (pG Tryz.f269 bA) (zaE [.old 0]) ?_ ?_
  ·rintro F r h
   refine zf<|A ?_
   refine zeh h y (fun e h=>?_) fun e h=>?_
   ·refine ze<|zf<|zj ?_
    obtain ⟨n,q,h⟩:=bs h
    refine A ?_
    obtain ⟨G,p,h⟩:=bs h
    refine rg y<|u<|ld ti y y<|u<|pc (zlF n p) y y y<|u<|nt y<|u<|mv y<|zq3 (j:=3) 9 y y y y y gpn (fun a=>g y a<|fa ti y y y<|g y a<|ld ti y y<|g y a<|pc (zmH n.Op y) y y y<|g y a<|mv y<|zhw (j:=7) 4 y y y y y (gps y y a) (fun c=>g y c<|fa ti y y y<|g y c<|ld ti y y<|g y c<|mv y<|g y c<|geq ti y y<|zn (egA [52,53,54,55] 4 c y y y y)) zx9<|zn (egO [48,49,50,51,52,53,54,55,56] 5 a y y y y)) orT<|zn ?_
    refine zeh h y (fun f h=>?_) fun f h=>?_
    ·refine A ?_
     refine zD ?_
     obtain rfl:=sm h
     exact ⟨_,y,_,y,zab []⟩
    ·refine ze<|A ?_
     obtain rfl:=sm h
     exact ⟨_,y,zp [.old 0]⟩
   ·refine zy ?_
    obtain rfl:=sm h
    exact ⟨y,_,y,zp [.old 0]⟩
  ·rintro ⟨⟩ rfl
   refine zu<|zf<|A ?_
   obtain ⟨o,ho,h⟩:=bs h
   refine lpB ho (fun z=>[(1,.mpt 0 0 0),(3,iA (length d.Code:Int)),(6,iA z)]) (fun z=>[some (10,[(zd d)])]) (fun b=>[]) (fun b=>[]) (pG Tryz.f269 bA) (zaE [.old 0]) ?_ ?_
   ·rintro s r h
    refine zf<|A ?_
    refine zeh h y (fun i h=>?_) fun i h=>?_
    ·refine ze<|zf<|zj ?_
     obtain ⟨v,x,h⟩:=bs h
     refine A ?_
     obtain ⟨B,C,h⟩:=bs h
     refine A ?_
     refine zeh h y (fun l h=>?_) fun l h=>?_
     ·refine A ?_
      refine zD ?_
      obtain rfl:=sm h
      exact ⟨_,y,_,y,zab []⟩
     ·refine ze<|A ?_
      obtain rfl:=sm h
      exact ⟨_,y,zp [.old 0]⟩
    ·refine zy ?_
     obtain rfl:=sm h
     exact ⟨y,_,y,zp []⟩
   ·rintro ⟨⟩ rfl
    refine zu<|A ?_
    exact RT0⟩
def zqK:Option (Bool):=
  some true
def zqJ(a:Int):Option (Sum (Int) (Sum (Unit) (Bool))):=
  some (.inl (IntKind.i64.wrap (a+1)))
def zfp(b:zU)(a:Int):Option (Sum (Int) (Sum (Unit) (Bool))):=
  cond (decide (a<(length b.Stack:Int))) ((idx b.Stack a).bind fun c=>(cond (!(c == [78])) ((zf4 c).bind fun d=>some (!d)) (some false)).bind fun e=>cond e (some (.inr (.inr false))) (some (.inl (IntKind.i64.wrap (a+1))))) (some (.inr (.inl ())))
def zkB(a:Int)(c:zU):Option (Sum (Int) (Sum (Unit) (Bool))):=
  (zs (fun z=>zfp c z) 0).bind fun o=>zQ o (fun b=>zqJ a) (fun r=>some (.inr (.inr r)))
def zfo(c:zU)(a:Int):Option (Sum (Int) (Sum (Unit) (Bool))):=
  cond (decide (a<(length c.Locals:Int))) ((idx c.Locals a).bind fun b=>(cond ((!(b == [84]))&&(!(b == [78]))) ((zf4 b).bind fun d=>some (!d)) (some false)).bind fun e=>cond e (some (.inr (.inr false))) (some (.inl (IntKind.i64.wrap (a+1))))) (some (.inr (.inl ())))
def zca(c:Int)(a:zU)(d:Bool):Option (Sum (Int) (Sum (Unit) (Bool))):=
  cond d (some (.inr (.inr false))) ((zs (fun z=>zfo a z) 0).bind fun o=>zQ o (fun b=>zkB c a) (fun r=>some (.inr (.inr r))))
def zfE(c:zb)(b:Int):Option (Sum (Int) (Sum (Unit) (Bool))):=
  cond (decide (b<(length c.Maps:Int))) ((idx c.Maps b).bind fun a=>cond (decide (a.At<0)) (zca b a true) (cond (decide ((length c.Code:Int)≤a.At)) (zca b a true) (cond (decide (0<b)) ((idx c.Maps (IntKind.i64.wrap (b-1))).bind fun d=>cond (decide (a.At≤d.At)) (zca b a true) (cond (!((length a.Locals:Int) == c.Locals)) (zca b a true) (zca b a (decide (c.Stack<(length a.Stack:Int)))))) (cond (!((length a.Locals:Int) == c.Locals)) (zca b a true) (zca b a (decide (c.Stack<(length a.Stack:Int)))))))) (some (.inr (.inl ())))
def zmJ(a:zb):Option (Bool):=
  cond (decide (100<(length a.Maps:Int))) (some false) ((zs (fun z=>zfE a z) 0).bind fun o=>zQ o (fun b=>zqK) some)
instance (c:zb):PF Tryz.prog 270 [.agg (zd c)] (zmJ c) bA:=⟨fun r h=>by
 refine zl Tryz.func270 y kz y y<|A ?_
 refine zf<|A ?_
 refine zeh h y (fun B h=>?_) fun B h=>?_
 ·refine A ?_
  exact RT0
 ·refine ze<|zf<|A ?_
  obtain ⟨o,ho,h⟩:=bs h
  refine lpB ho (fun z=>[(1,.mpt 0 0 0),(3,iA z)]) (fun z=>[some (10,[(zd c)])]) (fun b=>[]) (fun b=>[]) (pG Tryz.f270 bA) (zaE [.old 0]) ?_ ?_
  ·rintro e r h
   refine zf<|A ?_
   refine zeh h y (fun n h=>?_) fun n h=>?_
   ·refine ze<|zf<|zj ?_
    obtain ⟨a,D,h⟩:=bs h
    refine A ?_
    refine zf ?_
    refine zaA (X:=Bool) (fun z=>[(1,.mpt 0 0 0),(3,iA e),(4,.mpt 1 0 0),(67,bA z)]) (fun z=>[some (10,[(zd c)]),some (3,[(zx a)])]) (fun z=>zca e a z=some r) ?_ ?_
    ·rcases bb (decide (a.At<0)) with d |d
     ·replace h:=bT d h
      exact rdQ [] [0,1,2,3,4,5,6,7,8,9,10,11,12,13,14,15,16,17,18,19,20,21,22,23,24,25,26,27,28,29,30,31,32,33,34,35,36,37,38,39,40,41,42] [(67,_),(66,_),(65,_),(64,_),(63,_),(62,_),(61,_),(60,_),(59,_),(58,_),(57,_),(56,_),(55,_),(54,_),(53,_),(52,_),(51,_),(50,_),(49,_),(48,_),(47,_),(46,_),(45,_),(44,_),(43,_),(42,_),(41,_),(40,_),(39,_),(38,_),(37,_),(36,_),(35,_),(34,_),(33,_),(32,_),(31,_),(30,_),(29,_),(28,_),(27,_),(26,_),(25,_)] 0 (zdg (z:=by exact ⟨true,h,zaE [.old 0,.old 1]⟩))
     ·replace h:=bF d h
      rcases bb (decide ((length c.Code:Int)≤a.At)) with i |i
      ·replace h:=bT i h
       exact rdQ [] [0,1,2,3,4,5,6,7,8,9,10,11,12,13,14,15,16,17,18,19,20,21,22,23,24,25,26,27,28,29,30,31,32,33,34,35,36,37,38,39,40,41,42] [(67,_),(66,_),(65,_),(64,_),(63,_),(62,_),(61,_),(60,_),(59,_),(58,_),(57,_),(56,_),(55,_),(54,_),(53,_),(52,_),(51,_),(50,_),(49,_),(48,_),(47,_),(46,_),(45,_),(44,_),(43,_),(42,_),(41,_),(40,_),(39,_),(38,_),(37,_),(36,_),(35,_),(34,_),(33,_),(32,_),(31,_),(30,_),(29,_),(28,_),(27,_),(26,_),(25,_)] 0 (zdg (z:=by exact ⟨true,h,zaE [.old 0,.old 1]⟩))
      ·replace h:=bF i h
       rcases bb (decide (0<e)) with j |j
       ·replace h:=bT j h
        obtain ⟨C,E,h⟩:=bs h
        rcases bb (decide (a.At≤C.At)) with l |l
        ·replace h:=bT l h
         exact rdQ [] [0,1,2,3,4,5,6,7,8,9,10,11,12,13,14,15,16,17,18,19,20,21,22,23,24,25,26,27,28,29,30,31,32,33,34,35,36,37,38,39,40,41,42] [(67,_),(66,_),(65,_),(64,_),(63,_),(62,_),(61,_),(60,_),(59,_),(58,_),(57,_),(56,_),(55,_),(54,_),(53,_),(52,_),(51,_),(50,_),(49,_),(48,_),(47,_),(46,_),(45,_),(44,_),(43,_),(42,_),(41,_),(40,_),(39,_),(38,_),(37,_),(36,_),(35,_),(34,_),(33,_),(32,_),(31,_),(30,_),(29,_),(28,_),(27,_),(26,_),(25,_)] 0 (zdg (z:=by exact ⟨true,h,zaE [.old 0,.old 1]⟩))
        ·replace h:=bF l h
         rcases bb (!((length a.Locals:Int) == c.Locals)) with m |m
         ·replace h:=bT m h
          exact rdQ [] [0,1,2,3,4,5,6,7,8,9,10,11,12,13,14,15,16,17,18,19,20,21,22,23,24,25,26,27,28,29,30,31,32,33,34,35,36,37,38,39,40,41,42] [(67,_),(66,_),(65,_),(64,_),(63,_),(62,_),(61,_),(60,_),(59,_),(58,_),(57,_),(56,_),(55,_),(54,_),(53,_),(52,_),(51,_),(50,_),(49,_),(48,_),(47,_),(46,_),(45,_),(44,_),(43,_),(42,_),(41,_),(40,_),(39,_),(38,_),(37,_),(36,_),(35,_),(34,_),(33,_),(32,_),(31,_),(30,_),(29,_),(28,_),(27,_),(26,_),(25,_)] 0 (zdg (z:=by exact ⟨true,h,zaE [.old 0,.old 1]⟩))
         ·replace h:=bF m h
          exact rdQ [] [0,1,2,3,4,5,6,7,8,9,10,11,12,13,14,15,16,17,18,19,20,21,22,23,24,25,26,27,28,29,30,31,32,33,34,35,36,37,38,39,40,41,42] [(67,_),(66,_),(65,_),(64,_),(63,_),(62,_),(61,_),(60,_),(59,_),(58,_),(57,_),(56,_),(55,_),(54,_),(53,_),(52,_),(51,_),(50,_),(49,_),(48,_),(47,_),(46,_),(45,_),(44,_),(43,_),(42,_),(41,_),(40,_),(39,_),(38,_),(37,_),(36,_),(35,_),(34,_),(33,_),(32,_),(31,_),(30,_),(29,_),(28,_),(27,_),(26,_),(25,_)] 0 (zdg (z:=by exact ⟨(decide (c.Stack<(length a.Stack:Int))),h,zaE [.old 0,.old 1]⟩))
       ·replace h:=bF j h
        rcases bb (!((length a.Locals:Int) == c.Locals)) with f |f
        ·replace h:=bT f h
         exact zdy [] [42,41,40,39,38,37,36,35,34,33,32,31,30,29,28,27,26,25,24,23,22,21,20,19,18,17,16,15,14,13,12,11,10,9,8,7,6,5,4,3,2,1,0] [(67,bA true),(66,.lit undef),(65,.lit undef),(64,.lit undef),(63,.lit undef),(62,.lit undef),(61,.lit undef),(60,bA (!((length a.Locals:Int) == c.Locals))),(59,bA (!((length a.Locals:Int) == c.Locals))),(58,bA (!((length a.Locals:Int) == c.Locals))),(57,iA c.Locals),(56,.mpt 0 0 5),(55,iA (length a.Locals:Int)),(54,.isl 1 (map zt a.Locals)),(53,.mpt 1 0 1),(52,bA false),(51,bA false),(50,bA false),(49,.lit undef),(48,.lit undef),(47,.lit undef),(46,.lit undef),(45,.lit undef),(44,.lit undef),(43,.lit undef),(42,.lit undef),(41,.lit undef),(40,.lit undef),(39,bA (decide (0<e))),(38,bA (decide (0<e))),(37,iA e),(36,bA (decide ((length c.Code:Int)≤a.At))),(35,bA (decide ((length c.Code:Int)≤a.At))),(34,bA (decide ((length c.Code:Int)≤a.At))),(33,iA (length c.Code:Int)),(32,.isl 4 (map zi c.Code)),(31,.mpt 0 0 7),(30,iA a.At),(29,.mpt 1 0 0),(28,bA (decide (a.At<0))),(27,bA (decide (a.At<0))),(26,iA a.At),(25,.mpt 1 0 0)] 0 kz kz y kz (zuJ ⟨pe,pe,pe,pe,pe,pe,pe,pe,pe,(fun _=>pag (b:=false) y y y y y y (neq ti y y<|w)),(fun _=>pag (b:=false) y y y y y y (ld ti y y<|w)),(fun _=>pag (b:=false) y y y y y y (fa ti y y y<|w)),(fun _=>pag (b:=false) y y y y y y (lnI ti y y<|w)),(fun _=>pag (b:=false) y y y y y y (ld ti y y<|w)),(fun _=>pag (b:=false) y y y y y y (fa ti y y y<|w)),pe,pe,pe,pe,pe,pe,pe,pe,pe,pe,pe,pe,pe,pe,(fun _=>pag (b:=(decide ((length c.Code:Int)≤a.At))) y y y y i y (gtr ti y y<|w)),pe,pe,pe,(fun _=>pag (b:=(decide (a.At<0))) y y y y d y (geq ti y y<|w)),(fun _=>pag (b:=(decide (a.At<0))) y y y y d y (lnI ti y y<|w)),(fun _=>pag (b:=(decide (a.At<0))) y y y y d y (ld ti y y<|w)),(fun _=>pag (b:=(decide (a.At<0))) y y y y d y (fa ti y y y<|w)),(fun _=>pag (b:=(decide (a.At<0))) y y y y d y (ld ti y y<|w)),(fun _=>pag (b:=(decide (a.At<0))) y y y y d y (fa ti y y y<|w)),pe,(pb y (lss ti y y w)),(pb y (ld ti y y w)),(pb y (fa ti y y y w)),t⟩ ⟨true,h,zp [.old 0,.old 1]⟩)
        ·replace h:=bF f h
         exact zdy [] [42,41,40,39,38,37,36,35,34,33,32,31,30,29,28,27,26,25,24,23,22,21,20,19,18,17,16,15,14,13,12,11,10,9,8,7,6,5,4,3,2,1,0] [(67,bA (decide (c.Stack<(length a.Stack:Int)))),(66,bA (decide (c.Stack<(length a.Stack:Int)))),(65,iA c.Stack),(64,.mpt 0 0 6),(63,iA (length a.Stack:Int)),(62,.isl 1 (map zt a.Stack)),(61,.mpt 1 0 2),(60,bA (!((length a.Locals:Int) == c.Locals))),(59,bA (!((length a.Locals:Int) == c.Locals))),(58,bA (!((length a.Locals:Int) == c.Locals))),(57,iA c.Locals),(56,.mpt 0 0 5),(55,iA (length a.Locals:Int)),(54,.isl 1 (map zt a.Locals)),(53,.mpt 1 0 1),(52,bA false),(51,bA false),(50,bA false),(49,.lit undef),(48,.lit undef),(47,.lit undef),(46,.lit undef),(45,.lit undef),(44,.lit undef),(43,.lit undef),(42,.lit undef),(41,.lit undef),(40,.lit undef),(39,bA (decide (0<e))),(38,bA (decide (0<e))),(37,iA e),(36,bA (decide ((length c.Code:Int)≤a.At))),(35,bA (decide ((length c.Code:Int)≤a.At))),(34,bA (decide ((length c.Code:Int)≤a.At))),(33,iA (length c.Code:Int)),(32,.isl 4 (map zi c.Code)),(31,.mpt 0 0 7),(30,iA a.At),(29,.mpt 1 0 0),(28,bA (decide (a.At<0))),(27,bA (decide (a.At<0))),(26,iA a.At),(25,.mpt 1 0 0)] 0 kz kz y kz (zuJ ⟨pe,(fun _=>pag (b:=(!((length a.Locals:Int) == c.Locals))) y y y y f y (gtr ti y y<|w)),(fun _=>pag (b:=(!((length a.Locals:Int) == c.Locals))) y y y y f y (ld ti y y<|w)),(fun _=>pag (b:=(!((length a.Locals:Int) == c.Locals))) y y y y f y (fa ti y y y<|w)),(fun _=>pag (b:=(!((length a.Locals:Int) == c.Locals))) y y y y f y (lnI ti y y<|w)),(fun _=>pag (b:=(!((length a.Locals:Int) == c.Locals))) y y y y f y (ld ti y y<|w)),(fun _=>pag (b:=(!((length a.Locals:Int) == c.Locals))) y y y y f y (fa ti y y y<|w)),pe,pe,(fun _=>pag (b:=false) y y y y y y (neq ti y y<|w)),(fun _=>pag (b:=false) y y y y y y (ld ti y y<|w)),(fun _=>pag (b:=false) y y y y y y (fa ti y y y<|w)),(fun _=>pag (b:=false) y y y y y y (lnI ti y y<|w)),(fun _=>pag (b:=false) y y y y y y (ld ti y y<|w)),(fun _=>pag (b:=false) y y y y y y (fa ti y y y<|w)),pe,pe,pe,pe,pe,pe,pe,pe,pe,pe,pe,pe,pe,pe,(fun _=>pag (b:=(decide ((length c.Code:Int)≤a.At))) y y y y i y (gtr ti y y<|w)),pe,pe,pe,(fun _=>pag (b:=(decide (a.At<0))) y y y y d y (geq ti y y<|w)),(fun _=>pag (b:=(decide (a.At<0))) y y y y d y (lnI ti y y<|w)),(fun _=>pag (b:=(decide (a.At<0))) y y y y d y (ld ti y y<|w)),(fun _=>pag (b:=(decide (a.At<0))) y y y y d y (fa ti y y y<|w)),(fun _=>pag (b:=(decide (a.At<0))) y y y y d y (ld ti y y<|w)),(fun _=>pag (b:=(decide (a.At<0))) y y y y d y (fa ti y y y<|w)),pe,(pb y (lss ti y y w)),(pb y (ld ti y y w)),(pb y (fa ti y y y w)),t⟩ ⟨(decide (c.Stack<(length a.Stack:Int))),h,zp [.old 0,.old 1]⟩)
    ·rintro F h
     refine zeh h y (fun p h=>?_) fun p h=>?_
     ·refine A ?_
      refine zD ?_
      obtain rfl:=sm h
      exact ⟨_,y,_,y,zab []⟩
     ·refine ze<|zf<|A ?_
      obtain ⟨o,ho,h⟩:=bs h
      refine lpS ho (fun z=>[(1,.mpt 0 0 0),(3,iA e),(4,.mpt 1 0 0),(5,iA z)]) (fun z=>[some (10,[(zd c)]),some (3,[(zx a)])]) (fun b=>[(1,.mpt 0 0 0),(3,iA e),(4,.mpt 1 0 0)]) (fun b=>[some (10,[(zd c)]),some (3,[(zx a)])]) (pG Tryz.f270 bA) (zaE [.old 0,.old 1]) ?_ ?_ ?_
      ·rintro G r h
       refine zf<|A ?_
       refine zeh h y (fun q h=>?_) fun q h=>?_
       ·refine ze<|zf<|zj ?_
        obtain ⟨H,I,h⟩:=bs h
        refine A ?_
        obtain ⟨J,K,h⟩:=bs h
        refine A ?_
        refine zeh h y (fun s h=>?_) fun s h=>?_
        ·refine A ?_
         refine zD ?_
         obtain rfl:=sm h
         exact ⟨_,y,_,y,zab []⟩
        ·refine ze<|A ?_
         obtain rfl:=sm h
         exact ⟨_,y,zp [.old 0,.old 1]⟩
       ·refine zy ?_
        obtain rfl:=sm h
        exact ⟨y,_,y,zp [.old 0,.old 1]⟩
      ·rintro ⟨⟩ rfl
       refine zu<|A ?_
       obtain ⟨o,ho,h⟩:=bs h
       refine lpS ho (fun z=>[(1,.mpt 0 0 0),(3,iA e),(4,.mpt 1 0 0),(7,iA z)]) (fun z=>[some (10,[(zd c)]),some (3,[(zx a)])]) (fun b=>[(1,.mpt 0 0 0),(3,iA e)]) (fun b=>[some (10,[(zd c)])]) (pG Tryz.f270 bA) (zaE [.old 0,.old 1]) ?_ ?_ ?_
       ·rintro L r h
        refine zf<|A ?_
        refine zeh h y (fun v h=>?_) fun v h=>?_
        ·refine ze<|zf<|zj ?_
         obtain ⟨M,N,h⟩:=bs h
         refine A ?_
         obtain ⟨O,P,h⟩:=bs h
         refine A ?_
         refine zeh h y (fun x h=>?_) fun x h=>?_
         ·refine A ?_
          refine zD ?_
          obtain rfl:=sm h
          exact ⟨_,y,_,y,zab []⟩
         ·refine ze<|A ?_
          obtain rfl:=sm h
          exact ⟨_,y,zp [.old 0,.old 1]⟩
        ·refine zy ?_
         obtain rfl:=sm h
         exact ⟨y,_,y,zp [.old 0]⟩
       ·rintro ⟨⟩ rfl
        refine zu<|A ?_
        obtain rfl:=sm h
        exact ⟨_,y,zp [.old 0]⟩
       ·rintro r' rfl env st hp
        obtain rfl:=sm h
        exact ⟨_,y,hp⟩
      ·rintro r' rfl env st hp
       obtain rfl:=sm h
       exact ⟨_,y,hp⟩
   ·refine zy ?_
    obtain rfl:=sm h
    exact ⟨y,_,y,zp []⟩
  ·rintro ⟨⟩ rfl
   refine zu<|A ?_
   exact RT0⟩
def zeA(a:zb)(b:Int):Option (Bool):=
  cond ((((decide (a.Locals<b))||(decide (16<a.Locals)))||(decide (a.Stack<0)))||(decide (16<a.Stack))) (some false) ((zmI a).bind fun c=>(cond c ((zmJ a).bind fun d=>some d) (some false)).bind fun e=>some e)
def zgY(a:zb):Option (Bool):=
  cond a.Abstract (some (((((((!a.Static)&&(!(a.Name == [36,105,110,105,116])))&&(a.Locals == (0:Int)))&&(a.Stack == (0:Int)))&&((length a.Code:Int) == (0:Int)))&&((length a.Maps:Int) == (0:Int)))&&((length a.Traps:Int) == (0:Int)))) (cond ((a.Name == [36,105,110,105,116])&&(((!a.Static)||(decide (0<(length a.Params:Int))))||(!(a.Ret == [86])))) (some false) (cond (!a.Static) (zeA a (IntKind.i64.wrap ((length a.Params:Int)+1))) (zeA a (length a.Params:Int))))
def zdC(b:zb)(a:Int):Option (Sum (Int) (Sum (Unit) (Bool))):=
  cond (decide (a<(length b.Params:Int))) ((idx b.Params a).bind fun d=>(zf4 d).bind fun c=>cond (!c) (some (.inr (.inr false))) (some (.inl (IntKind.i64.wrap (a+1))))) (some (.inr (.inl ())))
def zfV(a:zb):Option (Bool):=
  (zi7 a.Name).bind fun c=>(cond ((!c)||(decide (6<(length a.Params:Int)))) (some true) ((zn4 a.Ret).bind fun d=>some (!d))).bind fun e=>cond e (some false) ((zs (fun z=>zdC a z) 0).bind fun o=>zQ o (fun b=>zgY a) some)
theorem zi6(a:zb){r:Bool}(h:zfV a=some r):zaF Tryz.prog 189 [.agg (zd a)] (bA r):=by
 refine zl Tryz.func189 y kz y y<|A ?_
 refine zf ?_
 obtain ⟨C,D,E,F,h⟩:=bs2 h
 refine A ?_
 refine zeh h y (fun l h=>?_) fun l h=>?_
 ·refine A ?_
  exact RT0
 ·refine ze<|zf<|A ?_
  obtain ⟨o,ho,h⟩:=bs h
  refine lpB ho (fun z=>[(1,.mpt 0 0 0),(3,iA z)]) (fun z=>[some (10,[(zd a)])]) (fun b=>[(1,.mpt 0 0 0)]) (fun b=>[some (10,[(zd a)])]) (pG Tryz.f189 bA) (zaE [.old 0]) ?_ ?_
  ·rintro G r h
   refine zf<|A ?_
   refine zeh h y (fun c h=>?_) fun c h=>?_
   ·refine ze<|zf<|zj ?_
    obtain ⟨H,m,n,p,h⟩:=bs2 h
    refine A ?_
    refine zeh h y (fun d h=>?_) fun d h=>?_
    ·refine A ?_
     refine zD ?_
     obtain rfl:=sm h
     exact ⟨_,y,_,y,zab []⟩
    ·refine ze<|A ?_
     obtain rfl:=sm h
     exact ⟨_,y,zp [.old 0]⟩
   ·refine zy ?_
    obtain rfl:=sm h
    exact ⟨y,_,y,zp [.old 0]⟩
  ·rintro ⟨⟩ rfl
   refine zu<|zf<|A ?_
   refine zeh h y (fun e h=>?_) fun e h=>?_
   ·refine A ?_
    exact RT0
   ·refine ze<|zf<|A ?_
    refine zeh h y (fun f h=>?_) fun f h=>?_
    ·refine A ?_
     exact RT0
    ·refine ze<|A ?_
     refine zaA (X:=Int) (fun z=>[(1,.mpt 0 0 0),(4,iA z)]) (fun z=>[some (10,[(zd a)])]) (fun z=>zeA a z=some r) ?_ ?_
     ·refine A ?_
      refine zeh h y (fun i h=>?_) fun i h=>?_
      ·refine A ?_
       exact (⟨(IntKind.i64.wrap ((length a.Params:Int)+1)),h,zp [.old 0]⟩)
      ·refine ze ?_
       exact ⟨(length a.Params:Int),h,zp [.old 0]⟩
     ·rintro q h
      refine zf<|A ?_
      refine zeh h y (fun j h=>?_) fun j h=>?_
      ·refine A ?_
       exact RT0
      ·refine ze ?_
       obtain ⟨s,v,x,B,h⟩:=bs2 h
       refine A ?_
       exact RT0
instance (a:zb):PF Tryz.prog 189 [.agg (zd a)] (zfV a) bA:=⟨fun _=>zi6 a⟩
def zne:Option (Bool):=
  some true
def zdY(c:za)(a:Int):Option (Sum (Int) (Sum (Unit) (Bool))):=
  cond (decide (a<(length c.Methods:Int))) ((idx c.Methods a).bind fun b=>(cond (!(b.Abstract == c.Interface)) (some true) ((zgd c b.Name).bind fun d=>some (!(d == a)))).bind fun e=>(cond e (some true) ((zfV b).bind fun f=>some (!f))).bind fun i=>cond i (some (.inr (.inr false))) (some (.inl (IntKind.i64.wrap (a+1))))) (some (.inr (.inl ())))
def zj5(a:za):Option (Bool):=
  (zs (fun z=>zdY a z) 0).bind fun o=>zQ o (fun b=>zne) some
def zdX(c:za)(a:Int):Option (Sum (Int) (Sum (Unit) (Bool))):=
  cond (decide (a<(length c.Fields:Int))) ((idx c.Fields a).bind fun b=>(zi7 b.Name).bind fun d=>(cond ((!d)||(b.Name == [36,105,110,105,116])) (some true) ((zf4 b.Type_).bind fun e=>some (!e))).bind fun f=>(cond f (some true) ((zi5 c b.Name).bind fun i=>some (!(i == a)))).bind fun j=>cond j (some (.inr (.inr false))) (some (.inl (IntKind.i64.wrap (a+1))))) (some (.inr (.inl ())))
def zj4(a:za):Option (Bool):=
  (zs (fun z=>zdX a z) 0).bind fun o=>zQ o (fun b=>zj5 a) some
def znR(a:Int):Option (Sum (Int) (Sum (Unit) (Bool))):=
  some (.inl (IntKind.i64.wrap (a+1)))
def zdV(c:za)(b:Int)(a:Int):Option (Sum (Int) (Sum (Unit) (Bool))):=
  cond (decide (a<b)) ((idx c.Impl a).bind fun d=>(idx c.Impl b).bind fun e=>cond (d == e) (some (.inr (.inr false))) (some (.inl (IntKind.i64.wrap (a+1))))) (some (.inr (.inl ())))
def zdW(c:za)(a:Int):Option (Sum (Int) (Sum (Unit) (Bool))):=
  cond (decide (a<(length c.Impl:Int))) ((idx c.Impl a).bind fun d=>(zfC d).bind fun e=>cond (!e) (some (.inr (.inr false))) ((zs (fun z=>zdV c a z) 0).bind fun o=>zQ o (fun b=>znR a) (fun r=>some (.inr (.inr r))))) (some (.inr (.inl ())))
def zhN(a:za):Option (Bool):=
  (zfC a.Name).bind fun c=>(cond (!c) (some true) ((zfC a.Super).bind fun d=>some (!d))).bind fun e=>cond (((e||(decide (4<(length a.Impl:Int))))||(decide (8<(length a.Fields:Int))))||(decide (8<(length a.Methods:Int)))) (some false) (cond (a.Interface&&((!(a.Super == [79,98,106,101,99,116]))||(decide (0<(length a.Fields:Int))))) (some false) ((zs (fun z=>zdW a z) 0).bind fun o=>zQ o (fun b=>zj4 a) some))
instance (c:za):PF Tryz.prog 111 [.agg (zc c)] (zhN c) bA:=⟨fun r h=>by
 refine zl Tryz.func111 y kz y y<|A ?_
 refine zf ?_
 obtain ⟨v2,q1,v4,q4,h⟩:=bs2 h
 refine A ?_
 refine zeh h y (fun E h=>?_) fun E h=>?_
 ·refine A ?_
  exact RT0
 ·refine ze<|zf<|A ?_
  refine zeh h y (fun m h=>?_) fun m h=>?_
  ·refine A ?_
   exact RT0
  ·refine ze<|zf<|A ?_
   obtain ⟨o,ho,h⟩:=bs h
   refine lpB ho (fun z=>[(1,.mpt 0 0 0),(3,iA z)]) (fun z=>[some (6,[(zc c)])]) (fun b=>[(1,.mpt 0 0 0)]) (fun b=>[some (6,[(zc c)])]) (pG Tryz.f111 bA) (zaE [.old 0]) ?_ ?_
   ·rintro i r h
    refine zf<|A ?_
    refine zeh h y (fun n h=>?_) fun n h=>?_
    ·refine ze<|zf<|zj<|zf ?_
     obtain ⟨J,K,L,M,h⟩:=bs2 h
     refine A ?_
     refine zeh h y (fun p h=>?_) fun p h=>?_
     ·refine A ?_
      refine zD ?_
      obtain rfl:=sm h
      exact ⟨_,y,_,y,zab []⟩
     ·refine ze<|A ?_
      obtain ⟨o,ho,h⟩:=bs h
      refine lpS ho (fun z=>[(1,.mpt 0 0 0),(3,iA i),(4,iA z)]) (fun z=>[some (6,[(zc c)])]) (fun b=>[(1,.mpt 0 0 0),(3,iA i)]) (fun b=>[some (6,[(zc c)])]) (pG Tryz.f111 bA) (zaE [.old 0]) ?_ ?_ ?_
      ·rintro N r h
       refine zf<|A ?_
       refine zeh h y (fun q h=>?_) fun q h=>?_
       ·refine ze<|zf<|zj ?_
        obtain ⟨O,P,Q,R,h⟩:=bs2 h
        refine rdA [(1,_),(3,_),(4,_),(79,_)] [some (6,[(zc c)])] [] [0,1,2,3,4,5,6,7,8,9,10] [(79,_),(78,_),(77,_),(76,_),(75,_),(74,_),(73,_),(72,_),(71,_),(70,_),(69,_)] 0 (zdg (z:=zaE [.old 0])) ?_
        refine zeh h y (fun s h=>?_) fun s h=>?_
        ·refine A ?_
         refine zD ?_
         obtain rfl:=sm h
         exact ⟨_,y,_,y,zab []⟩
        ·refine ze<|A ?_
         obtain rfl:=sm h
         exact ⟨_,y,zp [.old 0]⟩
       ·refine zy ?_
        obtain rfl:=sm h
        exact ⟨y,_,y,zp [.old 0]⟩
      ·rintro ⟨⟩ rfl
       refine zu<|A ?_
       obtain rfl:=sm h
       exact ⟨_,y,zp [.old 0]⟩
      ·rintro r' rfl env st hp
       obtain rfl:=sm h
       exact ⟨_,y,hp⟩
    ·refine zy ?_
     obtain rfl:=sm h
     exact ⟨y,_,y,zp [.old 0]⟩
   ·rintro ⟨⟩ rfl
    refine zu<|zf<|A ?_
    obtain ⟨o,ho,h⟩:=bs h
    refine lpB ho (fun z=>[(1,.mpt 0 0 0),(5,iA z)]) (fun z=>[some (6,[(zc c)])]) (fun b=>[(1,.mpt 0 0 0)]) (fun b=>[some (6,[(zc c)])]) (pG Tryz.f111 bA) (zaE [.old 0]) ?_ ?_
    ·rintro S r h
     refine zf<|A ?_
     refine zeh h y (fun v h=>?_) fun v h=>?_
     ·refine ze<|zf<|zj ?_
      obtain ⟨T,U,h⟩:=bs h
      refine A ?_
      obtain ⟨V,W,X,Y,Z,q56,h⟩:=bs3 h
      refine A ?_
      refine zeh h y (fun B h=>?_) fun B h=>?_
      ·refine A ?_
       refine zD ?_
       obtain rfl:=sm h
       exact ⟨_,y,_,y,zab []⟩
      ·refine ze<|A ?_
       obtain rfl:=sm h
       exact ⟨_,y,zp [.old 0]⟩
     ·refine zy ?_
      obtain rfl:=sm h
      exact ⟨y,_,y,zp [.old 0]⟩
    ·rintro ⟨⟩ rfl
     refine zu<|zf<|A ?_
     obtain ⟨o,ho,h⟩:=bs h
     refine lpB ho (fun z=>[(1,.mpt 0 0 0),(7,iA z)]) (fun z=>[some (6,[(zc c)])]) (fun b=>[]) (fun b=>[]) (pG Tryz.f111 bA) (zaE [.old 0]) ?_ ?_
     ·rintro v43 r h
      refine zf<|A ?_
      refine zeh h y (fun C h=>?_) fun C h=>?_
      ·refine ze<|zf<|zj ?_
       obtain ⟨l,q68,h⟩:=bs h
       refine A ?_
       obtain ⟨F,d,G,e,h⟩:=bs2 h
       refine rg y<|u<|fa ti y y y<|u<|ld ti y y<|u<|fa ti y y y<|u<|ld ti y y<|u<|bne ti y y y<|u<|mv y<|zq3 (x:=F) (j:=5) 6 y y y y y gpn (fun a=>by replace d:=bF a d;obtain ⟨v45,H,d⟩:=bs d;obtain rfl:=sm d;exact g y a<|ld ti y y<|g y a<|fa ti y y y<|g y a<|ld ti y y<|g y a<|pc (zlH c l.Name H) y y y<|g y a<|mv y<|g y a<|neq ti y y<|zn (eg [133,134,135,136,137,138] 6 y y y y)) (fun hb=>(sm (bT hb d)).symm)<|u<|mv y<|zq3 (x:=G) (j:=13) 3 y y y y y gpn (fun f=>by replace e:=bF f e;obtain ⟨v47,I,e⟩:=bs e;obtain rfl:=sm e;exact g y f<|ld ti y y<|g y f<|pc (zi6 l I) y y y<|g y f<|nt y<|zn (eg [141,142,143] 3 y y y y)) (fun hb=>(sm (bT hb e)).symm)<|zn ?_
       refine zeh h y (fun D h=>?_) fun D h=>?_
       ·refine A ?_
        refine zD ?_
        obtain rfl:=sm h
        exact ⟨_,y,_,y,zab []⟩
       ·refine ze<|A ?_
        obtain rfl:=sm h
        exact ⟨_,y,zp [.old 0]⟩
      ·refine zy ?_
       obtain rfl:=sm h
       exact ⟨y,_,y,zp []⟩
     ·rintro ⟨⟩ rfl
      refine zu<|A ?_
      exact RT0⟩
structure zY where
  l:List za
  at_:T2
def zdJ(x:zY):List AV:=[.isl 6 (map zc x.l),.imp (map (rKV (fun x=>iA x)) x.at_)]
def zbN(a:T0)(b:Int):Option (T0):=
  cond (decide (b<(length a:Int))) ((zhs a 0 b).bind fun c=>some c) (some a)
theorem zbr(d:T0)(c:Int){r:T0}(h:zbN d c=some r):zaF Tryz.prog 38 [sA d,iA c] (sA r):=by
 refine zl Tryz.func38 y kz y y<|A ?_
 refine zf<|A ?_
 refine zeh h y (fun e h=>?_) fun e h=>?_
 ·obtain ⟨i,f,h⟩:=bs h
  refine A ?_
  refine u<|slS (a:=0) (b:=c) ti y y y (zjZ y f) f<|A ?_
  exact RT0
 ·refine ze<|A ?_
  exact RT0
instance (a:T0)(b:Int):PF Tryz.prog 38 [sA a,iA b] (zbN a b) sA:=⟨fun _=>zbr a b⟩
def zjD(a:T1):Option (T1):=
  some a
def zd6(b:T1)(i:Int)(c:T1)(a:Int):Option (Sum (T1×Int) (Sum (T1) (T1))):=
  cond ((decide (a<(length b:Int)))&&(decide (a<i))) ((idx b a).bind fun d=>(zbN d 12).bind fun e=>(zfY 16 c [e]).bind fun f=>some (.inl (f,(IntKind.i64.wrap (a+1))))) (some (.inr (.inl c)))
def zc3(a:T1)(c:Int):Option (T1):=
  (zs (fun z=>zd6 a c z.1 z.2) ([],0)).bind fun o=>zQ o (fun b=>zjD b) some
theorem zfB(a:T1)(c:Int){r:T1}(h:zc3 a c=some r):zaF Tryz.prog 70 [.isl 1 (map zt a),iA c] (.isl 1 (map zt r)):=by
 refine zl Tryz.func70 y kz y y<|A ?_
 refine A ?_
 refine zf<|A ?_
 obtain ⟨o,ho,h⟩:=bs h
 refine lpB ho (fun z=>[(0,.isl 1 (map zt a)),(1,iA c),(5,.msl 0 0 (length z.1)),(6,iA z.2)]) (fun z=>[some (1,map zt z.1)]) (fun b=>[(5,.msl 0 0 (length b))]) (fun b=>[some (1,map zt b)]) (pG Tryz.f70 (fun r=>.isl 1 (map zt r))) ⟨[.fresh 1],ce y y<|ce y y<|cv y (.nilown y)<|ce y y<|cn,y,⟨w,t⟩,y,k⟩ ?_ ?_
 ·rintro ⟨n,p⟩ r h
  refine zf<|A ?_
  refine zeh h y (fun d h=>?_) fun d h=>?_
  ·refine ze<|zf<|zj ?_
   obtain ⟨j,q,e,s,l,i,h⟩:=bs3 h
   refine A ?_
   refine u<|apM 2 ti y ti y y (by decide) ti y y y y (roX (f:=zt) (z:=[e]) y y) (fun _=>y) y i<|A ?_
   refine A ?_
   obtain rfl:=sm h
   exact ⟨_,y,zp [.old 2]⟩
  ·refine zy ?_
   obtain rfl:=sm h
   exact ⟨y,_,y,zp [.old 0]⟩
 ·rintro m rfl
  refine zu<|A ?_
  exact RT0
instance (a:T1)(b:Int):PF Tryz.prog 70 [.isl 1 (map zt a),iA b] (zc3 a b) (fun r=>(.isl 1 (map zt r))):=⟨fun _=>zfB a b⟩
def zmu(a:zw):Option (zw):=
  (zbN a.C 14).bind fun b=>(zbN a.M 12).bind fun c=>some (zw.mk a.Op a.A b c)
theorem zoB(a:zw){r:zw}(h:zmu a=some r):zaF Tryz.prog 148 [.agg (zi a)] (.agg (zi r)):=by
 refine zl Tryz.func148 y kz y y<|A ?_
 obtain ⟨b,d,c,e,h⟩:=bs2 h
 refine rdA [(1,_),(2,_)] [some (4,[[iA a.Op,iA a.A,sA b,sA c]]),some (4,[[iA 0,iA 0,sA [],sA []]])] [7,9] [0,1,2,3,4,5,6] [(9,_),(8,_),(7,_),(6,_),(5,_),(4,_),(3,_)] 2 (zcC (z:=by exact ⟨(fun _ _=>⟨_,y,y,sto ti y y y<|⟨.any,[8],[(10,_)],y,y,y,t,zcC (z:=by exact ⟨nv,(fun _ _=>⟨_,y,y,sto ti y y y<|⟨.any,[],[],y,y,y,t,zdg (z:=zaE [.old 0,.old 1])⟩⟩),t⟩)⟩⟩),nw,t⟩)) ?_
 refine A ?_
 exact RT0
instance (a:zw):PF Tryz.prog 148 [.agg (zi a)] (zmu a) (fun r=>(.agg (zi r))):=⟨fun _=>zoB a⟩
def ziJ(a:zb)(e:T0)(f:T1)(i:T0)(b:List zw)(c:List zU)(d:List zan):Option (zb):=
  some (zb.mk e f i a.Static a.Abstract a.Locals a.Stack b c d)
def zdo(d:zb)(c:List zan)(a:Int):Option (Sum ((List zan)×Int) (Sum ((List zan)) (zb))):=
  cond ((decide (a<(length d.Traps:Int)))&&(decide (a<8))) ((idx d.Traps a).bind fun b=>(zbN b.C 10).bind fun e=>(zfY 40 c [(zan.mk b.From b.To b.At e)]).bind fun f=>some (.inl (f,(IntKind.i64.wrap (a+1))))) (some (.inr (.inl c)))
def zfT(a:zb)(e:T0)(f:T1)(i:T0)(c:List zw)(d:List zU):Option (zb):=
  (zs (fun z=>zdo a z.1 z.2) ([],0)).bind fun o=>zQ o (fun b=>ziJ a e f i c d b) some
def zdn(b:zb)(c:List zU)(a:Int):Option (Sum ((List zU)×Int) (Sum ((List zU)) (zb))):=
  cond ((decide (a<(length b.Maps:Int)))&&(decide (a<104))) ((idx b.Maps a).bind fun d=>(idx b.Maps a).bind fun e=>(zc3 e.Locals 20).bind fun f=>(idx b.Maps a).bind fun i=>(zc3 i.Stack 20).bind fun j=>(zfY 56 c [(zU.mk d.At f j)]).bind fun l=>some (.inl (l,(IntKind.i64.wrap (a+1))))) (some (.inr (.inl c)))
def zfS(a:zb)(d:T0)(e:T1)(f:T0)(c:List zw):Option (zb):=
  (zs (fun z=>zdn a z.1 z.2) ([],0)).bind fun o=>zQ o (fun b=>zfT a d e f c b) some
def zdm(c:zb)(b:List zw)(a:Int):Option (Sum ((List zw)×Int) (Sum ((List zw)) (zb))):=
  cond ((decide (a<(length c.Code:Int)))&&(decide (a<104))) ((idx c.Code a).bind fun d=>(zmu d).bind fun e=>(zfY 48 b [e]).bind fun f=>some (.inl (f,(IntKind.i64.wrap (a+1))))) (some (.inr (.inl b)))
def zgT(a:zb):Option (zb):=
  (zbN a.Name 10).bind fun c=>(zc3 a.Params 8).bind fun d=>(zbN a.Ret 12).bind fun e=>(zs (fun z=>zdm a z.1 z.2) ([],0)).bind fun o=>zQ o (fun b=>zfS a c d e b) some
instance (a:zb):PF Tryz.prog 71 [.agg (zd a)] (zgT a) (fun r=>(.agg (zd r))):=⟨fun r h=>by
 refine zl Tryz.func71 y kz y y<|A ?_
 obtain ⟨e,q1,i,q2,j,q3,h⟩:=bs3 h
 refine rdA [(1,_),(2,_),(3,_)] [some (10,[(zd a)]),some (10,[[sA [],.lit (.slice none 0 0),sA [],bA false,bA false,iA 0,iA 0,.lit (.slice none 0 0),.lit (.slice none 0 0),.lit (.slice none 0 0)]]),some (10,[[sA e,.isl 1 (map zt i),sA j,bA a.Static,bA a.Abstract,iA a.Locals,iA a.Stack,.lit (.slice none 0 0),.lit (.slice none 0 0),.lit (.slice none 0 0)]])] [18,19] [0,1,2,3,4,5,6,7,8,9,10,11,12,13,14,15,16,17] [(25,_),(24,_),(23,_),(22,_),(21,_),(20,_),(19,_),(18,_),(17,_),(16,_),(15,_),(14,_),(13,_),(12,_),(11,_),(10,_),(9,_),(8,_)] 2 (zcC ⟨peC,peC,peC,peC,peC,peC,peC,peC,peC,peC,peC,peC,peC,peC,peC,peC,peC,(by exact pb y (bd (parts:=[(0,sA e),(1,.isl 1 (map zt i)),(2,sA j),(3,bA a.Static),(4,bA a.Abstract),(5,iA a.Locals),(6,iA a.Stack)]) (cs:=[sA e,.isl 1 (map zt i),sA j,bA a.Static,bA a.Abstract,iA a.Locals,iA a.Stack,.lit (.slice none 0 0),.lit (.slice none 0 0),.lit (.slice none 0 0)]) ti y y kz<|w)),t⟩ (by exact ⟨(fun _ _=>⟨_,y,y,al 2 ti y<|⟨(.mpt 2 0 0),[],[(3,_)],y,y,y,y,zcC ⟨peC,peC,peC,peC,peC,peC,peC,peC,peC,peC,peC,peC,peC,peC,peC,peC,peC,(by exact pb y (bd (parts:=[(0,sA e),(1,.isl 1 (map zt i)),(2,sA j),(3,bA a.Static),(4,bA a.Abstract),(5,iA a.Locals),(6,iA a.Stack)]) (cs:=[sA e,.isl 1 (map zt i),sA j,bA a.Static,bA a.Abstract,iA a.Locals,iA a.Stack,.lit (.slice none 0 0),.lit (.slice none 0 0),.lit (.slice none 0 0)]) ti y y kz<|w)),t⟩ (by exact ⟨nv,(fun _ _=>⟨_,y,y,sto ti y y y<|⟨.any,[],[],y,y,y,t,zdg (z:=zaE [.old 0,.old 1,.old 2])⟩⟩),t⟩)⟩⟩),nw,t⟩)) ?_
 refine zf<|A ?_
 obtain ⟨o,ho,h⟩:=bs h
 refine lpB ho (fun z=>[(1,.mpt 0 0 0),(2,.mpt 1 0 0),(3,.mpt 2 0 0),(4,iA z.2)]) (fun z=>[some (10,[(zd a)]),some (10,[[sA [],.lit (.slice none 0 0),sA [],bA false,bA false,iA 0,iA 0,.lit (.slice none 0 0),.lit (.slice none 0 0),.lit (.slice none 0 0)]]),some (10,[[sA e,.isl 1 (map zt i),sA j,bA a.Static,bA a.Abstract,iA a.Locals,iA a.Stack,.msl 3 0 (length z.1),.lit (.slice none 0 0),.lit (.slice none 0 0)]]),some (4,map zi z.1)]) (fun b=>[(1,.mpt 0 0 0),(2,.mpt 1 0 0),(3,.mpt 2 0 0)]) (fun b=>[some (10,[(zd a)]),some (10,[[sA [],.lit (.slice none 0 0),sA [],bA false,bA false,iA 0,iA 0,.lit (.slice none 0 0),.lit (.slice none 0 0),.lit (.slice none 0 0)]]),some (10,[[sA e,.isl 1 (map zt i),sA j,bA a.Static,bA a.Abstract,iA a.Locals,iA a.Stack,.msl 3 0 (length b),.lit (.slice none 0 0),.lit (.slice none 0 0)]]),some (4,map zi b)]) (pG Tryz.f71 (fun r=>.agg (zd r))) ⟨[.old 0,.old 1,.old 2,.fresh 4],cv y (.mpt y)<|cv y (.mpt y)<|cv y (.mpt y)<|ce y y<|cn,y,⟨⟨_,y,zaz (ciL y)⟩,⟨_,y,zaz (ciL y)⟩,⟨_,y,zaz ⟨ci y,ci y,ci y,ci y,ci y,ci y,ci y,.nilown y,ci y,ci y,t⟩⟩,w,t⟩,y,k⟩ ?_ ?_
 ·rintro ⟨Q,R⟩ r h
  refine zf<|A ?_
  refine zeh h y (fun H h=>?_) fun H h=>?_
  ·refine ze<|zf<|zj ?_
   obtain ⟨S,T,K,U,v,L,h⟩:=bs3 h
   refine ziy [(1,_),(2,_),(3,_),(4,_)] [some (10,[(zd a)]),some (10,[[sA [],.lit (.slice none 0 0),sA [],bA false,bA false,iA 0,iA 0,.lit (.slice none 0 0),.lit (.slice none 0 0),.lit (.slice none 0 0)]]),some (10,[[sA e,.isl 1 (map zt i),sA j,bA a.Static,bA a.Abstract,iA a.Locals,iA a.Stack,.msl 3 0 (length v),.lit (.slice none 0 0),.lit (.slice none 0 0)]]),some (4,map zi v)] [8,9,11] [0,1,2,3,4,5,6,7] [(44,_),(43,_),(42,_),(41,_),(40,_),(39,_),(38,_),(37,_)] 3 (zcC (z:=by exact ⟨(fun _ _=>⟨_,y,y,bl 4 ti y ti y (by decide) (by decide) y y y<|⟨(.msl 4 0 1),[],[(45,_)],y,y,y,y,zcC (z:=by exact ⟨nv,(fun _ _=>⟨_,y,y,apM 5 ti y ti y y (by decide) ti y y y y (roX (f:=zi) (z:=[K]) y y) (fun _=>y) y L<|⟨(.msl 5 0 (length v)),[10],[(47,_),(46,_)],y,y,y,y,zcC (z:=by exact ⟨nv,nv,(fun _ _=>⟨_,y,y,sto ti y y y<|⟨.any,[],[],y,y,y,t,zdg (z:=zaE [.old 0,.old 1,.old 2,.old 5])⟩⟩),t⟩)⟩⟩),nw,t⟩)⟩⟩),nw,nw,t⟩)) ?_
   refine A ?_
   obtain rfl:=sm h
   exact ⟨_,y,zp [.old 0,.old 1,.old 2,.old 3]⟩
  ·refine zy ?_
   obtain rfl:=sm h
   exact ⟨y,_,y,zp [.old 0,.old 1,.old 2,.old 3]⟩
 ·rintro c rfl
  refine zu<|zf<|A ?_
  obtain ⟨o,ho,h⟩:=bs h
  refine lpB ho (fun z=>[(1,.mpt 0 0 0),(2,.mpt 1 0 0),(3,.mpt 2 0 0),(5,iA z.2)]) (fun z=>[some (10,[(zd a)]),some (10,[[sA [],.lit (.slice none 0 0),sA [],bA false,bA false,iA 0,iA 0,.lit (.slice none 0 0),.lit (.slice none 0 0),.lit (.slice none 0 0)]]),some (10,[[sA e,.isl 1 (map zt i),sA j,bA a.Static,bA a.Abstract,iA a.Locals,iA a.Stack,.msl 3 0 (length c),.msl 4 0 (length z.1),.lit (.slice none 0 0)]]),some (4,map zi c),some (3,map zx z.1)]) (fun b=>[(1,.mpt 0 0 0),(2,.mpt 1 0 0),(3,.mpt 2 0 0)]) (fun b=>[some (10,[(zd a)]),some (10,[[sA [],.lit (.slice none 0 0),sA [],bA false,bA false,iA 0,iA 0,.lit (.slice none 0 0),.lit (.slice none 0 0),.lit (.slice none 0 0)]]),some (10,[[sA e,.isl 1 (map zt i),sA j,bA a.Static,bA a.Abstract,iA a.Locals,iA a.Stack,.msl 3 0 (length c),.msl 4 0 (length b),.lit (.slice none 0 0)]]),some (4,map zi c),some (3,map zx b)]) (pG Tryz.f71 (fun r=>.agg (zd r))) ⟨[.old 0,.old 1,.old 2,.old 3,.fresh 3],cv y (.mpt y)<|cv y (.mpt y)<|cv y (.mpt y)<|ce y y<|cn,y,⟨⟨_,y,zaz (ciL y)⟩,⟨_,y,zaz (ciL y)⟩,⟨_,y,zaz ⟨ci y,ci y,ci y,ci y,ci y,ci y,ci y,.msl y,.nilown y,ci y,t⟩⟩,⟨_,y,zbs (fun _=>y)⟩,w,t⟩,y,k⟩ ?_ ?_
  ·rintro ⟨M,d⟩ r h
   refine zf<|A ?_
   refine zeh h y (fun I h=>?_) fun I h=>?_
   ·refine ze<|zf<|zj ?_
    obtain ⟨x,l,p,m,B,C,D,n,h⟩:=bs4 h
    obtain ⟨E,G,q,N,h⟩:=bs2 h
    refine ziy [(1,.mpt 0 0 0),(2,.mpt 1 0 0),(3,.mpt 2 0 0),(5,iA d)] [some (10,[(zd a)]),some (10,[[sA [],.lit (.slice none 0 0),sA [],bA false,bA false,iA 0,iA 0,.lit (.slice none 0 0),.lit (.slice none 0 0),.lit (.slice none 0 0)]]),some (10,[[sA e,.isl 1 (map zt i),sA j,bA a.Static,bA a.Abstract,iA a.Locals,iA a.Stack,.msl 3 0 (length c),.msl 4 0 (length q),.lit (.slice none 0 0)]]),some (4,map zi c),some (3,map zx q)] [23,24,26] [22,21,20,19,18,17,16,15,14,13,12,11,10,9,8,7,6,5,4,3,2,1,0] [(81,.agg [iA x.At,.isl 1 (map zt B),.isl 1 (map zt E)]),(80,.isl 1 (map zt E)),(79,.isl 1 (map zt D.Stack)),(78,.ipt 3 (map zx a.Maps) (Int.toNat d) 2),(77,.ipt 3 (map zx a.Maps) (Int.toNat d) 0),(76,iA d),(75,.isl 3 (map zx a.Maps)),(74,.mpt 0 0 8),(73,.isl 1 (map zt B)),(72,.isl 1 (map zt p.Locals)),(71,.ipt 3 (map zx a.Maps) (Int.toNat d) 1),(70,.ipt 3 (map zx a.Maps) (Int.toNat d) 0),(69,iA d),(68,.isl 3 (map zx a.Maps)),(67,.mpt 0 0 8),(66,iA x.At),(65,.ipt 3 (map zx a.Maps) (Int.toNat d) 0),(64,.ipt 3 (map zx a.Maps) (Int.toNat d) 0),(63,iA d),(62,.isl 3 (map zx a.Maps)),(61,.mpt 0 0 8),(60,.msl 4 0 (length M)),(59,.mpt 2 0 8)] 3 (zvv ⟨(pb y (bd ti y y y w)),(pb y (pc (zfB D.Stack 20 G) y y y w)),(pb y (ldI ti y (zm n).2.2 y w)),(pb y (fa ti y y y w)),(pb y (ixI ti y ti y y y n w)),pe,(pb y (ld ti y y w)),(pb y (fa ti y y y w)),(pb y (pc (zfB p.Locals 20 C) y y y w)),(pb y (ldI ti y (zm m).2.2 y w)),(pb y (fa ti y y y w)),(pb y (ixI ti y ti y y y m w)),pe,(pb y (ld ti y y w)),(pb y (fa ti y y y w)),(pb y (ldI ti y (zm l).2.2 y w)),(pb y (fa ti y y y w)),(pb y (ixI ti y ti y y y l w)),pe,(pb y (ld ti y y w)),(pb y (fa ti y y y w)),(pb y (ld ti y y w)),(pb y (fa ti y y y w)),t⟩ ⟨(fun _ _=>⟨_,y,y,bl 5 ti y ti y (by decide) (by decide) y y y<|⟨(.msl 5 0 1),[],[(82,.msl 5 0 1)],y,y,kz,y,zvv ⟨pe,(pb y (pc (zfB D.Stack 20 G) y y y w)),(pb y (ldI ti y (zm n).2.2 y w)),(pb y (fa ti y y y w)),(pb y (ixI ti y ti y y y n w)),pe,(pb y (ld ti y y w)),(pb y (fa ti y y y w)),(pb y (pc (zfB p.Locals 20 C) y y y w)),(pb y (ldI ti y (zm m).2.2 y w)),(pb y (fa ti y y y w)),(pb y (ixI ti y ti y y y m w)),pe,(pb y (ld ti y y w)),(pb y (fa ti y y y w)),(pb y (ldI ti y (zm l).2.2 y w)),(pb y (fa ti y y y w)),(pb y (ixI ti y ti y y y l w)),pe,(pb y (ld ti y y w)),(pb y (fa ti y y y w)),(pb y (ld ti y y w)),(pb y (fa ti y y y w)),t⟩ ⟨nv,(fun _ _=>⟨_,y,y,apM 6 ti y ti y y (by decide) ti y y y y (roX (f:=zx) (z:=[(zU.mk x.At B E)]) y y) (fun _=>y) y N<|⟨(.msl 6 0 (length q)),[25],[(84,.mpt 2 0 8),(83,.msl 6 0 (length q))],y,y,kz,y,zvv ⟨(pb y (fa ti y y y w)),pe,pe,(pb y (ldI ti y (zm n).2.2 y w)),(pb y (fa ti y y y w)),(pb y (ixI ti y ti y y y n w)),pe,(pb y (ld ti y y w)),(pb y (fa ti y y y w)),(pb y (pc (zfB p.Locals 20 C) y y y w)),(pb y (ldI ti y (zm m).2.2 y w)),(pb y (fa ti y y y w)),(pb y (ixI ti y ti y y y m w)),pe,(pb y (ld ti y y w)),(pb y (fa ti y y y w)),(pb y (ldI ti y (zm l).2.2 y w)),(pb y (fa ti y y y w)),(pb y (ixI ti y ti y y y l w)),pe,(pb y (ld ti y y w)),(pb y (fa ti y y y w)),pe,(pb y (fa ti y y y w)),t⟩ ⟨nv,nv,(fun _ _=>⟨_,y,y,sto ti y y y<|⟨.any,[],[],y,y,kz,t,zCv (zp [.old 0,.old 1,.old 2,.old 3,.old 6])⟩⟩),t⟩⟩⟩),nw,t⟩⟩⟩),nw,nw,t⟩) ?_
    refine A ?_
    obtain rfl:=sm h
    exact ⟨_,y,zp [.old 0,.old 1,.old 2,.old 3,.old 4]⟩
   ·refine zy ?_
    obtain rfl:=sm h
    exact ⟨y,_,y,zp [.old 0,.old 1,.old 2,.old 3,.old 4]⟩
  ·rintro s rfl
   refine zu<|zf<|A ?_
   obtain ⟨o,ho,h⟩:=bs h
   refine lpB ho (fun z=>[(1,.mpt 0 0 0),(2,.mpt 1 0 0),(3,.mpt 2 0 0),(6,iA z.2)]) (fun z=>[some (10,[(zd a)]),some (10,[[sA [],.lit (.slice none 0 0),sA [],bA false,bA false,iA 0,iA 0,.lit (.slice none 0 0),.lit (.slice none 0 0),.lit (.slice none 0 0)]]),some (10,[[sA e,.isl 1 (map zt i),sA j,bA a.Static,bA a.Abstract,iA a.Locals,iA a.Stack,.msl 3 0 (length c),.msl 4 0 (length s),.msl 5 0 (length z.1)]]),some (4,map zi c),some (3,map zx s),some (4,map zap z.1)]) (fun b=>[(2,.mpt 0 0 0),(3,.mpt 1 0 0)]) (fun b=>[some (10,[[sA [],.lit (.slice none 0 0),sA [],bA false,bA false,iA 0,iA 0,.lit (.slice none 0 0),.lit (.slice none 0 0),.lit (.slice none 0 0)]]),some (10,[[sA e,.isl 1 (map zt i),sA j,bA a.Static,bA a.Abstract,iA a.Locals,iA a.Stack,.msl 2 0 (length c),.msl 3 0 (length s),.msl 4 0 (length b)]]),some (4,map zi c),some (3,map zx s),some (4,map zap b)]) (pG Tryz.f71 (fun r=>.agg (zd r))) ⟨[.old 0,.old 1,.old 2,.old 3,.old 4,.fresh 4],cv y (.mpt y)<|cv y (.mpt y)<|cv y (.mpt y)<|ce y y<|cn,y,⟨⟨_,y,zaz (ciL y)⟩,⟨_,y,zaz (ciL y)⟩,⟨_,y,zaz ⟨ci y,ci y,ci y,ci y,ci y,ci y,ci y,.msl y,.msl y,.nilown y,t⟩⟩,⟨_,y,zbs (fun _=>y)⟩,⟨_,y,zbs (fun _=>y)⟩,w,t⟩,y,k⟩ ?_ ?_
   ·rintro ⟨V,W⟩ r h
    refine zf<|A ?_
    refine zeh h y (fun J h=>?_) fun J h=>?_
    ·refine ze<|zf<|zj ?_
     obtain ⟨F,X,h⟩:=bs h
     refine A ?_
     obtain ⟨O,Y,h⟩:=bs h
     refine A ?_
     obtain ⟨Z,P,h⟩:=bs h
     refine A ?_
     refine u<|apM 8 ti y ti y y (by decide) ti y y y y (roX (f:=zap) (z:=[(zan.mk F.From F.To F.At O)]) y y) (fun _=>y) y P<|A ?_
     refine A ?_
     obtain rfl:=sm h
     exact ⟨_,y,zp [.old 0,.old 1,.old 2,.old 3,.old 4,.old 8]⟩
    ·refine zy ?_
     obtain rfl:=sm h
     exact ⟨y,_,y,zp [.old 1,.old 2,.old 3,.old 4,.old 5]⟩
   ·rintro v43 rfl
    refine zu<|A ?_
    exact RT0⟩
def zlW(c:T0)(d:T0)(e:T1)(a:List zq)(b:List zb):Option (T0×T0×T1×(List zq)×(List zb)):=
  some (c,d,e,a,b)
def zfm(c:za)(b:List zb)(a:Int):Option (Sum ((List zb)×Int) (Sum ((List zb)) (T0×T0×T1×(List zq)×(List zb)))):=
  cond ((decide (a<(length c.Methods:Int)))&&(decide (a<10))) ((idx c.Methods a).bind fun d=>(zgT d).bind fun e=>(zfY 152 b [e]).bind fun f=>some (.inl (f,(IntKind.i64.wrap (a+1))))) (some (.inr (.inl b)))
def zh4(c:za)(d:T0)(e:T0)(f:T1)(a:List zq):Option (T0×T0×T1×(List zq)×(List zb)):=
  (zs (fun z=>zfm c z.1 z.2) ([],0)).bind fun o=>zQ o (fun b=>zlW d e f a b) some
def zfl(d:za)(c:List zq)(a:Int):Option (Sum ((List zq)×Int) (Sum ((List zq)) (T0×T0×T1×(List zq)×(List zb)))):=
  cond ((decide (a<(length d.Fields:Int)))&&(decide (a<10))) ((idx d.Fields a).bind fun b=>(zbN b.Name 10).bind fun e=>(zbN b.Type_ 12).bind fun f=>(zfY 40 c [(zq.mk e f b.Static)]).bind fun i=>some (.inl (i,(IntKind.i64.wrap (a+1))))) (some (.inr (.inl c)))
def zlc(a:za):Option (T0×T0×T1×(List zq)×(List zb)):=
  (zbN a.Name 10).bind fun c=>(zbN a.Super 10).bind fun d=>(zc3 a.Impl 6).bind fun e=>(zs (fun z=>zfl a z.1 z.2) ([],0)).bind fun o=>zQ o (fun b=>zh4 a c d e b) some
theorem zsN(a:za){r:T0×T0×T1×(List zq)×(List zb)}(h:zlc a=some r):SC Tryz.prog 16 [.agg (zc a)] [] (.agg [sA r.1,sA r.2.1,bA a.Interface,.isl 1 (map zt r.2.2.1),.msl 0 0 (length r.2.2.2.1),.msl 1 0 (length r.2.2.2.2)]) [.many 3 (map zA r.2.2.2.1),.many 10 (map zd r.2.2.2.2)]:=by
 refine ⟨⟨zgu (sz:=3) (fun _=>y),zgu (sz:=10) (fun _=>y),t⟩,zP Tryz.func16 y kz y ?_⟩
 refine A ?_
 obtain ⟨d,N,e,O,i,P,h⟩:=bs3 h
 refine rdA [(1,_),(2,_),(3,_)] [some (6,[(zc a)]),some (6,[[sA [],sA [],bA false,.lit (.slice none 0 0),.lit (.slice none 0 0),.lit (.slice none 0 0)]]),some (6,[[sA d,sA e,bA a.Interface,.isl 1 (map zt i),.lit (.slice none 0 0),.lit (.slice none 0 0)]])] [12,13] [0,1,2,3,4,5,6,7,8,9,10,11] [(18,_),(17,_),(16,_),(15,_),(14,_),(13,_),(12,_),(11,_),(10,_),(9,_),(8,_),(7,_)] 2 (zcC (z:=by exact ⟨(fun _ _=>⟨_,y,y,al 2 ti y<|⟨(.mpt 2 0 0),[],[(3,_)],y,y,y,y,zcC (z:=by exact ⟨nv,(fun _ _=>⟨_,y,y,sto ti y y y<|⟨.any,[],[],y,y,y,t,zdg (z:=zaE [.old 0,.old 1,.old 2])⟩⟩),t⟩)⟩⟩),nw,t⟩)) ?_
 refine zf<|A ?_
 obtain ⟨o,ho,h⟩:=bs h
 refine lpB ho (fun z=>[(1,.mpt 0 0 0),(2,.mpt 1 0 0),(3,.mpt 2 0 0),(4,iA z.2)]) (fun z=>[some (6,[(zc a)]),some (6,[[sA [],sA [],bA false,.lit (.slice none 0 0),.lit (.slice none 0 0),.lit (.slice none 0 0)]]),some (6,[[sA d,sA e,bA a.Interface,.isl 1 (map zt i),.msl 3 0 (length z.1),.lit (.slice none 0 0)]]),some (3,map zA z.1)]) (fun b=>[(1,.mpt 0 0 0),(2,.mpt 1 0 0),(3,.mpt 2 0 0)]) (fun b=>[some (6,[(zc a)]),some (6,[[sA [],sA [],bA false,.lit (.slice none 0 0),.lit (.slice none 0 0),.lit (.slice none 0 0)]]),some (6,[[sA d,sA e,bA a.Interface,.isl 1 (map zt i),.msl 3 0 (length b),.lit (.slice none 0 0)]]),some (3,map zA b)]) (pF Tryz.f16 (fun r=>.agg [sA r.1,sA r.2.1,bA a.Interface,.isl 1 (map zt r.2.2.1),.msl 0 0 (length r.2.2.2.1),.msl 1 0 (length r.2.2.2.2)]) fun r=>[some (3,map zA r.2.2.2.1),some (10,map zd r.2.2.2.2)]) ⟨[.old 0,.old 1,.old 2,.fresh 3],cv y (.mpt y)<|cv y (.mpt y)<|cv y (.mpt y)<|ce y y<|cn,y,⟨⟨_,y,zaz (ciL y)⟩,⟨_,y,zaz (ciL y)⟩,⟨_,y,zaz ⟨ci y,ci y,ci y,ci y,.nilown y,ci y,t⟩⟩,w,t⟩,y,k⟩ ?_ ?_
 ·rintro ⟨C,D⟩ r h
  refine zf<|A ?_
  refine zeh h y (fun m h=>?_) fun m h=>?_
  ·refine ze<|zf<|zj ?_
   obtain ⟨p,E,h⟩:=bs h
   refine A ?_
   obtain ⟨q,F,s,G,j,v,h⟩:=bs3 h
   refine ziy [(1,_),(2,_),(3,_),(4,_)] [some (6,[(zc a)]),some (6,[[sA [],sA [],bA false,.lit (.slice none 0 0),.lit (.slice none 0 0),.lit (.slice none 0 0)]]),some (6,[[sA d,sA e,bA a.Interface,.isl 1 (map zt i),.msl 3 0 (length j),.lit (.slice none 0 0)]]),some (3,map zA j)] [11,12,14] [0,1,2,3,4,5,6,7,8,9,10] [(45,_),(44,_),(43,_),(42,_),(41,_),(40,_),(39,_),(38,_),(37,_),(36,_),(35,_)] 3 (zcC (z:=by exact ⟨(fun _ _=>⟨_,y,y,bl 5 ti y ti y (by decide) (by decide) y y y<|⟨(.msl 5 0 1),[],[(46,_)],y,y,y,y,zcC (z:=by exact ⟨nv,(fun _ _=>⟨_,y,y,apM 6 ti y ti y y (by decide) ti y y y y (roX (f:=zA) (z:=[(zq.mk q s p.Static)]) y y) (fun _=>y) y v<|⟨(.msl 6 0 (length j)),[13],[(48,_),(47,_)],y,y,y,y,zcC (z:=by exact ⟨nv,nv,(fun _ _=>⟨_,y,y,sto ti y y y<|⟨.any,[],[],y,y,y,t,zdg (z:=zaE [.old 0,.old 1,.old 2,.old 6])⟩⟩),t⟩)⟩⟩),nw,t⟩)⟩⟩),nw,nw,t⟩)) ?_
   refine A ?_
   obtain rfl:=sm h
   exact ⟨_,y,zp [.old 0,.old 1,.old 2,.old 3]⟩
  ·refine zy ?_
   obtain rfl:=sm h
   exact ⟨y,_,y,zp [.old 0,.old 1,.old 2,.old 3]⟩
 ·rintro c rfl
  refine zu<|zf<|A ?_
  obtain ⟨o,ho,h⟩:=bs h
  refine lpB ho (fun z=>[(1,.mpt 0 0 0),(2,.mpt 1 0 0),(3,.mpt 2 0 0),(6,iA z.2)]) (fun z=>[some (6,[(zc a)]),some (6,[[sA [],sA [],bA false,.lit (.slice none 0 0),.lit (.slice none 0 0),.lit (.slice none 0 0)]]),some (6,[[sA d,sA e,bA a.Interface,.isl 1 (map zt i),.msl 3 0 (length c),.msl 4 0 (length z.1)]]),some (3,map zA c),some (10,map zd z.1)]) (fun b=>[(2,.mpt 0 0 0),(3,.mpt 1 0 0)]) (fun b=>[some (6,[[sA [],sA [],bA false,.lit (.slice none 0 0),.lit (.slice none 0 0),.lit (.slice none 0 0)]]),some (6,[[sA d,sA e,bA a.Interface,.isl 1 (map zt i),.msl 2 0 (length c),.msl 3 0 (length b)]]),some (3,map zA c),some (10,map zd b)]) (pF Tryz.f16 (fun r=>.agg [sA r.1,sA r.2.1,bA a.Interface,.isl 1 (map zt r.2.2.1),.msl 0 0 (length r.2.2.2.1),.msl 1 0 (length r.2.2.2.2)]) fun r=>[some (3,map zA r.2.2.2.1),some (10,map zd r.2.2.2.2)]) ⟨[.old 0,.old 1,.old 2,.old 3,.fresh 10],cv y (.mpt y)<|cv y (.mpt y)<|cv y (.mpt y)<|ce y y<|cn,y,⟨⟨_,y,zaz (ciL y)⟩,⟨_,y,zaz (ciL y)⟩,⟨_,y,zaz ⟨ci y,ci y,ci y,ci y,.msl y,.nilown y,t⟩⟩,⟨_,y,zbs (fun _=>y)⟩,w,t⟩,y,k⟩ ?_ ?_
  ·rintro ⟨H,I⟩ r h
   refine zf<|A ?_
   refine zeh h y (fun n h=>?_) fun n h=>?_
   ·refine ze<|zf<|zj ?_
    obtain ⟨J,K,x,L,l,B,h⟩:=bs3 h
    refine ziy [(1,_),(2,_),(3,_),(6,_)] [some (6,[(zc a)]),some (6,[[sA [],sA [],bA false,.lit (.slice none 0 0),.lit (.slice none 0 0),.lit (.slice none 0 0)]]),some (6,[[sA d,sA e,bA a.Interface,.isl 1 (map zt i),.msl 3 0 (length c),.msl 4 0 (length l)]]),some (3,map zA c),some (10,map zd l)] [8,9,11] [0,1,2,3,4,5,6,7] [(67,_),(66,_),(65,_),(64,_),(63,_),(62,_),(61,_),(60,_)] 3 (zcC (z:=by exact ⟨(fun _ _=>⟨_,y,y,bl 5 ti y ti y (by decide) (by decide) y y y<|⟨(.msl 5 0 1),[],[(68,_)],y,y,y,y,zcC (z:=by exact ⟨nv,(fun _ _=>⟨_,y,y,apM 6 ti y ti y y (by decide) ti y y y y (roX (f:=zd) (z:=[x]) y y) (fun _=>y) y B<|⟨(.msl 6 0 (length l)),[10],[(70,_),(69,_)],y,y,y,y,zcC (z:=by exact ⟨nv,nv,(fun _ _=>⟨_,y,y,sto ti y y y<|⟨.any,[],[],y,y,y,t,zdg (z:=zaE [.old 0,.old 1,.old 2,.old 3,.old 6])⟩⟩),t⟩)⟩⟩),nw,t⟩)⟩⟩),nw,nw,t⟩)) ?_
    refine A ?_
    obtain rfl:=sm h
    exact ⟨_,y,zp [.old 0,.old 1,.old 2,.old 3,.old 4]⟩
   ·refine zy ?_
    obtain rfl:=sm h
    exact ⟨y,_,y,zp [.old 1,.old 2,.old 3,.old 4]⟩
  ·rintro M rfl
   refine zu<|A ?_
   refine zD ?_
   obtain rfl:=sm h
   exact ⟨_,y,zxW [.old 2,.old 3]⟩
def zlV(a:List za):Option ((List za)):=
  some a
def zfk(c:List za)(d:List za)(b:Int):Option (Sum ((List za)×Int) (Sum ((List za)) ((List za)))):=
  cond ((decide (b<(length c:Int)))&&(decide (b<18))) ((idx c b).bind fun e=>(zlc e).bind fun a=>(zfY 112 d [(za.mk a.1 a.2.1 e.Interface a.2.2.1 a.2.2.2.1 a.2.2.2.2)]).bind fun f=>some (.inl (f,(IntKind.i64.wrap (b+1))))) (some (.inr (.inl d)))
def zg9(a:List za):Option ((List za)):=
  (zs (fun z=>zfk a z.1 z.2) ([],0)).bind fun o=>zQ o (fun b=>zlV b) some
theorem zsL(c:List za){r:(List za)}(h:zg9 c=some r):SC Tryz.prog 26 [.isl 6 (map zc c)] [] (.msl 0 0 (length r)) [.many 6 (map zc r)]:=by
 refine ⟨⟨zgu (sz:=6) (fun _=>y),t⟩,zP Tryz.func26 y kz y ?_⟩
 refine A ?_
 refine A ?_
 refine zf<|A ?_
 obtain ⟨o,ho,h⟩:=bs h
 refine lpB ho (fun z=>[(0,.isl 6 (map zc c)),(3,.msl 0 0 (length z.1)),(4,iA z.2)]) (fun z=>[some (6,map zc z.1)]) (fun b=>[(3,.msl 0 0 (length b))]) (fun b=>[some (6,map zc b)]) (pF Tryz.f26 (fun r=>.msl 0 0 (length r)) fun r=>[some (6,map zc r)]) ⟨[.fresh 6],ce y y<|cv y (.nilown y)<|ce y y<|cn,y,⟨w,t⟩,y,k⟩ ?_ ?_
 ·rintro ⟨d,f⟩ r h
  refine zf<|A ?_
  refine zeh h y (fun i h=>?_) fun i h=>?_
  ·refine ze<|zf<|zj ?_
   obtain ⟨e,p,a,l,m,j,h⟩:=bs3 h
   refine A ?_
   refine u<|sx [] (zsN e l)<|zv (env0:=[(0,.isl 6 (map zc c)),(4,iA f),(15,.msl 0 0 (length d)),(20,.agg [sA a.1,sA a.2.1,bA e.Interface,.isl 1 (map zt a.2.2.1),.msl 1 0 (length a.2.2.2.1),.msl 2 0 (length a.2.2.2.2)])]) (st0:=[some (6,map zc d),some (3,map zA a.2.2.2.1),some (10,map zd a.2.2.2.2)]) (zp [.old 0,.old 1,.old 2])<|A ?_
   refine zv (env0:=[(0,.isl 6 (map zc c)),(4,iA f),(15,.msl 0 0 (length d)),(21,.msl 1 0 (length [(za.mk a.1 a.2.1 e.Interface a.2.2.1 a.2.2.2.1 a.2.2.2.2)]))]) (st0:=[some (6,map zc d),some (6,map zc [(za.mk a.1 a.2.1 e.Interface a.2.2.1 a.2.2.2.1 a.2.2.2.2)])]) (zp [.old 0,.old 3])<|u<|apM 2 ti y ti y y (by decide) ti y y y y (roM y) (fun _=>y) y j<|A ?_
   refine A ?_
   obtain rfl:=sm h
   exact ⟨_,y,zp [.old 2]⟩
  ·refine zy ?_
   obtain rfl:=sm h
   exact ⟨y,_,y,zp [.old 0]⟩
 ·rintro n rfl
  refine zu<|A ?_
  exact RT1
def zc4:T1:=
  ([[79,98,106,101,99,116],[84,104,114,111,119,110],[78,117,108,108,69,114,114],[82,97,110,103,101,69,114,114],[77,97,116,104,69,114,114],[67,97,115,116,69,114,114],[83,105,122,101,69,114,114],[83,116,111,114,101,69,114,114],[73,110,105,116,69,114,114],[67,108,97,115,115,69,114,114]])
theorem zqL{r:T1}(h:zc4=r):SC Tryz.prog 184 [] [] (.msl 0 0 (length r)) [.many 1 (map zt r)]:=by
 refine ⟨⟨zgu (sz:=1) (fun _=>y),t⟩,zP Tryz.func184 y kz y ?_⟩
 unfold zc4 at h
 refine A ?_
 refine A ?_
 refine zD ?_
 obtain rfl:=h
 exact ⟨_,y,zab [.old 0]⟩
def zbw:T1:=
  ([[79,98,106,101,99,116],[84,104,114,111,119,110],[78,117,108,108,69,114,114],[82,97,110,103,101,69,114,114],[77,97,116,104,69,114,114],[67,97,115,116,69,114,114],[83,105,122,101,69,114,114],[83,116,111,114,101,69,114,114],[73,110,105,116,69,114,114],[67,108,97,115,115,69,114,114]])
theorem zqd{r:T1}(h:zbw=r):SC Tryz.prog 105 [] [] (.msl 0 0 (length r)) [.many 1 (map zt r)]:=by
 refine ⟨⟨zgu (sz:=1) (fun _=>y),t⟩,zP Tryz.func105 y kz y ?_⟩
 unfold zbw at h
 refine A ?_
 refine A ?_
 refine zD ?_
 obtain rfl:=h
 exact ⟨_,y,zab [.old 0]⟩
def zqf(a:List za):Option ((List za)):=
  some a
def zjv(c:List za)(d:Int)(e:T0)(a:T0):Option (Sum ((List za)×Int) (Sum ((List za)) ((List za)))):=
  (zfY 112 c ([(za.mk e a false [] [] [])])).bind fun b=>some (.inl (b,(IntKind.i64.wrap (d+1))))
def zqg(b:List za)(a:Int):Option (Sum ((List za)×Int) (Sum ((List za)) ((List za)))):=
  cond (decide (a<((length (zbw)):Int))) ((idx (zbw) a).bind fun c=>cond (decide (a<2)) ((idx ([[],[79,98,106,101,99,116]]) a).bind fun d=>zjv b a c d) (zjv b a c [84,104,114,111,119,110])) (some (.inr (.inl b)))
def zm4:Option ((List za)):=
  (zs (fun z=>zqg z.1 z.2) ([],0)).bind fun o=>zQ o (fun b=>zqf b) some
theorem zqh{r:(List za)}(h:zm4=some r):SC Tryz.prog 98 [] [] (.msl 0 0 (length r)) [.many 6 (map zc r)]:=by
 refine ⟨⟨zgu (sz:=6) (fun _=>y),t⟩,zP Tryz.func98 y kz y ?_⟩
 refine A ?_
 refine A ?_
 refine zf ?_
 refine rg y<|u<|sx [] (zqd y)<|zv (env0:=[(1,.lit (.slice none 0 0)),(5,.msl 0 0 (length (zbw)))]) (st0:=[some (1,map zt (zbw))]) (zp [.old 0])<|A ?_
 obtain ⟨o,ho,h⟩:=bs h
 refine lpB ho (fun z=>[(1,.msl 0 0 (length z.1)),(5,.msl 1 0 (length (zbw))),(6,iA ((length (zbw)):Int)),(7,iA z.2)]) (fun z=>[some (6,map zc z.1),some (1,map zt (zbw))]) (fun b=>[(1,.msl 0 0 (length b))]) (fun b=>[some (6,map zc b)]) (pF Tryz.f98 (fun r=>.msl 0 0 (length r)) fun r=>[some (6,map zc r)]) ⟨[.fresh 6,.old 0],cv y (.nilown y)<|cv y (.msl y)<|ce y y<|ce y y<|cn,y,⟨w,⟨_,y,zbs (fun _=>y)⟩,t⟩,y,k⟩ ?_ ?_
 ·rintro ⟨a,c⟩ r h
  refine A ?_
  refine zf ?_
  refine zeh h y (fun f h=>?_) fun f h=>?_
  ·refine ze<|zf<|zj ?_
   obtain ⟨d,q,h⟩:=bs h
   refine A ?_
   refine A ?_
   refine zaA (X:=T0) (fun z=>[(1,.msl 0 0 (length a)),(4,.mpt 1 0 0),(5,.msl 2 0 (length (zbw))),(6,iA ((length (zbw)):Int)),(7,iA c)]) (fun z=>[some (6,map zc a),some (6,[[sA d,sA z,bA false,.lit (.slice none 0 0),.lit (.slice none 0 0),.lit (.slice none 0 0)]]),some (1,map zt (zbw))]) (fun z=>zjv a c d z=some r) ?_ ?_
   ·refine A ?_
    refine zeh h y (fun i h=>?_) fun i h=>?_
    ·obtain ⟨l,j,h⟩:=bs h
     exact rl y<|u<|bl 3 ti y ti y (by decide) (by decide) y y y<|u<|mv y<|zv (env0:=[(1,.msl 0 0 (length a)),(4,.mpt 1 0 0),(5,.msl 2 0 (length (zbw))),(6,iA ((length (zbw)):Int)),(7,iA c),(16,.msl 3 0 (length ([[],[79,98,106,101,99,116]]))),(17,iA c)]) (st0:=[some (6,map zc a),some (6,[[sA d,sA [84,104,114,111,119,110],bA false,.lit (.slice none 0 0),.lit (.slice none 0 0),.lit (.slice none 0 0)]]),some (1,map zt (zbw)),some (1,map zt ([[],[79,98,106,101,99,116]]))]) (zp [.old 0,.old 2,.old 1,.old 3])<|u<|ixM ti y ti y y y y j<|u<|ldM ti y y (zm j).2.2 y<|u<|fa ti y y y<|u<|sto ti y y y<|zn (⟨l,h,zp [.old 0,.old 1,.old 2]⟩)
    ·refine ze ?_
     exact ⟨[84,104,114,111,119,110],h,zp [.old 0,.old 2,.old 1]⟩
   ·rintro e h
    obtain ⟨n,m,h⟩:=bs h
    refine A ?_
    refine zv (env0:=[(5,.msl 0 0 (length (zbw))),(6,iA ((length (zbw)):Int)),(7,iA c),(21,.msl 1 0 (length a)),(23,.msl 2 0 (length ([(za.mk d e false [] [] [])])))]) (st0:=[some (1,map zt (zbw)),some (6,map zc a),some (6,map zc ([(za.mk d e false [] [] [])]))]) (zp [.old 2,.old 0,.old 3])<|u<|apM 3 ti y ti y y (by decide) ti y y y y (roM y) (fun _=>y) y m<|A ?_
    refine A ?_
    obtain rfl:=sm h
    exact ⟨_,y,zp [.old 3,.old 0]⟩
  ·refine zy ?_
   obtain rfl:=sm h
   exact ⟨y,_,y,zp [.old 0]⟩
 ·rintro p rfl
  refine zu<|A ?_
  exact RT1
def zhQ(a:za):Option (T1):=
  (zfY 16 [a.Super] a.Impl).bind fun b=>some b
theorem zju(a:za){r:T1}(h:zhQ a=some r):SC Tryz.prog 100 [.agg (zc a)] [] (.msl 0 0 (length r)) [.many 1 (map zt r)]:=by
 refine ⟨⟨zgu (sz:=1) (fun _=>y),t⟩,zP Tryz.func100 y kz y ?_⟩
 refine A ?_
 obtain ⟨c,b,h⟩:=bs h
 refine A ?_
 refine u<|apM (l:=[a.Super]) (f:=zt) 2 ti y ti y y (by decide) ti y y y y roI (fun _=>y) y b<|A ?_
 refine zD ?_
 obtain rfl:=sm h
 exact ⟨_,y,zxW [.old 2]⟩
def zaY(c:List za)(a:T2)(b:T0):Bool:=
  (Option.isSome (zdI b a))
theorem zj1(b:List za)(a:T2)(c:T0){r:Bool}(h:zaY b a c=r):zaF Tryz.prog 102 [.ipt 2 [[.isl 6 (map zc b),.imp (map (rKV (fun x=>iA x)) a)]] 0 0,sA c] (bA r):=by
 refine zl Tryz.func102 y kz y y ?_
 unfold zaY at h
 refine A ?_
 refine zf<|A ?_
 refine zg3 y (fun hx=>by cases hx) (fun _=>?_)
 refine ze<|A ?_
 refine u<|zC8 (g:=(fun x=>iA x)) (z:=0) (l:=a) y ti y y y y<|A ?_
 refine A ?_
 refine zD ?_
 obtain rfl:=h
 exact ⟨_,y,zab []⟩
instance (a:List za)(b:T2)(c:T0):PF Tryz.prog 102 [.ipt 2 [[.isl 6 (map zc a),.imp (map (rKV (fun x=>iA x)) b)]] 0 0,sA c] (some (zaY a b c)) bA:=.of fun _=>zj1 a b c
def zk8(a:T0)(b:List za)(c:T2):Bool:=
  (!(zaY b c a))
instance (a:T0)(b:List za)(c:T2):PF Tryz.prog 101 [sA a,.ipt 1 [[.ipt 2 [[.isl 6 (map zc b),.imp (map (rKV (fun x=>iA x)) c)]] 0 0]] 0 0] (some (zk8 a b c)) bA:=.of fun r h=>by
 refine zl Tryz.func101 y kz y y ?_
 unfold zk8 at h
 refine A ?_
 refine A ?_
 refine zD ?_
 obtain rfl:=h
 exact ⟨_,y,zab []⟩
def zdu:Option (Int):=
  some (-1)
def zaU(b:T1)(c:List za)(d:T2)(a:Int):Option (Sum (Int) (Sum (Unit) (Int))):=
  cond (decide (a<(length b:Int))) ((idx b a).bind fun e=>cond (zk8 e c d) (some (.inr (.inr a))) (some (.inl (IntKind.i64.wrap (a+1))))) (some (.inr (.inl ())))
def zb0(a:T1)(c:List za)(d:T2):Option (Int):=
  (zs (fun z=>zaU a c d z) 0).bind fun o=>zQ o (fun b=>zdu) some
instance (a:T1)(c:List za)(d:T2):PF Tryz.prog 181 [.isl 1 (map zt a),.fn (.func 101) [] [.ipt 1 [[.ipt 2 [[.isl 6 (map zc c),.imp (map (rKV (fun x=>iA x)) d)]] 0 0]] 0 0]] (zb0 a c d) iA:=⟨fun r h=>by
 refine zl Tryz.func181 y kz y y<|A ?_
 refine zf<|A ?_
 obtain ⟨o,ho,h⟩:=bs h
 refine lpB ho (fun z=>[(0,.isl 1 (map zt a)),(1,.fn (.func 101) [] [.ipt 1 [[.ipt 2 [[.isl 6 (map zc c),.imp (map (rKV (fun x=>iA x)) d)]] 0 0]] 0 0]),(7,iA (length a:Int)),(8,iA z)]) (fun z=>[]) (fun b=>[]) (fun b=>[]) (pG Tryz.f181 iA) (zaE []) ?_ ?_
 ·rintro i r h
  refine A ?_
  refine zf ?_
  refine zeh h y (fun e h=>?_) fun e h=>?_
  ·refine ze<|zf<|zj<|A ?_
   obtain ⟨j,l,h⟩:=bs h
   refine A ?_
   refine zeh h y (fun f h=>?_) fun f h=>?_
   ·refine A ?_
    refine zD ?_
    obtain rfl:=sm h
    exact ⟨_,y,_,y,zab []⟩
   ·refine ze<|A ?_
    obtain rfl:=sm h
    exact ⟨_,y,zp []⟩
  ·refine zy ?_
   obtain rfl:=sm h
   exact ⟨y,_,y,zp []⟩
 ·rintro ⟨⟩ rfl
  refine zu<|A ?_
  exact RT0⟩
def zai(a:T1)(b:List za)(c:T2):Option (Bool):=
  (zb0 a b c).bind fun d=>some (decide (0≤d))
theorem zcT(a:T1)(b:List za)(c:T2){r:Bool}(h:zai a b c=some r):zaF Tryz.prog 99 [.isl 1 (map zt a),.fn (.func 101) [] [.ipt 1 [[.ipt 2 [[.isl 6 (map zc b),.imp (map (rKV (fun x=>iA x)) c)]] 0 0]] 0 0]] (bA r):=by
 refine zl Tryz.func99 y kz y y<|A ?_
 obtain ⟨d,e,h⟩:=bs h
 refine A ?_
 exact RT0
instance (a:T1)(b:List za)(c:T2):PF Tryz.prog 99 [.isl 1 (map zt a),.fn (.func 101) [] [.ipt 1 [[.ipt 2 [[.isl 6 (map zc b),.imp (map (rKV (fun x=>iA x)) c)]] 0 0]] 0 0]] (zai a b c) bA:=⟨fun _=>zcT a b c⟩
def zcA(a:List za)(b:T2)(c:T0):Option (za):=
  (idx a (Option.getD (zdI c b) 0)).bind fun d=>some d
instance (b:List za)(a:T2)(c:T0):PF Tryz.prog 182 [.ipt 2 [[.isl 6 (map zc b),.imp (map (rKV (fun x=>iA x)) a)]] 0 0,sA c] (zcA b a c) (fun r=>(.agg (zc r))):=⟨fun r h=>by
 refine zl Tryz.func182 y kz y y<|A ?_
 obtain ⟨d,e,h⟩:=bs h
 refine rdA [(4,_)] [some (6,[(zc d)])] [12] [0,1,2,3,4,5,6,7,8,9,10,11] [(16,_),(15,_),(14,_),(13,_),(12,_),(11,_),(10,_),(9,_),(8,_),(7,_),(6,_),(5,_)] 1 (zcC ⟨peC,peC,peC,peC,peC,peC,peC,peC,peC,(by exact pb y (zDw (g:=(fun x=>iA x)) (z:=0) (l:=a) y ti y y y y<|w)),peC,peC,t⟩ (by exact ⟨(fun _ _=>⟨_,y,y,sto ti y y y<|⟨.any,[],[],y,y,y,t,zdg (z:=zaE [.old 0])⟩⟩),t⟩)) ?_
 exact RT0⟩
def zhv(a:T0)(b:List za)(c:T2):Option (Bool):=
  (zcA b c a).bind fun d=>some (!d.Interface)
instance (a:T0)(b:List za)(c:T2):PF Tryz.prog 183 [sA a,.ipt 1 [[.ipt 2 [[.isl 6 (map zc b),.imp (map (rKV (fun x=>iA x)) c)]] 0 0]] 0 0] (zhv a b c) bA:=⟨fun r h=>by
 refine zl Tryz.func183 y kz y y<|A ?_
 obtain ⟨d,e,h⟩:=bs h
 refine A ?_
 exact RT0⟩
def zdv:Option (Int):=
  some (-1)
def zaV(b:T1)(c:List za)(d:T2)(a:Int):Option (Sum (Int) (Sum (Unit) (Int))):=
  cond (decide (a<(length b:Int))) ((idx b a).bind fun e=>(zhv e c d).bind fun f=>cond f (some (.inr (.inr a))) (some (.inl (IntKind.i64.wrap (a+1))))) (some (.inr (.inl ())))
def zb1(a:T1)(c:List za)(d:T2):Option (Int):=
  (zs (fun z=>zaV a c d z) 0).bind fun o=>zQ o (fun b=>zdv) some
instance (a:T1)(c:List za)(d:T2):PF Tryz.prog 181 [.isl 1 (map zt a),.fn (.func 183) [] [.ipt 1 [[.ipt 2 [[.isl 6 (map zc c),.imp (map (rKV (fun x=>iA x)) d)]] 0 0]] 0 0]] (zb1 a c d) iA:=⟨fun r h=>by
 refine zl Tryz.func181 y kz y y<|A ?_
 refine zf<|A ?_
 obtain ⟨o,ho,h⟩:=bs h
 refine lpB ho (fun z=>[(0,.isl 1 (map zt a)),(1,.fn (.func 183) [] [.ipt 1 [[.ipt 2 [[.isl 6 (map zc c),.imp (map (rKV (fun x=>iA x)) d)]] 0 0]] 0 0]),(7,iA (length a:Int)),(8,iA z)]) (fun z=>[]) (fun b=>[]) (fun b=>[]) (pG Tryz.f181 iA) (zaE []) ?_ ?_
 ·rintro i r h
  refine A ?_
  refine zf ?_
  refine zeh h y (fun e h=>?_) fun e h=>?_
  ·refine ze<|zf<|zj<|A ?_
   obtain ⟨j,l,m,n,h⟩:=bs2 h
   refine A ?_
   refine zeh h y (fun f h=>?_) fun f h=>?_
   ·refine A ?_
    refine zD ?_
    obtain rfl:=sm h
    exact ⟨_,y,_,y,zab []⟩
   ·refine ze<|A ?_
    obtain rfl:=sm h
    exact ⟨_,y,zp []⟩
  ·refine zy ?_
   obtain rfl:=sm h
   exact ⟨y,_,y,zp []⟩
 ·rintro ⟨⟩ rfl
  refine zu<|A ?_
  exact RT0⟩
def zaj(a:T1)(b:List za)(c:T2):Option (Bool):=
  (zb1 a b c).bind fun d=>some (decide (0≤d))
theorem zcU(a:T1)(b:List za)(c:T2){r:Bool}(h:zaj a b c=some r):zaF Tryz.prog 99 [.isl 1 (map zt a),.fn (.func 183) [] [.ipt 1 [[.ipt 2 [[.isl 6 (map zc b),.imp (map (rKV (fun x=>iA x)) c)]] 0 0]] 0 0]] (bA r):=by
 refine zl Tryz.func99 y kz y y<|A ?_
 obtain ⟨d,e,h⟩:=bs h
 refine A ?_
 exact RT0
instance (a:T1)(b:List za)(c:T2):PF Tryz.prog 99 [.isl 1 (map zt a),.fn (.func 183) [] [.ipt 1 [[.ipt 2 [[.isl 6 (map zc b),.imp (map (rKV (fun x=>iA x)) c)]] 0 0]] 0 0]] (zaj a b c) bA:=⟨fun _=>zcU a b c⟩
def zmr:Option (Bool):=
  some true
def ziV(a:Int)(b:T1):Option (Sum (T1×Int) (Sum (Unit) (Bool))):=
  some (.inl (b,(IntKind.i64.wrap (a+1))))
def zfy(a:Int)(b:T1):Option (Sum (T1×Int) (Sum (T1) (Bool))):=
  some (.inl (b,(IntKind.i64.wrap (a+1))))
def zdA(d:T1)(a:T1)(b:Int):Option (Sum (T1×Int) (Sum (T1) (Bool))):=
  cond (decide (b<((length d):Int))) ((idx d b).bind fun c=>(cond (!(c == [])) ((zI a c).bind fun e=>some (!e)) (some false)).bind fun f=>cond f ((zfY 16 a [c]).bind fun i=>zfy b i) (zfy b a)) (some (.inr (.inl a)))
def zcl(j:List za)(l:T2)(m:za)(a:T1)(c:Int):Option (Sum (T1×Int) (Sum (Unit) (Bool))):=
  cond (decide (c<((length a):Int))) ((idx a c).bind fun d=>cond (d == m.Name) (some (.inr (.inr false))) ((idx a c).bind fun e=>(zcA j l e).bind fun f=>(zhQ f).bind fun i=>(zs (fun z=>zdA i z.1 z.2) (a,0)).bind fun o=>zQ o (fun b=>ziV c b) (fun r=>some (.inr (.inr r))))) (some (.inr (.inl ())))
def zeZ(c:List za)(d:T2)(a:za):Option (Bool):=
  (zcA c d a.Super).bind fun e=>(cond e.Interface (some true) ((zaj a.Impl c d).bind fun f=>some f)).bind fun i=>cond i (some false) ((zhQ a).bind fun j=>(zs (fun z=>zcl c d a z.1 z.2) (j,0)).bind fun o=>zQ o (fun b=>zmr) some)
theorem ziW(e:List za)(i:T2)(c:za){r:Bool}(h:zeZ e i c=some r):zaF Tryz.prog 103 [.ipt 2 [[.isl 6 (map zc e),.imp (map (rKV (fun x=>iA x)) i)]] 0 0,.agg (zc c)] (bA r):=by
 refine zl Tryz.func103 y kz y y<|A ?_
 refine zf ?_
 obtain ⟨v4,q1,O,n,h⟩:=bs2 h
 refine A ?_
 refine zq3 (x:=O) (j:=5) 4 y y y y y gpn (fun m=>by replace n:=bF m n;obtain ⟨v5,P,n⟩:=bs n;obtain rfl:=sm n;exact g y m<|fa ti y y y<|g y m<|ld ti y y<|g y m<|mf y y<|g y m<|pcs (zcU c.Impl e i P) y y (.cons (si y) (.cons (zgP t ⟨(zbO y ⟨(si y),t⟩),t⟩) .nil)) zbF<|zn (eg [15,16,17,18] 4 y y y y)) (fun hb=>(sm (bT hb n)).symm)<|zn ?_
 refine zeh h y (fun G h=>?_) fun G h=>?_
 ·refine A ?_
  exact RT0
 ·refine ze ?_
  obtain ⟨H,Q,h⟩:=bs h
  refine A ?_
  refine u<|sx [] (zju c Q)<|zv (env0:=[(2,.mpt 0 0 0),(3,.mpt 1 0 0),(21,.msl 2 0 (length H))]) (st0:=[some (1,[[.ipt 2 [[.isl 6 (map zc e),.imp (map (rKV (fun x=>iA x)) i)]] 0 0]]),some (6,[(zc c)]),some (1,map zt H)]) (zp [.old 0,.old 1,.old 2])<|A ?_
  refine zf<|A ?_
  obtain ⟨o,ho,h⟩:=bs h
  refine lpB ho (fun z=>[(2,.mpt 0 0 0),(3,.mpt 1 0 0),(5,.msl 2 0 (length z.1)),(6,iA z.2)]) (fun z=>[some (1,[[.ipt 2 [[.isl 6 (map zc e),.imp (map (rKV (fun x=>iA x)) i)]] 0 0]]),some (6,[(zc c)]),some (1,map zt z.1)]) (fun b=>[]) (fun b=>[]) (pG Tryz.f103 bA) (zaE [.old 0,.old 1,.old 2]) ?_ ?_
  ·rintro ⟨q,p⟩ r h
   refine zf<|A ?_
   refine zeh h y (fun C h=>?_) fun C h=>?_
   ·refine ze<|zf<|zj<|zf ?_
    obtain ⟨R,S,h⟩:=bs h
    refine rdA [(2,_),(3,_),(5,_),(6,_),(34,_)] [some (1,[[.ipt 2 [[.isl 6 (map zc e),.imp (map (rKV (fun x=>iA x)) i)]] 0 0]]),some (6,[(zc c)]),some (1,map zt q)] [] [0,1,2,3,4,5,6] [(34,_),(33,_),(32,_),(31,_),(30,_),(29,_),(28,_)] 0 (zdg (z:=zaE [.old 0,.old 1,.old 2])) ?_
    refine zeh h y (fun D h=>?_) fun D h=>?_
    ·refine A ?_
     refine zD ?_
     obtain rfl:=sm h
     exact ⟨_,y,_,y,zab []⟩
    ·refine ze ?_
     obtain ⟨T,U,I,V,a,J,h⟩:=bs3 h
     refine rdA [(2,_),(3,_),(5,_),(6,_),(41,_),(42,_),(43,_)] [some (1,[[.ipt 2 [[.isl 6 (map zc e),.imp (map (rKV (fun x=>iA x)) i)]] 0 0]]),some (6,[(zc c)]),some (1,map zt q),some (1,map zt a)] [6] [0,1,2,3,4,5,8] [(43,_),(40,_),(39,_),(38,_),(37,_),(36,_),(35,_)] 1 (zcC (z:=by exact ⟨(fun _ _=>⟨_,y,y,sx [] (zju I J)<|⟨(.msl 3 0 (length a)),[7],[(42,_),(41,_)],y,y,y,y,zdg (z:=zaE [.old 0,.old 1,.old 2,.old 3])⟩⟩),t⟩)) ?_
     obtain ⟨o,ho,h⟩:=bs h
     refine lpS ho (fun z=>[(2,.mpt 0 0 0),(3,.mpt 1 0 0),(5,.msl 2 0 (length z.1)),(6,iA p),(41,.msl 3 0 (length a)),(42,iA ((length a):Int)),(43,iA z.2)]) (fun z=>[some (1,[[.ipt 2 [[.isl 6 (map zc e),.imp (map (rKV (fun x=>iA x)) i)]] 0 0]]),some (6,[(zc c)]),some (1,map zt z.1),some (1,map zt a)]) (fun b=>[(2,.mpt 0 0 0),(3,.mpt 1 0 0),(5,.msl 2 0 (length b)),(6,iA p)]) (fun b=>[some (1,[[.ipt 2 [[.isl 6 (map zc e),.imp (map (rKV (fun x=>iA x)) i)]] 0 0]]),some (6,[(zc c)]),some (1,map zt b)]) (pG Tryz.f103 bA) (zaE [.old 0,.old 1,.old 2,.old 3]) ?_ ?_ ?_
     ·rintro ⟨s,v⟩ r h
      refine A ?_
      refine zf ?_
      refine zeh h y (fun E h=>?_) fun E h=>?_
      ·refine ze ?_
       refine zaA (X:=T1) (fun z=>[(2,.mpt 0 0 0),(3,.mpt 1 0 0),(5,.msl 2 0 (length z)),(6,iA p),(41,.msl 3 0 (length a)),(42,iA ((length a):Int)),(43,iA v)]) (fun z=>[some (1,[[.ipt 2 [[.isl 6 (map zc e),.imp (map (rKV (fun x=>iA x)) i)]] 0 0]]),some (6,[(zc c)]),some (1,map zt z),some (1,map zt a)]) (fun z=>zfy v z=some r) ?_ ?_
       ·refine zj ?_
        obtain ⟨B,W,h⟩:=bs h
        refine A ?_
        obtain ⟨K,l,h⟩:=bs h
        refine A ?_
        refine zhw (x:=K) (j:=2) 4 y y y y y gpn (fun d=>by replace l:=bT d l;obtain ⟨Y,L,l⟩:=bs l;obtain rfl:=sm l;exact g y d<|mv y<|g y d<|mv y<|g y d<|pcs (zag s B L) y y (.cons (zgK y (fun _=>y)) (.cons (si y) .nil)) zbF<|g y d<|nt y<|zn (eg [50,51,52,53] 4 y y y y)) (fun hb=>(sm (bF hb l)).symm)<|zn ?_
        refine zeh h y (fun F h=>?_) fun F h=>?_
        ·obtain ⟨M,N,h⟩:=bs h
         refine A ?_
         refine u<|apM 5 ti y ti y y (by decide) ti y y y y (roX (f:=zt) (z:=[B]) y y) (fun _=>y) y N<|A ?_
         exact (⟨M,h,zp [.old 0,.old 1,.old 5,.old 3]⟩)
        ·refine ze ?_
         exact ⟨s,h,zp [.old 0,.old 1,.old 2,.old 3]⟩
       ·rintro Z h
        refine A ?_
        obtain rfl:=sm h
        exact ⟨_,y,zp [.old 0,.old 1,.old 2,.old 3]⟩
      ·refine zy ?_
       obtain rfl:=sm h
       exact ⟨y,_,y,zp [.old 0,.old 1,.old 2]⟩
     ·rintro v49 rfl
      refine zu<|A ?_
      obtain rfl:=sm h
      exact ⟨_,y,zp [.old 0,.old 1,.old 2]⟩
     ·rintro r' rfl env st hp
      obtain rfl:=sm h
      exact ⟨_,y,hp⟩
   ·refine zy ?_
    obtain rfl:=sm h
    exact ⟨y,_,y,zp []⟩
  ·rintro ⟨⟩ rfl
   refine zu<|A ?_
   exact RT0
instance (a:List za)(b:T2)(c:za):PF Tryz.prog 103 [.ipt 2 [[.isl 6 (map zc a),.imp (map (rKV (fun x=>iA x)) b)]] 0 0,.agg (zc c)] (zeZ a b c) bA:=⟨fun _=>ziW a b c⟩
def zsH(a:List za)(b:T2):Option ((Option zY)×Int):=
  some ((some (zY.mk a b)),0)
def zgS(b:List za)(c:List za)(d:T2)(a:Int):Option (Sum (Int) (Sum (Unit) ((Option zY)×Int))):=
  cond (decide (a<(length b:Int))) ((idx b a).bind fun e=>(zeZ c d e).bind fun f=>cond (!f) (some (.inr (.inr (none,1)))) (some (.inl (IntKind.i64.wrap (a+1))))) (some (.inr (.inl ())))
def zox(d:List za)(a:List za)(c:T2):Option ((Option zY)×Int):=
  (zs (fun z=>zgS d a c z) 0).bind fun o=>zQ o (fun b=>zsH a c) some
def zgR(b:List za)(c:List za)(d:T2)(a:Int):Option (Sum (Int) (Sum (Unit) ((Option zY)×Int))):=
  cond (decide (a<(length b:Int))) ((idx b a).bind fun e=>(zhQ e).bind fun f=>(zai f c d).bind fun i=>cond i (some (.inr (.inr (none,4)))) (some (.inl (IntKind.i64.wrap (a+1))))) (some (.inr (.inl ())))
def zow(d:List za)(a:List za)(c:T2):Option ((Option zY)×Int):=
  (zs (fun z=>zgR d a c z) 0).bind fun o=>zQ o (fun b=>zox d a c) some
def zdH(e:List za)(b:List za)(c:T2)(d:Int):Option (Sum ((List za)×T2×Int) (Sum ((List za)×T2) ((Option zY)×Int))):=
  cond (decide (d<(length e:Int))) ((idx e d).bind fun a=>(cond (Option.isSome (zdI a.Name c)) (some true) ((zml a).bind fun f=>some (!f))).bind fun i=>cond i (some (.inr (.inr (none,1)))) ((zfY 112 b [a]).bind fun j=>some (.inl (j,(zfU a.Name ((length b):Int) c),(IntKind.i64.wrap (d+1)))))) (some (.inr (.inl (b,c))))
def zov(a:List za)(c:(List za))(d:T2):Option ((Option zY)×Int):=
  (zs (fun z=>zdH a z.1 z.2.1 z.2.2) (c,d,0)).bind fun o=>zQ o (fun b=>zow a b.1 b.2) some
def zoy(b:(List za))(c:T2)(a:Int):Option (Sum (T2×Int) (Sum (T2) ((Option zY)×Int))):=
  cond (decide (a<((length b):Int))) ((idx b a).bind fun d=>some (.inl ((zfU d.Name a c),(IntKind.i64.wrap (a+1))))) (some (.inr (.inl c)))
def zjs(a:List za):Option ((Option zY)×Int):=
  cond (decide (16<(length a:Int))) (some (none,3)) ((zm4).bind fun c=>(zs (fun z=>zoy c z.1 z.2) ([],0)).bind fun o=>zQ o (fun b=>zov a c b) some)
theorem zlR(c:List za){r:(Option zY)×Int}(h:zjs c=some r):zaF Tryz.prog 22 [.isl 6 (map zc c)] (.tup [zjI 2 zdJ r.1,iA r.2]):=by
 refine zl Tryz.func22 y kz y (zzz (zxY (zq2 (fun _=>y)) (y))) ?_
 refine A ?_
 refine zf<|A ?_
 refine zeh h y (fun H h=>?_) fun H h=>?_
 ·refine A ?_
  exact RT0
 ·refine ze ?_
  obtain ⟨j,T,h⟩:=bs h
  refine rg y<|u<|sx [] (zqh T)<|zv (env0:=[(0,.isl 6 (map zc c)),(18,.msl 0 0 (length j))]) (st0:=[some (6,map zc j)]) (zp [.old 0])<|u<|mmk (e:=3) 1 y y<|A ?_
  refine zf<|A ?_
  obtain ⟨o,ho,h⟩:=bs h
  refine lpB ho (fun z=>[(0,.isl 6 (map zc c)),(4,.mpt 0 0 0),(25,.msl 2 0 (length j)),(26,iA ((length j):Int)),(27,iA z.2)]) (fun z=>[some (1,[[.mpt 1 0 0]]),some (2,[[.msl 2 0 (length j),.mmp 3]]),some (6,map zc j),some (2,map (rKV (fun x=>iA x)) z.1)]) (fun b=>[(0,.isl 6 (map zc c)),(4,.mpt 0 0 0)]) (fun b=>[some (1,[[.mpt 1 0 0]]),some (2,[[.msl 2 0 (length j),.mmp 3]]),some (6,map zc j),some (2,map (rKV (fun x=>iA x)) b)]) (pG Tryz.f22 (fun r=>.tup [zjI 2 zdJ r.1,iA r.2])) (zaE [.old 3,.old 2,.old 0,.old 1]) ?_ ?_
  ·rintro ⟨I,J⟩ r h
   refine A ?_
   refine zf ?_
   refine zeh h y (fun K h=>?_) fun K h=>?_
   ·refine ze<|zf<|zj ?_
    obtain ⟨L,q6,h⟩:=bs h
    refine A ?_
    refine ziy [(0,_),(4,_),(25,_),(26,_),(27,_)] [some (1,[[.mpt 1 0 0]]),some (2,[[.msl 2 0 (length j),.mmp 3]]),some (6,map zc j),some (2,map (rKV (fun x=>iA x)) (zfU L.Name J I))] [7] [0,1,2,3,4,5,6] [(38,_),(37,_),(36,_),(35,_),(34,_),(33,_),(32,_)] 1 (zcC (z:=by exact ⟨(fun _ _=>⟨_,y,y,mup (v:=J) (g:=(fun x=>iA x)) (l:=I) (s:=L.Name) y y y y y y<|⟨.any,[],[],y,y,y,t,zdg (z:=zaE [.old 0,.old 1,.old 2,.old 3])⟩⟩),t⟩)) ?_
    refine A ?_
    obtain rfl:=sm h
    exact ⟨_,y,zp [.old 0,.old 1,.old 2,.old 3]⟩
   ·refine zy ?_
    obtain rfl:=sm h
    exact ⟨y,_,y,zp [.old 0,.old 1,.old 2,.old 3]⟩
  ·rintro v9 rfl
   refine zu<|zf<|A ?_
   obtain ⟨o,ho,h⟩:=bs h
   refine lpB ho (fun z=>[(0,.isl 6 (map zc c)),(4,.mpt 0 0 0),(40,.isl 6 (map zc c)),(41,iA (length c:Int)),(42,iA z.2.2)]) (fun z=>[some (1,[[.mpt 1 0 0]]),some (2,[[.msl 2 0 (length z.1),.mmp 3]]),some (6,map zc z.1),some (2,map (rKV (fun x=>iA x)) z.2.1)]) (fun b=>[(0,.isl 6 (map zc c)),(4,.mpt 0 0 0)]) (fun b=>[some (1,[[.mpt 1 0 0]]),some (2,[[.msl 2 0 (length b.1),.mmp 3]]),some (6,map zc b.1),some (2,map (rKV (fun x=>iA x)) b.2)]) (pG Tryz.f22 (fun r=>.tup [zjI 2 zdJ r.1,iA r.2])) (zaE [.old 0,.old 1,.old 2,.old 3]) ?_ ?_
   ·rintro ⟨d,n,U⟩ r h
    refine A ?_
    refine zf ?_
    refine zeh h y (fun B h=>?_) fun B h=>?_
    ·refine ze<|zf<|zj ?_
     obtain ⟨m,V,h⟩:=bs h
     refine A ?_
     refine zf ?_
     refine rdA [(0,_),(4,_),(8,_),(10,_),(40,_),(41,_),(42,_)] [some (1,[[.mpt 1 0 0]]),some (2,[[.msl 2 0 (length d),.mmp 3]]),some (6,map zc d),some (2,map (rKV (fun x=>iA x)) n),some (6,[(zc m)])] [] [0,1,2,3,4,5,6,7,8,9,10,11] [(10,_),(9,_),(55,_),(54,_),(46,_),(53,_),(52,_),(51,_),(50,_),(49,_),(48,_),(47,_)] 0 (zdg ⟨peC,peC,peC,peC,peC,peC,(by exact pb y (zC8 (g:=(fun x=>iA x)) (z:=0) (l:=n) y ti y y y y<|w)),peC,peC,peC,peC,peC,t⟩ (zaE [.old 0,.old 1,.old 2,.old 3,.old 4])) ?_
     obtain ⟨W,X,h⟩:=bs h
     refine A ?_
     refine zeh h y (fun C h=>?_) fun C h=>?_
     ·refine A ?_
      refine zD ?_
      obtain rfl:=sm h
      exact ⟨_,y,_,y,zab []⟩
     ·refine ze ?_
      refine rdA [(0,_),(4,_),(8,_),(40,_),(41,_),(42,_)] [some (1,[[.mpt 1 0 0]]),some (2,[[.msl 2 0 (length d),.mmp 3]]),some (6,map zc d),some (2,map (rKV (fun x=>iA x)) (zfU m.Name ((length d):Int) n)),some (6,[(zc m)])] [11] [0,1,2,3,4,5,6,7,8,9,10] [(72,_),(71,_),(70,_),(69,_),(68,_),(67,_),(66,_),(65,_),(64,_),(63,_),(62,_)] 1 (zcC (z:=by exact ⟨(fun _ _=>⟨_,y,y,mup (v:=((length d):Int)) (g:=(fun x=>iA x)) (l:=n) (s:=m.Name) y y y y y y<|⟨.any,[],[],y,y,y,t,zdg (z:=zaE [.old 0,.old 1,.old 2,.old 3,.old 4])⟩⟩),t⟩)) ?_
      obtain ⟨p,M,h⟩:=bs h
      refine ziy [(0,_),(4,_),(40,_),(41,_),(42,_)] [some (1,[[.mpt 1 0 0]]),some (2,[[.msl 2 0 (length p),.mmp 3]]),some (6,map zc p),some (2,map (rKV (fun x=>iA x)) (zfU m.Name ((length d):Int) n))] [6,7,10] [0,1,2,3,4,5] [(78,_),(77,_),(76,_),(75,_),(74,_),(73,_)] 3 (zcC (z:=by exact ⟨(fun _ _=>⟨_,y,y,bl 5 ti y ti y (by decide) (by decide) y y y<|⟨(.msl 5 0 1),[],[(79,_)],y,y,y,y,zcC (z:=by exact ⟨nv,(fun _ _=>⟨_,y,y,apM 6 ti y ti y y (by decide) ti y y y y (roX (f:=zc) (z:=[m]) y y) (fun _=>y) y M<|⟨(.msl 6 0 (length p)),[8,9],[(82,_),(81,_),(80,_)],y,y,y,y,zcC (z:=by exact ⟨nv,nv,(fun _ _=>⟨_,y,y,sto ti y y y<|⟨.any,[],[],y,y,y,t,zdg (z:=zaE [.old 0,.old 1,.old 6,.old 3])⟩⟩),t⟩)⟩⟩),nw,t⟩)⟩⟩),nw,nw,t⟩)) ?_
      refine A ?_
      obtain rfl:=sm h
      exact ⟨_,y,zp [.old 0,.old 1,.old 2,.old 3]⟩
    ·refine zy ?_
     obtain rfl:=sm h
     exact ⟨y,_,y,zp [.old 0,.old 1,.old 2,.old 3]⟩
   ·rintro ⟨a,i⟩ rfl
    refine zu<|zf<|A ?_
    obtain ⟨o,ho,h⟩:=bs h
    refine lpB ho (fun z=>[(0,.isl 6 (map zc c)),(4,.mpt 0 0 0),(84,.isl 6 (map zc c)),(85,iA (length c:Int)),(86,iA z)]) (fun z=>[some (1,[[.mpt 1 0 0]]),some (2,[[.msl 2 0 (length a),.mmp 3]]),some (6,map zc a),some (2,map (rKV (fun x=>iA x)) i)]) (fun b=>[(0,.isl 6 (map zc c)),(4,.mpt 0 0 0)]) (fun b=>[some (1,[[.mpt 1 0 0]]),some (2,[[.msl 2 0 (length a),.mmp 3]]),some (6,map zc a),some (2,map (rKV (fun x=>iA x)) i)]) (pG Tryz.f22 (fun r=>.tup [zjI 2 zdJ r.1,iA r.2])) (zaE [.old 0,.old 1,.old 2,.old 3]) ?_ ?_
    ·rintro N r h
     refine A ?_
     refine zf ?_
     refine zeh h y (fun D h=>?_) fun D h=>?_
     ·refine ze<|zf<|zj ?_
      obtain ⟨O,Y,h⟩:=bs h
      refine A ?_
      obtain ⟨q,P,Z,Q,h⟩:=bs2 h
      refine rg y<|u<|ld ti y y<|u<|sx [] (zju O P)<|zv (env0:=[(0,.isl 6 (map zc c)),(4,.mpt 0 0 0),(84,.isl 6 (map zc c)),(85,iA (length c:Int)),(86,iA N),(91,.msl 4 0 (length q))]) (st0:=[some (1,[[.mpt 1 0 0]]),some (2,[[.msl 2 0 (length a),.mmp 3]]),some (6,map zc a),some (2,map (rKV (fun x=>iA x)) i),some (1,map zt q)]) (zp [.old 0,.old 1,.old 2,.old 3,.old 5])<|u<|mf y y<|u<|pcs (zcT q a i Q) y y (.cons (zgK y (fun _=>y)) (.cons (zgP t ⟨(zbO y ⟨(zbO y ⟨(zgK y (fun _=>y)),(zxk y (fun _=>y)),t⟩),t⟩),t⟩) .nil)) zbF<|zn ?_
      refine zeh h y (fun E h=>?_) fun E h=>?_
      ·refine A ?_
       refine zD ?_
       obtain rfl:=sm h
       exact ⟨_,y,_,y,zab []⟩
      ·refine ze<|A ?_
       obtain rfl:=sm h
       exact ⟨_,y,zp [.old 0,.old 1,.old 2,.old 3]⟩
     ·refine zy ?_
      obtain rfl:=sm h
      exact ⟨y,_,y,zp [.old 0,.old 1,.old 2,.old 3]⟩
    ·rintro ⟨⟩ rfl
     refine zu<|zf<|A ?_
     obtain ⟨o,ho,h⟩:=bs h
     refine lpB ho (fun z=>[(4,.mpt 0 0 0),(95,.isl 6 (map zc c)),(96,iA (length c:Int)),(97,iA z)]) (fun z=>[some (1,[[.mpt 1 0 0]]),some (2,[[.msl 2 0 (length a),.mmp 3]]),some (6,map zc a),some (2,map (rKV (fun x=>iA x)) i)]) (fun b=>[(4,.mpt 0 0 0)]) (fun b=>[some (1,[[.mpt 1 0 0]]),some (2,[[.msl 2 0 (length a),.mmp 3]]),some (6,map zc a),some (2,map (rKV (fun x=>iA x)) i)]) (pG Tryz.f22 (fun r=>.tup [zjI 2 zdJ r.1,iA r.2])) (zaE [.old 0,.old 1,.old 2,.old 3]) ?_ ?_
     ·rintro v37 r h
      refine A ?_
      refine zf ?_
      refine zeh h y (fun F h=>?_) fun F h=>?_
      ·refine ze<|zf<|zj ?_
       obtain ⟨R,q36,h⟩:=bs h
       refine A ?_
       obtain ⟨v39,S,h⟩:=bs h
       refine A ?_
       refine u<|pcs (ziW a i R S) y y (.cons (zbO y ⟨(zgK y (fun _=>y)),(zxk y (fun _=>y)),t⟩) (.cons (si y) .nil)) zbF<|A ?_
       refine zeh h y (fun G h=>?_) fun G h=>?_
       ·refine A ?_
        refine zD ?_
        obtain rfl:=sm h
        exact ⟨_,y,_,y,zab []⟩
       ·refine ze<|A ?_
        obtain rfl:=sm h
        exact ⟨_,y,zp [.old 0,.old 1,.old 2,.old 3]⟩
      ·refine zy ?_
       obtain rfl:=sm h
       exact ⟨y,_,y,zp [.old 0,.old 1,.old 2,.old 3]⟩
     ·rintro ⟨⟩ rfl
      refine zu<|A ?_
      refine zD ?_
      obtain rfl:=sm h
      exact ⟨_,y,[],zo1 ⟨(rsP y y ⟨(zij y y (fun _=>y)),(zxh y y (fun _=>y)),t⟩ y),(ci y),t⟩,y,t,y,k⟩
instance (a:List za):PF Tryz.prog 22 [.isl 6 (map zc a)] (zjs a) (fun r=>(.tup [zjI 2 zdJ r.1,iA r.2])):=⟨fun _=>zlR a⟩
def zpd(x:zq):Prop:=(wS) x.Name∧(wS) x.Type_∧(wT) x.Static
theorem zuR{n:Nat}{avs:List AV}(h:znq Tryz.prog (n+2) 42 avs):∃x:zq,avs=zA x∧zpd x:=by
 obtain ⟨parts,rfl,hl,hg⟩:=gdF Tryz.underlying42 h
 match parts,hl with
 | [p0,p1,p2],_ =>
  obtain ⟨x0,rfl,w0⟩:=gdS Tryz.underlying9 (hg 0 _ p0 rfl rfl)
  obtain ⟨x1,rfl,w1⟩:=gdS Tryz.underlying9 (hg 1 _ p1 rfl rfl)
  obtain ⟨x2,rfl,w2⟩:=gdB Tryz.underlying4 (hg 2 _ p2 rfl rfl)
  exact ⟨⟨x0,x1,x2⟩,rfl,w0,w1,w2⟩
def zhB(x:zw):Prop:=(wI .i64) x.Op∧(wI .i64) x.A∧(wS) x.C∧(wS) x.M
theorem ztL{n:Nat}{avs:List AV}(h:znq Tryz.prog (n+2) 40 avs):∃x:zw,avs=zi x∧zhB x:=by
 obtain ⟨parts,rfl,hl,hg⟩:=gdF Tryz.underlying40 h
 match parts,hl with
 | [p0,p1,p2,p3],_ =>
  obtain ⟨x0,rfl,w0⟩:=gdI Tryz.underlying3 (hg 0 _ p0 rfl rfl)
  obtain ⟨x1,rfl,w1⟩:=gdI Tryz.underlying3 (hg 1 _ p1 rfl rfl)
  obtain ⟨x2,rfl,w2⟩:=gdS Tryz.underlying9 (hg 2 _ p2 rfl rfl)
  obtain ⟨x3,rfl,w3⟩:=gdS Tryz.underlying9 (hg 3 _ p3 rfl rfl)
  exact ⟨⟨x0,x1,x2,x3⟩,rfl,w0,w1,w2,w3⟩
def zhC(x:zU):Prop:=(wI .i64) x.At∧(wL (wS)) x.Locals∧(wL (wS)) x.Stack
theorem zyr{n:Nat}{avs:List AV}(h:znq Tryz.prog (n+3) 80 avs):∃x:zU,avs=zx x∧zhC x:=by
 obtain ⟨parts,rfl,hl,hg⟩:=gdF Tryz.underlying80 h
 match parts,hl with
 | [p0,p1,p2],_ =>
  obtain ⟨x0,rfl,w0⟩:=gdI Tryz.underlying3 (hg 0 _ p0 rfl rfl)
  obtain ⟨x1,rfl,w1⟩:=gdL (k:=1) Tryz.underlying22 (by kernel_rfl) (fun h=>gdS Tryz.underlying9 h) (hg 1 _ p1 rfl rfl)
  obtain ⟨x2,rfl,w2⟩:=gdL (k:=1) Tryz.underlying22 (by kernel_rfl) (fun h=>gdS Tryz.underlying9 h) (hg 2 _ p2 rfl rfl)
  exact ⟨⟨x0,x1,x2⟩,rfl,w0,w1,w2⟩
def zqZ(x:zan):Prop:=(wI .i64) x.From∧(wI .i64) x.To∧(wI .i64) x.At∧(wS) x.C
theorem zwi{n:Nat}{avs:List AV}(h:znq Tryz.prog (n+2) 88 avs):∃x:zan,avs=zap x∧zqZ x:=by
 obtain ⟨parts,rfl,hl,hg⟩:=gdF Tryz.underlying88 h
 match parts,hl with
 | [p0,p1,p2,p3],_ =>
  obtain ⟨x0,rfl,w0⟩:=gdI Tryz.underlying3 (hg 0 _ p0 rfl rfl)
  obtain ⟨x1,rfl,w1⟩:=gdI Tryz.underlying3 (hg 1 _ p1 rfl rfl)
  obtain ⟨x2,rfl,w2⟩:=gdI Tryz.underlying3 (hg 2 _ p2 rfl rfl)
  obtain ⟨x3,rfl,w3⟩:=gdS Tryz.underlying9 (hg 3 _ p3 rfl rfl)
  exact ⟨⟨x0,x1,x2,x3⟩,rfl,w0,w1,w2,w3⟩
def zg5(x:zb):Prop:=(wS) x.Name∧(wL (wS)) x.Params∧(wS) x.Ret∧(wT) x.Static∧(wT) x.Abstract∧(wI .i64) x.Locals∧(wI .i64) x.Stack∧(wL (zhB)) x.Code∧(wL (zhC)) x.Maps∧(wL (zqZ)) x.Traps
theorem zsF{n:Nat}{avs:List AV}(h:znq Tryz.prog (n+5) 38 avs):∃x:zb,avs=zd x∧zg5 x:=by
 obtain ⟨parts,rfl,hl,hg⟩:=gdF Tryz.underlying38 h
 match parts,hl with
 | [p0,p1,p2,p3,p4,p5,p6,p7,p8,p9],_ =>
  obtain ⟨x0,rfl,w0⟩:=gdS Tryz.underlying9 (hg 0 _ p0 rfl rfl)
  obtain ⟨x1,rfl,w1⟩:=gdL (k:=1) Tryz.underlying22 (by kernel_rfl) (fun h=>gdS Tryz.underlying9 h) (hg 1 _ p1 rfl rfl)
  obtain ⟨x2,rfl,w2⟩:=gdS Tryz.underlying9 (hg 2 _ p2 rfl rfl)
  obtain ⟨x3,rfl,w3⟩:=gdB Tryz.underlying4 (hg 3 _ p3 rfl rfl)
  obtain ⟨x4,rfl,w4⟩:=gdB Tryz.underlying4 (hg 4 _ p4 rfl rfl)
  obtain ⟨x5,rfl,w5⟩:=gdI Tryz.underlying3 (hg 5 _ p5 rfl rfl)
  obtain ⟨x6,rfl,w6⟩:=gdI Tryz.underlying3 (hg 6 _ p6 rfl rfl)
  obtain ⟨x7,rfl,w7⟩:=gdL (k:=4) Tryz.underlying34 (by kernel_rfl) (fun h=>ztL h) (hg 7 _ p7 rfl rfl)
  obtain ⟨x8,rfl,w8⟩:=gdL (k:=3) Tryz.underlying35 (by kernel_rfl) (fun h=>zyr h) (hg 8 _ p8 rfl rfl)
  obtain ⟨x9,rfl,w9⟩:=gdL (k:=4) Tryz.underlying36 (by kernel_rfl) (fun h=>zwi h) (hg 9 _ p9 rfl rfl)
  exact ⟨⟨x0,x1,x2,x3,x4,x5,x6,x7,x8,x9⟩,rfl,w0,w1,w2,w3,w4,w5,w6,w7,w8,w9⟩
def zbl(x:za):Prop:=(wS) x.Name∧(wS) x.Super∧(wT) x.Interface∧(wL (wS)) x.Impl∧(wL (zpd)) x.Fields∧(wL (zg5)) x.Methods
theorem zuQ{n:Nat}{avs:List AV}(h:znq Tryz.prog (n+7) 26 avs):∃x:za,avs=zc x∧zbl x:=by
 obtain ⟨parts,rfl,hl,hg⟩:=gdF Tryz.underlying26 h
 match parts,hl with
 | [p0,p1,p2,p3,p4,p5],_ =>
  obtain ⟨x0,rfl,w0⟩:=gdS Tryz.underlying9 (hg 0 _ p0 rfl rfl)
  obtain ⟨x1,rfl,w1⟩:=gdS Tryz.underlying9 (hg 1 _ p1 rfl rfl)
  obtain ⟨x2,rfl,w2⟩:=gdB Tryz.underlying4 (hg 2 _ p2 rfl rfl)
  obtain ⟨x3,rfl,w3⟩:=gdL (k:=1) Tryz.underlying22 (by kernel_rfl) (fun h=>gdS Tryz.underlying9 h) (hg 3 _ p3 rfl rfl)
  obtain ⟨x4,rfl,w4⟩:=gdL (k:=3) Tryz.underlying23 (by kernel_rfl) (fun h=>zuR h) (hg 4 _ p4 rfl rfl)
  obtain ⟨x5,rfl,w5⟩:=gdL (k:=10) Tryz.underlying24 (by kernel_rfl) (fun h=>zsF h) (hg 5 _ p5 rfl rfl)
  exact ⟨⟨x0,x1,x2,x3,x4,x5⟩,rfl,w0,w1,w2,w3,w4,w5⟩

end
end Go.Proofs.YthmnlfenkhmmhaaGreat
