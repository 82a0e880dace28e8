/- ClosedTurn: for every input the law returns true, and each argument reads as it read before. No further condition. Part 3 of 8. -/
import Derived.Test.YthmnlfenkhmmhaaGreatTw2
namespace Go.Proofs.YthmnlfenkhmmhaaGreat
noncomputable section
open List (length map)
open IntKind (i64)
open Go.Proofs.Tryz
set_option linter.unusedVariables false
set_option linter.unusedSectionVars false
set_option linter.unusedSimpArgs false
set_option maxRecDepth 100000
set_option maxHeartbeats 4000000
variable [Flo]
structure Zz(q:Prop):Prop where
 z:q
inductive LsE:List AV->List AV->Prop
 |nil:LsE [] []
 |cons {x:AV} {l l':List AV}:LsE l l'->LsE (x ::l) (x ::l')
theorem LsE.eq{l l':List AV}(h:LsE l l'):l=l':=by
 induction h with
 |nil=>rfl
 |cons _ ih=>rw [ih]
section
variable {P : Program} {env : Ev} {st : St} {d : Nat} {ty : TypeId} {pos : String} {aft : Array Edge} {gu : Option (Nat × Bool)} {K : Ev -> St -> Prop}
theorem ldR{t:TypeId}{x:Operand}{ti:TI}{p:AV}{r:List AV}(ht:Xf P t=some ti)(hx:ev env x=some p)(hr:Gv st p=some (r,0))(hv:Ww ti r 0=some (.agg r))(k:K ((d,.agg r)::env) st):SOp P ⟨some d,.load t x,ty,pos,aft,gu⟩ env st K:=ld ht hx ((zrj hr).trans hv) k
theorem ldJ{α:Type}{t:TypeId}{x:Operand}{ti:TI}{sz i:Nat}{l:List α}{f:α->List AV}{c:α}(ht:Xf P t=some ti)(hx:ev env x=some (.ipt sz (l.map f) i 0))(h:l[i]?=some c)(hv:Ww ti (f c) 0=some (.agg (f c)))(k:K ((d,.agg (f c))::env) st):SOp P ⟨some d,.load t x,ty,pos,aft,gu⟩ env st K:=ldI ht hx h hv k
theorem ldQ{α:Type}{t:TypeId}{x:Operand}{ti:TI}{sz b i:Nat}{l:List α}{f:α->List AV}{c:α}(ht:Xf P t=some ti)(hx:ev env x=some (.mpt b i 0))(hb:st[b]?=some (some (sz,l.map f)))(h:l[i]?=some c)(hv:Ww ti (f c) 0=some (.agg (f c)))(k:K ((d,.agg (f c))::env) st):SOp P ⟨some d,.load t x,ty,pos,aft,gu⟩ env st K:=ldM ht hx hb h hv k
theorem gLd{t:TypeId}{x:Operand}(h:SOp P ⟨some d,.load t x,ty,pos,aft,gu⟩ env st K):SOp P ⟨some d,.load t x,ty,pos,aft,gu⟩ env st K:=h
theorem zHH{o:BinOp}{t u':TypeId}{x y:Operand}(h:SOp P ⟨some d,.binOp o t x y u',ty,pos,aft,gu⟩ env st K):SOp P ⟨some d,.binOp o t x y u',ty,pos,aft,gu⟩ env st K:=h
theorem zGY{c:Call}(h:SOp P ⟨some d,.call c,ty,pos,aft,gu⟩ env st K):SOp P ⟨some d,.call c,ty,pos,aft,gu⟩ env st K:=h
theorem gPk{c x y:Operand}(h:SOp P ⟨some d,.pick c x y,ty,pos,aft,gu⟩ env st K):SOp P ⟨some d,.pick c x y,ty,pos,aft,gu⟩ env st K:=h
theorem gIx{t:TypeId}{x y:Operand}(h:SOp P ⟨some d,.indexAddr t x y,ty,pos,aft,gu⟩ env st K):SOp P ⟨some d,.indexAddr t x y,ty,pos,aft,gu⟩ env st K:=h
end
class PF(P:Program)(f:FuncId)(args:List AV){R:outParam Type}(m:outParam (Option R))(enc:outParam (R->AV)):Prop where
 ok:∀r,m=some r->Xm P f args (enc r)
theorem PF.of{P:Program}{f:FuncId}{args:List AV}{R:Type}{x:R}{enc:R->AV}(h:∀r,x=r->Xm P f args (enc r)):PF P f args (some x) enc:=⟨λr e=>h r (Option.some.inj e)⟩
theorem pcI{P:Program}{env:Ev}{st:St}{d:Nat}{ty:TypeId}{pos:String}{aft:Array Edge}{gu:Option (Nat×Bool)}{K:Ev->St->Prop}{c:Call}{g:FuncId}{args args':List AV}{R:Type}{m:Option R}{enc:R->AV}{r:R}(hc:ZF (.call c)=true)(hg:Kh env (.call c)=some (g,args))(he:LsE args args')(hi:Ze args'=true)(pf:PF P g args' m enc)(q:m=some r)
  (k:K ((d,enc r)::env) st):SOp P ⟨some d,.call c,ty,pos,aft,gu⟩ env st K:=by
 have e:=he.eq;subst e;exact pc (pf.ok r q) hc hg hi k
theorem opS{p q:Prop}(z:q)(h:Zz q->p:=by (intro z;(first |((with_reducible apply mv);exact rfl) |((with_reducible apply fa);exact ti;exact rfl;exact rfl;exact rfl) |((with_reducible apply gLd);(first |((with_reducible apply ldR);exact ti;exact rfl;exact rfl;exact rfl) |((with_reducible apply ldJ);exact ti;exact rfl;exact (zz (by assumption)).2.2;exact rfl) |((with_reducible apply ldQ);exact ti;exact rfl;exact rfl;exact (zz (by assumption)).2.2;exact rfl) |((with_reducible apply ld);exact ti;exact rfl;exact rfl) |((with_reducible apply ldI);exact ti;exact rfl;exact (zz (by assumption)).2.2;exact rfl) |((with_reducible apply ldM);exact ti;exact rfl;exact rfl;exact (zz (by assumption)).2.2;exact rfl))) |((with_reducible apply asg);exact rfl) |((with_reducible apply zHH);(first |((with_reducible apply eql);exact ti;exact rfl;exact rfl) |((with_reducible apply lss);exact ti;exact rfl;exact rfl) |((with_reducible apply geq);exact ti;exact rfl;exact rfl) |((with_reducible apply seq);exact ti;exact rfl;exact rfl) |((with_reducible apply add);exact ti;exact rfl;exact rfl) |((with_reducible apply leq);exact ti;exact rfl;exact rfl) |((with_reducible apply sne);exact ti;exact rfl;exact rfl) |((with_reducible apply gtr);exact ti;exact rfl;exact rfl) |((with_reducible apply neq);exact ti;exact rfl;exact rfl) |((with_reducible apply sub);exact ti;exact rfl;exact rfl) |((with_reducible apply mul);exact ti;exact rfl;exact rfl) |((with_reducible apply beq);exact ti;exact rfl;exact rfl;exact rfl) |((with_reducible apply bne);exact ti;exact rfl;exact rfl;exact rfl) |((with_reducible apply slt);exact ti;exact rfl;exact rfl) |((with_reducible apply quo);exact ti;exact rfl;exact rfl;exact (by assumption)) |((with_reducible apply rem);exact ti;exact rfl;exact rfl;exact (by assumption)) |((with_reducible apply zH2);exact ti;exact rfl;exact rfl;exact (by assumption)) |((with_reducible apply shl);exact ti;exact rfl;exact rfl;exact (by assumption)) |((with_reducible apply shr);exact ti;exact rfl;exact rfl;exact (by assumption)) |((with_reducible apply nep);exact ti;exact rfl;exact rfl;exact rfl;exact rfl;exact rfl;exact rfl) |((with_reducible apply eqp);exact ti;exact rfl;exact rfl;exact rfl;exact rfl;exact rfl;exact rfl))) |((with_reducible apply zGY);(first |((with_reducible apply lnI);exact ti;exact rfl;exact rfl) |((with_reducible apply lnS);exact ti;exact rfl;exact rfl) |((with_reducible apply lnM);exact ti;exact rfl;exact rfl;exact rfl) |((with_reducible apply lnN);exact ti;exact rfl;exact rfl) |((with_reducible apply pcI);exact rfl;exact rfl;(repeat (first |exact LsE.nil |apply LsE.cons));exact rfl;exact inferInstance;(first |with_reducible exact rfl |assumption)))) |((with_reducible apply nc);exact rfl;exact rfl) |((with_reducible apply ex);exact rfl;exact rfl) |((with_reducible apply nt);exact rfl) |((with_reducible apply sto);exact ti;exact rfl;exact rfl;exact rfl) |((with_reducible apply gIx);(first |((with_reducible apply ixI);exact ti;exact rfl;exact ti;exact rfl;exact rfl;exact rfl;exact (by assumption)) |((with_reducible apply ixM);exact ti;exact rfl;exact ti;exact rfl;exact rfl;exact rfl;exact rfl;exact (by assumption)))) |((with_reducible apply ixS);exact ti;exact rfl;exact rfl;exact rfl;exact (by assumption)) |((with_reducible apply bd);exact ti;exact rfl;exact rfl;exact rfl) |((with_reducible apply mf);exact rfl;exact rfl) |((with_reducible apply fdV);exact rfl;exact rfl) |((with_reducible apply al);exact ti;(first |exact (rfl:_=0) |exact (rfl:_=1) |exact (rfl:_=2) |exact (rfl:_=3) |exact (rfl:_=4) |exact (rfl:_=5) |exact (rfl:_=6) |exact (rfl:_=7) |exact (rfl:_=8))) |((with_reducible apply bx);exact rfl;exact rfl;(first |exact (rfl:_=1) |exact (rfl:_=2) |exact (rfl:_=3) |exact (rfl:_=4) |exact (rfl:_=5) |exact (rfl:_=6) |exact (rfl:_=7) |exact (rfl:_=8) |exact (rfl:_=9) |exact (rfl:_=10) |exact (rfl:_=11) |exact (rfl:_=12) |exact (rfl:_=13) |exact (rfl:_=14) |exact (rfl:_=15) |exact (rfl:_=16));(first |exact (rfl:_=0) |exact (rfl:_=1) |exact (rfl:_=2) |exact (rfl:_=3) |exact (rfl:_=4) |exact (rfl:_=5) |exact (rfl:_=6) |exact (rfl:_=7) |exact (rfl:_=8))) |((with_reducible apply bl);exact ti;exact rfl;exact ti;(first |exact (rfl:_=1) |exact (rfl:_=2) |exact (rfl:_=3) |exact (rfl:_=4) |exact (rfl:_=5) |exact (rfl:_=6) |exact (rfl:_=7) |exact (rfl:_=8) |exact (rfl:_=9) |exact (rfl:_=10) |exact (rfl:_=11) |exact (rfl:_=12) |exact (rfl:_=13) |exact (rfl:_=14) |exact (rfl:_=15) |exact (rfl:_=16));decide;decide;exact rfl;exact rfl;(first |exact (rfl:_=0) |exact (rfl:_=1) |exact (rfl:_=2) |exact (rfl:_=3) |exact (rfl:_=4) |exact (rfl:_=5) |exact (rfl:_=6) |exact (rfl:_=7) |exact (rfl:_=8))) |((with_reducible apply ng);exact rfl) |((with_reducible apply gPk);(first |((with_reducible apply pk (b:=true));exact rfl;exact rfl) |((with_reducible apply pk (b:=false));exact rfl;exact rfl) |((with_reducible apply pkb);exact rfl;exact (by assumption);exact rfl))));exact z.1)):p:=h ⟨z⟩
def zxx(w:Bool):List Oper->Option Nat
 | []=>none
 |o :: _=>match o.guard with |some (j,x)=>(match x == w with |true=>some j |false=>none) |none=>none
inductive Exq:List Nat->Ev->Ev->Prop
 |z (e:Ev):Exq [] e e
 |s {a:Nat} {x:AV} {ds:List Nat} {e' e:Ev}:Exq ds e' e->Exq (a ::ds) ((a,x)::e') e
theorem Exq.look'{ds:List Nat}{e' e:Ev}(h:Exq ds e' e){t:Nat}{v:AV}(hl:look e t=some v):t ∉ ds->look e' t=some v:=by
 induction h with
 |z e=>exact λ_=>hl
 | @s a x ds e' e h ih =>
  intro hn;have h1:=ih hl (λhm=>hn (Jm _ hm));have h2:a≠t:=λe=>hn (e ▸ List.mem_cons_self);simpa [look,h2] using h1
theorem Exq.look{ds:List Nat}{e' e:Ev}(h:Exq ds e' e)(hk:Zp ds e=true):∀t v,look e t=some v->look e' t=some v:=λt v hl=>h.look' hl (Gm hk hl)
inductive Spl:List Oper->List Oper->List Oper->Prop
 |z (l:List Oper):Spl [] l l
 |s {o:Oper} {a l r:List Oper}:Spl a l r->Spl (o ::a) (o ::l) r
theorem Spl.eq{a l r:List Oper}(h:Spl a l r):l.take a.length=a/\l.drop a.length=r:=by
 induction h with
 |z l=>exact ⟨by simp,by simp⟩
 |s _ ih=>exact ⟨by simp [ih.1],by simp [ih.2]⟩
section
variable {P : Program} {n nb0 : Nat} {all l1 l2 lk : List Oper} {K : Ev -> St -> Prop} {env env' : Ev} {st : St}
theorem egB{ds:List Nat}{y:Operand}{b v:Bool}(hb:b=true)(h1:Exq ds env' env)(h2:Zp ds env=true)(h4:ev env' y=some (.lit (.bool v))):KW env st y (b&&v) env' st:=⟨rfl,h1.look h2,by rw [hb];exact h4⟩
theorem egC{ds:List Nat}{y:Operand}{b v:Bool}(hb:b=false)(h1:Exq ds env' env)(h2:Zp ds env=true)(h4:ev env' y=some (.lit (.bool v))):KW env st y (b||v) env' st:=⟨rfl,h1.look h2,by rw [hb];exact h4⟩
theorem hAA{p:Prop}(h:p:=by (intro hb;refine A ?_;apply egB hb;(repeat (first |exact Exq.z _ |apply Exq.s));exact rfl;exact rfl)):p:=h
theorem hOA{p:Prop}(h:p:=by (intro hb;refine A ?_;apply egC hb;(repeat (first |exact Exq.z _ |apply Exq.s));exact rfl;exact rfl)):p:=h
theorem aA{dp c:Nat}{y:Operand}{ty':TypeId}{pos':String}{aft':Array Edge}{gp:Option (Nat×Bool)}{j:Nat}{b v:Bool}{l:List Oper}(hj0:zxx true l1=some j)(hj:(all[j]?).bind (·.dst)=some c)
  (hs:Spl lk l1 (⟨some dp,.pick (.tmp c) y (.const (.bool false)),ty',pos',aft',gp⟩::l)) (hc:look env c=some (.lit (.bool b))) (hg:Gr all j true [] lk=true) (hk:Zp (UH lk) env=true)
  (hgp:∀env':Ev,(∀t v,look env t=some v->look env' t=some v)->Zy all env' ⟨some dp,.pick (.tmp c) y (.const (.bool false)),ty',pos',aft',gp⟩=some true)
  (hT:b=true->SR P n nb0 all lk ((⟨some dp,.pick (.tmp c) y (.const (.bool false)),ty',pos',aft',gp⟩::l)++l2) (KW env st y (b&&v)) env st)
  (h:SR P n nb0 all l l2 K ((dp,.lit (.bool (b&&v)))::env) st):SR P n nb0 all l1 l2 K env st:=
 X1 lk.length hs.eq.2 hj hc (hs.eq.1.symm ▸ hg) (hs.eq.1.symm ▸ hk) hgp (hs.eq.1.symm ▸ hs.eq.2.symm ▸ hT) Hr h
theorem oA{dp c:Nat}{y:Operand}{ty':TypeId}{pos':String}{aft':Array Edge}{gp:Option (Nat×Bool)}{j:Nat}{b v:Bool}{l:List Oper}(hj0:zxx false l1=some j)(hj:(all[j]?).bind (·.dst)=some c)
  (hs:Spl lk l1 (⟨some dp,.pick (.tmp c) (.const (.bool true)) y,ty',pos',aft',gp⟩::l)) (hc:look env c=some (.lit (.bool b))) (hg:Gr all j false [] lk=true) (hk:Zp (UH lk) env=true)
  (hgp:∀env':Ev,(∀t v,look env t=some v->look env' t=some v)->Zy all env' ⟨some dp,.pick (.tmp c) (.const (.bool true)) y,ty',pos',aft',gp⟩=some true)
  (hF:b=false->SR P n nb0 all lk ((⟨some dp,.pick (.tmp c) (.const (.bool true)) y,ty',pos',aft',gp⟩::l)++l2) (KW env st y (b||v)) env st)
  (h:SR P n nb0 all l l2 K ((dp,.lit (.bool (b||v)))::env) st):SR P n nb0 all l1 l2 K env st:=
 ZK lk.length hs.eq.2 hj hc (hs.eq.1.symm ▸ hg) (hs.eq.1.symm ▸ hk) hgp (hs.eq.1.symm ▸ hs.eq.2.symm ▸ hF) orT h
end
section
variable {P : Program} {n nb0 : Nat} {all l1 l2 lk : List Oper} {K : Ev -> St -> Prop} {env env' : Ev} {st : St}
theorem egD{ds:List Nat}{y:Operand}{e x:Bool}(he:e=x)(h1:Exq ds env' env)(h2:Zp ds env=true)(h4:ev env' y=some (.lit (.bool e))):KW env st y x env' st:=⟨rfl,h1.look h2,by rw [<-he];exact h4⟩
def Imp(a p:Prop):Prop:=a->p
theorem bI{α β:Type}{p:Prop}{m:Option α}{k:α->Option β}{r:β}(f:∀x,m=some x->Imp (k x=some r) p):Imp (m.bind k=some r) p:=λh=>by
 obtain ⟨x,h1,h2⟩:=bs h;exact f x h1 h2
theorem sI{β:Type}{p:Prop}{a r:β}(f:a=r->p):Imp (some a=some r) p:=λh=>f (sm h)
theorem hQA{p:Prop}(h:p:=by (intro hb;(repeat ((with_reducible apply bI);intro _ _));(with_reducible apply sI);intro hq;refine A ?_;apply egD hq;(repeat (first |exact Exq.z _ |apply Exq.s));exact rfl;exact rfl)):p:=h
theorem aQ{dp c:Nat}{y:Operand}{ty':TypeId}{pos':String}{aft':Array Edge}{gp:Option (Nat×Bool)}{j:Nat}{b x:Bool}{m:Option Bool}{l:List Oper}(hj0:zxx true l1=some j)(hj:(all[j]?).bind (·.dst)=some c)(hc:look env c=some (.lit (.bool b)))(q:cond b m (some false)=some x)
  (hs:Spl lk l1 (⟨some dp,.pick (.tmp c) y (.const (.bool false)),ty',pos',aft',gp⟩::l)) (hg:Gr all j true [] lk=true) (hk:Zp (UH lk) env=true)
  (hgp:∀env':Ev,(∀t v,look env t=some v->look env' t=some v)->Zy all env' ⟨some dp,.pick (.tmp c) y (.const (.bool false)),ty',pos',aft',gp⟩=some true)
  (hT:b=true->Imp (m=some x) (SR P n nb0 all lk ((⟨some dp,.pick (.tmp c) y (.const (.bool false)),ty',pos',aft',gp⟩::l)++l2) (KW env st y x) env st))
  (h:SR P n nb0 all l l2 K ((dp,.lit (.bool x))::env) st):SR P n nb0 all l1 l2 K env st:=
 X1 lk.length hs.eq.2 hj hc (hs.eq.1.symm ▸ hg) (hs.eq.1.symm ▸ hk) hgp (hs.eq.1.symm ▸ hs.eq.2.symm ▸ λe=>hT e (bT e q)) (λe=>(sm (bF e q)).symm) h
theorem oQ{dp c:Nat}{y:Operand}{ty':TypeId}{pos':String}{aft':Array Edge}{gp:Option (Nat×Bool)}{j:Nat}{b x:Bool}{m:Option Bool}{l:List Oper}(hj0:zxx false l1=some j)(hj:(all[j]?).bind (·.dst)=some c)(hc:look env c=some (.lit (.bool b)))(q:cond b (some true) m=some x)
  (hs:Spl lk l1 (⟨some dp,.pick (.tmp c) (.const (.bool true)) y,ty',pos',aft',gp⟩::l)) (hg:Gr all j false [] lk=true) (hk:Zp (UH lk) env=true)
  (hgp:∀env':Ev,(∀t v,look env t=some v->look env' t=some v)->Zy all env' ⟨some dp,.pick (.tmp c) (.const (.bool true)) y,ty',pos',aft',gp⟩=some true)
  (hF:b=false->Imp (m=some x) (SR P n nb0 all lk ((⟨some dp,.pick (.tmp c) (.const (.bool true)) y,ty',pos',aft',gp⟩::l)++l2) (KW env st y x) env st))
  (h:SR P n nb0 all l l2 K ((dp,.lit (.bool x))::env) st):SR P n nb0 all l1 l2 K env st:=
 ZK lk.length hs.eq.2 hj hc (hs.eq.1.symm ▸ hg) (hs.eq.1.symm ▸ hk) hgp (hs.eq.1.symm ▸ hs.eq.2.symm ▸ λe=>hF e (bF e q)) (λe=>(sm (bT e q)).symm) h
end
theorem A{p q:Prop}(z:q)(h:Zz q->p:=by (intro z;(first |(apply rg;exact rfl) |(apply rl;exact rfl) |skip);(repeat (first |((first |(with_reducible apply u) |((with_reducible apply g);exact rfl;(first |assumption |exact rfl)));refine opS ?_) |(apply aQ;exact rfl;exact rfl;exact rfl;assumption;(repeat (first |exact Spl.z _ |apply Spl.s));exact rfl;exact rfl;(first |exact gpn |exact gps rfl rfl (by assumption));exact hQA) |(apply oQ;exact rfl;exact rfl;exact rfl;assumption;(repeat (first |exact Spl.z _ |apply Spl.s));exact rfl;exact rfl;(first |exact gpn |exact gps rfl rfl (by assumption));exact hQA) |(apply aA;exact rfl;exact rfl;(repeat (first |exact Spl.z _ |apply Spl.s));exact rfl;exact rfl;exact rfl;(first |exact gpn |exact gps rfl rfl (by assumption));exact hAA) |(apply oA;exact rfl;exact rfl;(repeat (first |exact Spl.z _ |apply Spl.s));exact rfl;exact rfl;exact rfl;(first |exact gpn |exact gps rfl rfl (by assumption));exact hOA)));(first |exact zo z.1 |exact z.1))):p:=h ⟨z⟩
theorem zGH{st:St}{L:Xt}{l i j:Nat}(h:XS L l=some l):Rs st L (.mpt l i j) (.mpt l i j):=.mpt h
theorem zGJ{st:St}{L:Xt}{l i n:Nat}(h:XS L l=some l):Rs st L (.msl l i n) (.msl l i n):=.msl h
section
variable {P : Program} {n nb0 : Nat} {env env0 : Ev} {st st0 : St}
theorem Xd(L:Xt)(h1:Z1 st L env0 env:=by repeat' (first |exact True.intro |exact cn |exact ci rfl |exact zGH rfl |exact zGJ rfl |exact .msl rfl |exact .mpt rfl |exact .nil |exact Zb λ_=>rfl |refine cv rfl ?_ ?_ |exact K8 rfl rfl λ_=>rfl |refine DF rfl rfl ?_ |exact ci (Zs λ_=>rfl) |exact .mmp rfl |refine Gp rfl ?_ |refine XG ?_ |refine GA ?_ |refine ⟨_,rfl,?_⟩ |refine And.intro ?_ ?_ |refine Gu ?_ |refine GX ?_ |exact rfl))(h2:Ut L=true:=by exact rfl)(h3:UK st L L st0:=by repeat' (first |exact True.intro |exact cn |exact ci rfl |exact zGH rfl |exact zGJ rfl |exact .msl rfl |exact .mpt rfl |exact .nil |exact Zb λ_=>rfl |refine cv rfl ?_ ?_ |exact K8 rfl rfl λ_=>rfl |refine DF rfl rfl ?_ |exact ci (Zs λ_=>rfl) |exact .mmp rfl |refine Gp rfl ?_ |refine XG ?_ |refine GA ?_ |refine ⟨_,rfl,?_⟩ |refine And.intro ?_ ?_ |refine Gu ?_ |refine GX ?_ |exact rfl))(h4:GR nb0 L=true:=by exact rfl)(h5:nb0≤st0.length:=by exact Qv rfl):Can nb0 env0 st0 env st:=⟨L,h1,h2,h3,h4,h5⟩
end
section
variable {P : Program} {all : List Oper} {env0 F env : Ev} {st : St} {ss p en : List Nat} {K : Ev -> St -> Prop}
theorem peC{i:Nat}{G:Prop}(h:G->Ux P all env0 F st i:=by first |exact nz |(intro _;refine pa rfl rfl rfl rfl ?_;refine opS ?_;exact ⟨rfl,rfl⟩) |exact λ_=>pau rfl rfl rfl rfl rfl |(intro _;refine pas rfl rfl rfl rfl ?_ rfl;(first |exact rfl |assumption)) |(intro _;refine pag rfl rfl rfl rfl ?_ rfl ?_;(first |exact rfl |assumption);refine opS ?_;exact ⟨rfl,rfl⟩)):G->Ux P all env0 F st i:=h
theorem Xj{n:Nat}(h1:UE P all env0 F st p en:=by repeat' (first |exact True.intro |refine And.intro ?_ ?_ |first |exact nz |(intro _;refine pa rfl rfl rfl rfl ?_;refine opS ?_;exact ⟨rfl,rfl⟩) |exact λ_=>pau rfl rfl rfl rfl rfl |(intro _;refine pas rfl rfl rfl rfl ?_ rfl;(first |exact rfl |assumption)) |(intro _;refine pag rfl rfl rfl rfl ?_ rfl ?_;(first |exact rfl |assumption);refine opS ?_;exact ⟨rfl,rfl⟩)))(z:Dr P all ss env0 K n p en F st ss)(h2:U4 all ss p en=true:=by kernel_rfl)(h3:Z0 p ss=false:=by exact rfl):DT P all ss env0 K (n+1) p en F st:=dtS h1 h2 h3 z
theorem Xk(h1:UE P all env0 F st p en:=by repeat' (first |exact True.intro |refine And.intro ?_ ?_ |first |exact nz |(intro _;refine pa rfl rfl rfl rfl ?_;refine opS ?_;exact ⟨rfl,rfl⟩) |exact λ_=>pau rfl rfl rfl rfl rfl |(intro _;refine pas rfl rfl rfl rfl ?_ rfl;(first |exact rfl |assumption)) |(intro _;refine pag rfl rfl rfl rfl ?_ rfl ?_;(first |exact rfl |assumption);refine opS ?_;exact ⟨rfl,rfl⟩)))(z:K (F++Kg (Kb all) env0) st)(h2:U4 all ss p en=true:=by kernel_rfl)(h3:Z0 p ss=true:=by exact rfl):DT P all ss env0 K 0 p en F st:=dt0 h1 h2 h3 z
end
theorem rdQ{P:Program}{n nb0:Nat}{Q:Exit->Ev->St->Prop}{env:Ev}{st:St}{id:Nat}{ops:Array Oper}(ss en:List Nat)(F:Ev)(k:Nat)
  (h:DT P ops.toList ss env (Q .normal) k [] en F st) (hm:P.follows .mixedOrders=true:=by kernel_rfl) (hok:KZ n ops.toList=true:=by kernel_rfl) (hss:KY ops.size ss=true:=by exact rfl) (hks:Uc ops.toList en (XT F)=true:=by kernel_rfl):
  SW P n nb0 (.region id ops true) Q env st:=Gk ss en F k hm hok hss hks h
section
variable {P : Program} {n nb0 : Nat} {env : Ev} {st st0 : St}
theorem Xa{Q:Exit->Ev->St->Prop}{c:Operand}{x y:Code}{b:Bool}{α:Type}{m1 m2 r:α}(h:cond b m1 m2=r)(hc:ev env c=some (.lit (.bool b)))(ht:b=true->m1=r->SW P n nb0 x Q env st)(hf:b=false->m2=r->SW P n nb0 y Q env st):SW P n nb0 (.cond c x y) Q env st:=
 U5 hc (λe=>ht e (bT e h)) (λe=>hf e (bF e h))
theorem Ho{av0 av:AV}(L:Xt)(h1:Rs st L av0 av:=by repeat' (first |exact True.intro |exact cn |exact ci rfl |exact zGH rfl |exact zGJ rfl |exact .msl rfl |exact .mpt rfl |exact .nil |exact Zb λ_=>rfl |refine cv rfl ?_ ?_ |exact K8 rfl rfl λ_=>rfl |refine DF rfl rfl ?_ |exact ci (Zs λ_=>rfl) |exact .mmp rfl |refine Gp rfl ?_ |refine XG ?_ |refine GA ?_ |refine ⟨_,rfl,?_⟩ |refine And.intro ?_ ?_ |refine Gu ?_ |refine GX ?_ |exact rfl))(h2:Ut L=true:=by exact rfl)(h3:UK st L L st0:=by repeat' (first |exact True.intro |exact cn |exact ci rfl |exact zGH rfl |exact zGJ rfl |exact .msl rfl |exact .mpt rfl |exact .nil |exact Zb λ_=>rfl |refine cv rfl ?_ ?_ |exact K8 rfl rfl λ_=>rfl |refine DF rfl rfl ?_ |exact ci (Zs λ_=>rfl) |exact .mmp rfl |refine Gp rfl ?_ |refine XG ?_ |refine GA ?_ |refine ⟨_,rfl,?_⟩ |refine And.intro ?_ ?_ |refine Gu ?_ |refine GX ?_ |exact rfl))(h4:GR nb0 L=true:=by exact rfl)(h5:nb0≤st0.length:=by exact Qv rfl):E7 nb0 av0 st0 av st:=⟨L,h1,h2,h3,h4,h5⟩
end
theorem RT0{p:Prop}(z:p:=by (refine zy ?_;obtain rfl:=sm h;exact ⟨_,rfl,Ho []⟩)):p:=z
theorem RT1{p:Prop}(z:p:=by (refine zy ?_;obtain rfl:=sm h;exact ⟨_,rfl,Ho [0]⟩)):p:=z
theorem RT3{p:Prop}(z:p:=by (refine zy ?_;obtain rfl:=sm h;exact ⟨_,rfl,Ho [0,1,2]⟩)):p:=z
theorem bs2{α β γ:Type}{a:Option α}{b:α->Option β}{k:α->β->Option γ}{r:γ}(h:(a.bind λx=>(b x).bind (k x))=some r):∃x,a=some x/\∃y,b x=some y/\k x y=some r:=by
 obtain ⟨x,h1,h⟩:=bs h;obtain ⟨y,h2,h⟩:=bs h;exact ⟨x,h1,y,h2,h⟩
theorem bs3{α β γ δ:Type}{a:Option α}{b:α->Option β}{c:α->β->Option γ}{k:α->β->γ->Option δ}{r:δ}(h:(a.bind λx=>(b x).bind λy=>(c x y).bind (k x y))=some r):∃x,a=some x/\∃y,b x=some y/\∃z,c x y=some z/\k x y z=some r:=by
 obtain ⟨x,h1,h⟩:=bs h;exact ⟨x,h1,bs2 h⟩
theorem bs4{α β γ δ ε:Type}{a:Option α}{b:α->Option β}{c:α->β->Option γ}{d:α->β->γ->Option δ}{k:α->β->γ->δ->Option ε}{r:ε}(h:(a.bind λx=>(b x).bind λy=>(c x y).bind λz=>(d x y z).bind (k x y z))=some r):∃x,a=some x/\∃y,b x=some y/\∃z,c x y=some z/\∃u,d x y z=some u/\k x y z u=some r:=by
 obtain ⟨x,h1,h⟩:=bs h;exact ⟨x,h1,bs3 h⟩
abbrev pG{R:Type}(fn:Func)(e:R->AV):R->Ev->St->Prop:=λr env st=>Ua prog fn 0 (e r) [] env st
abbrev pF{R:Type}(fn:Func)(e:R->AV)(s:R->St):R->Ev->St->Prop:=λr env st=>Ua prog fn 0 (e r) (s r) env st
section
variable {P : Program} {n nb0 : Nat} {env : Ev} {st : St} {id : Nat} {c y : Code} {Q : Exit -> Ev -> St -> Prop} {X B R : Type} {body : X -> Option (Sum X (Sum B R))} {z0 : X} {o : Sum B R}
theorem lpA(ho:zp body z0=some o)(E:X->Ev)(S:X->St)(E':B->Ev)(S':B->St)(post:R->Ev->St->Prop)(hc:Can nb0 (E z0) (S z0) env st)(round:∀z r,body z=some r->SW P n nb0 c (LQ id nb0 E S E' S' post r) (E z) (S z))
  (hb:∀b,o=.inl b->SW P n nb0 y Q (E' b) (S' b)) (hr:∀r,o=.inr r->∀env st,post r env st->Q .ret env st:=by (rintro r' rfl env st hp;obtain rfl:=sm h;exact hp)):SW P n nb0 (.seq (.block id (.loop c)) y) Q env st:=zHg E S E' S' post ho hc round hb hr
theorem lpS(ho:zp body z0=some o)(E:X->Ev)(S:X->St)(E':B->Ev)(S':B->St)(post:R->Ev->St->Prop)(hc:Can nb0 (E z0) (S z0) env st)(round:∀z r,body z=some r->SW P n nb0 c (LQ id nb0 E S E' S' post r) (E z) (S z))(hb:∀b,o=.inl b->OW n nb0 (Q .normal) (E' b) (S' b))(hr:∀r,o=.inr r->∀env st,post r env st->Q .ret env st):SW P n nb0 (.block id (.loop c)) Q env st:=HD E S E' S' post ho hc round hb hr
theorem lpB(ho:zp body z0=some o)(E:X->Ev)(S:X->St)(E':B->Ev)(S':B->St)(post:R->Ev->St->Prop)(hc:Can nb0 (E z0) (S z0) env st)(round:∀z r,body z=some r->SW P n nb0 c (LQ id nb0 E S E' S' post r) (E z) (S z))(hb:∀b,o=.inl b->OW n nb0 (Q .normal) (E' b) (S' b))(hr:∀r,o=.inr r->∀env st,post r env st->Q .ret env st:=by (rintro r' rfl env st hp;obtain rfl:=sm h;exact hp)):SW P n nb0 (.block id (.loop c)) Q env st:=HD E S E' S' post ho hc round hb hr
end
abbrev nS:AV:=.lit (.slice none 0 0)
abbrev tL(l:List (List UInt8)):AV:=.isl 1 (List.map Xe l)
abbrev mI(l:List (List UInt8×Int)):AV:=.imp (List.map (rKV (λx=>iA x)) l)
abbrev sT(l:List (List UInt8)):Option (Nat×List (List AV)):=some (1,List.map Xe l)
section
open Go.ChangeShapes Go.WideShapes Go.ChangeAt Go.RowKit Go.WideMaps Go.WideElems
open Go.ChangeMaps (open_string shut_string)
theorem XK.below{w w':World}(h:XK w w'):Below w.heap.size w w':=⟨h.os,h.tape,h.output,h.size,h.heap⟩
theorem Tryz.ownNot:ownKnob prog.godebug=none:=by kernel_rfl
theorem Tryz.laidOut:laidOutB prog=true:=by kernel_rfl
section
variable {H : Type} {enc : TypeId × Value -> H} {P : Program}
theorem zuQ(hl:laidOutB P=true){W W':World}(hg:XK W W'){sp:Nat->Bool}:∀{ts:List TypeId} {vs:List Value} {ds:List (DataW H)} {ps:List MemPlace},
  ts.all (λt=>P.readableRec t&&decide (t<P.types.size))=true->DataW.TrodAll enc P W 0 (λ_=>true) true ts vs ds ps->(∀p∈ps,p.block<W.heap.size)->(∀p∈ps,sp p.block=true)->DataW.TrodAll enc P W' 0 sp true ts vs ds ps
 | [],[],[],ps,_,h,_,_=>h
 |t ::ts,v ::vs,d ::ds,ps,ht,h,hlt,hs=>by
  obtain ⟨p,q,h1,h2,rfl⟩:=h;simp only [J2,Qd,decide_eq_true_eq] at ht
  exact ⟨p,q,WideElems.Trod_stays hl ht.1.1 ht.1.2 h1 (λx hx=>hg.below.same (hlt x (by simp [hx]))) (λx hx=>hs x (by simp [hx])),
   zuQ hl hg ht.2 h2 (λx hx=>hlt x (by simp [hx])) (λx hx=>hs x (by simp [hx])),rfl⟩
 | [],_ :: _,_,_,_,h,_,_=>h.elim
 | [],[],_ :: _,_,_,h,_,_=>h.elim
 |_ :: _,[],_,_,_,h,_,_=>h.elim
 |_ :: _,_ :: _,[],_,_,h,_,_=>h.elim
theorem zA3{f:Func}{s:ChangeSpec}{apart fresh handsOn again:Bool}{W W':World}{args:Array Value}{ds gs:List (DataW H)}{before:List MemPlace}{tb:TypeId}
  (hl:laidOutB P=true) (hW:DataW.Whole enc P f.params.toList s.vars apart W args.toList ds gs before) (hg:XK W W')
  (hts:f.params.toList.all (λt=>P.readableRec t&&decide (t<P.types.size))=true) (hvars:s.vars=[]) (hr:f.resultTypes=#[tb]) (hb:P.underlying tb=some .bool)
  (hfn:s.fn H (ds++gs)={ results:=[.lit (.bool true)],args:=ds }):
  s.post enc P f apart fresh handsOn again W args (.bool true) W':=by
 have hlt:=hW.lt;have hW':=hW;obtain ⟨p,q,hA,hV,hpq,hz,hn⟩:=hW';rw [hvars] at hV;obtain ⟨rfl,rfl⟩:=trodVars_none hV;simp only [Qx] at hpq;subst hpq;have hargs:∀sp:Nat->Bool,(∀x∈before,sp x.block=true)->DataW.TrodAll enc P W' 0 sp true f.params.toList args.toList ds before:=λsp hsp=>zuQ hl hg hts hA hlt hsp
 have hres:∀(b:Nat) (sp:Nat->Bool) (hd:Bool),DataW.TrodAll enc P W' b sp hd f.resultTypes.toList ((Value.bool true).resultList f.resultTypes.size) [.lit (.bool true)] []:=λb sp hd=>by
  rw [hr];exact trodAll_mk1 (shut_bool hb true)
 have hvs:∀sp:Nat->Bool,DataW.TrodVars enc P W' sp s.vars ([]:List (DataW H)) []:=λsp=>by rw [hvars];rfl
 refine ⟨ds,[],before,[],before,[],hW,by rw [hfn];exact hres _ _ _,by rw [hfn];exact hargs _ (λx hx=>by simpa using hlt x hx),by rw [hfn];exact hvs _,hg.below.frame _,λ_=>⟨?_,_,_,([]++before)++[],⟨[]++before,[],trodAll_append (hargs _ (λ_ _=>rfl)) (hres _ _ _),hvs _,rfl,?_,?_⟩,?_⟩⟩
 .exact ok_one hr rfl (okWide_bool_mk hb _)
 .intro b off hp
  have hp':MemPlace.cell b off∈before:=by simpa using hp
  rw [hg.below.frozen (p:=⟨b,off,none⟩) (hlt _ hp')];exact hz b off hp'
 .intro ha;simpa using hn ha
 .intro x hx _;simpa using hx
theorem Xm.truly{f:FuncId}{args:List AV}(h:Xm P f args (.lit (.bool true))){W:World}{vals:Array Value}(hN:Flo.N=W.heap.size)(hv:VIL (λB _=>B<W.heap.size) W args vals):
  Calls P f vals W λe w'=>e=.returned (.bool true)/\XK W w':=
 (h.2 _ W vals ⟨λ_ _ h=>h,λB k k' h1 h2 _=>absurd h2 (by omega),by omega⟩ hv).mono λe w' ⟨v,A',he,hg,hx,hvi⟩=>by
  cases hvi;exact ⟨he,hg⟩
theorem zFz{A w}:VIL A w [] #[]:=⟨rfl,λi h=>by simp at h⟩
theorem zob{A w}{c:AV}{v:Value}{cs:List AV}{vs:List Value}(h:VI A w c v)(t:VIL A w cs vs.toArray):VIL A w (c ::cs) (v ::vs).toArray:=by
 obtain ⟨h1,h2⟩:=t;refine ⟨by simpa using h1,λi hi=>?_⟩
 cases i with
 |zero=>simpa using h
 |succ i =>
  have:=h2 i (by simpa using hi);simpa [Array.getD] using this
end
end
section
open Go.ChangeShapes Go.WideShapes Go.ChangeAt Go.RowKit Go.WideMaps Go.WideElems
def Ik(P:Program):Nat->List Field->Option Nat
 |o,[]=>some o
 |o,f ::r=>if f.offset=o then Ik P (o+P.cellsOf f.type) r else none
def Ic(P:Program):Nat->TypeId->Bool
 | 0,_=>false
 |n+1,t =>
  match P.underlying t with
  |some .bool=>true
  |some (.int _)=>true
  |some .string=>true
  |some (.slice e)=>Nat.blt 0 (P.cellsOf e)&&Ic P n e
  |some (.struct fs)=>(Ik P 0 fs.toList == some (P.cellsOf t))&&fs.toList.all λf=>Ic P n f.type
  |_=>false
def Zn(P:Program):Nat->TypeId->List AV->Prop
 | 0,_,_=>False
 |n+1,t,avs =>
  match P.underlying t with
  |some .bool=>∃b,avs=[.lit (.bool b)]
  |some (.int k)=>∃m,avs=[.lit (.int k m)]/\(Lit.int k m).wf=true
  |some .string=>∃s:List UInt8,avs=[.lit (.string (B s))]/\s.length≤9223372036854775807
  |some (.slice e)=>∃els,avs=[.isl (P.cellsOf e) els]/\els.length≤9223372036854775807/\∀r∈els,Zn P n e r
  |some (.struct fs)=>∃parts:List (List AV),avs=parts.flatten/\parts.length=fs.size/\∀(i:Nat) f p,fs[i]?=some f->parts[i]?=some p->Zn P n f.type p
  |_=>False
section
variable {H : Type} {enc : TypeId × Value -> H} {P : Program} {W : World}
abbrev GT(W:World)(avs:List AV)(cs:List Value):Prop:=avs.length=cs.length/\∀(i:Nat) av v,avs[i]?=some av->cs[i]?=some v->VI (λB _=>B<W.heap.size) W av v
theorem zvI{a b:List AV}{cs ds:List Value}(h:GT W a cs)(k:GT W b ds):GT W (a++b) (cs++ds):=by
 refine ⟨by simp [h.1,k.1],λi av v h1 h2=>?_⟩;by_cases hi:i<a.length
 .rw [Qm hi] at h1;rw [Qm (by rw [<-h.1];exact hi)] at h2;exact h.2 i av v h1 h2
 .rw [Qs (by omega)] at h1;rw [Qs (by rw [<-h.1];omega),<-h.1] at h2;exact k.2 _ av v h1 h2
theorem Or{av:AV}{v:Value}(h:VI (λB _=>B<W.heap.size) W av v):GT W [av] [v]:=
 ⟨rfl,λi a u h1 h2=>by
  cases i with
  |zero=>cases h1;cases h2;exact h
  |succ i=>simp at h1⟩
theorem zzS{w:World}{base:Nat}{a:Addr}{n:Nat}{cs:List Value}(h:w.cells? base a n=some cs):cs.length=n/\∀j,j<n->w.cell? (a.add j)=cs[j]?:=by
 unfold World.cells? at h;split at h
 .have key:∀(l:List Nat) (r:List Value),l.mapM (λi=>w.cell? (a.add i))=some r->r.length=l.length/\∀(j:Nat) x,l[j]?=some x->w.cell? (a.add x)=r[j]?:=by
   intro l
   induction l with
   |nil=>intro r hr;simp at hr;subst hr;exact ⟨rfl,λj x hx=>by simp at hx⟩
   |cons y l ih =>
    intro r hr;simp only [List.mapM_cons,Option.bind_eq_bind,Option.pure_def] at hr
    cases h1:w.cell? (a.add y) with
    |none=>simp [h1] at hr
    |some b =>
     cases h2:l.mapM (λi=>w.cell? (a.add i)) with
     |none=>simp [h1,h2] at hr
     |some r' =>
      simp [h1,h2] at hr;subst hr;obtain ⟨k1,k2⟩:=ih r' h2;refine ⟨by simp [k1],λj x hx=>?_⟩
      cases j with
      |zero=>simp at hx;subst hx;simpa using h1
      |succ j=>simpa using k2 j x (by simpa using hx)
  obtain ⟨h1,h2⟩:=key _ _ h;refine ⟨by simpa using h1,λj hj=>h2 j j (by simp [hj])⟩
 .cases h
theorem zuc(hN:Flo.N=W.heap.size):∀(n fuel:Nat) (t:TypeId) (cs:List Value) (x:DataW H×List MemPlace),Ic P n t=true->DataW.trod enc P W 0 (λ_=>true) true fuel t cs=some x->(∀p∈x.2,p.block<W.heap.size)->∃avs,Zn P n t avs/\GT W avs cs
 | 0,_,_,_,_,h,_,_=>by cases h
 |n+1,fuel,t,cs,x,hp,hx,hlt=>by
  have hmax:maxLen=9223372036854775807:=by unfold maxLen;decide
  unfold Ic at hp;unfold Zn
  cases hu:P.underlying t with
  |none=>rw [hu] at hp;cases hp
  |some d =>
   rw [hu] at hp
   cases d with
   |bool =>
    obtain ⟨b,rfl,_⟩:=DataW.trod_bool hu hx;exact ⟨_,⟨b,rfl⟩,Or (.lit _)⟩
   |int k =>
    obtain ⟨m,rfl,_,hw⟩:=DataW.trod_int hu hx;exact ⟨_,⟨m,rfl,hw⟩,Or (.lit _)⟩
   |string =>
    obtain ⟨s,rfl,_,hl⟩:=DataW.trod_string hu hx;exact ⟨_,⟨s.data.toList,rfl,by rw [<-hmax];exact hl⟩,Or (.lit _)⟩
   |slice e =>
    simp only [Qd] at hp;have hk:0<P.cellsOf e:=Qv hp.1
    rcases DataW.trod_slice hu hx with ⟨rfl,rfl⟩ |⟨a,len,cap,elems,rest,n',rfl,rfl,rfl,hb,hl,hm,hlen,hel,hsp,hns⟩
    .exact ⟨_,⟨[],rfl,by simp,λr hr=>by cases hr⟩,Or (.inil _ _ _ (.inl rfl))⟩
    rcases Q8 len with h0 |h0
    .subst h0;refine ⟨_,⟨[],rfl,by simp,λr hr=>by cases hr⟩,Or (.inil _ _ _ ?_)⟩
     rcases Q8 cap with h00 |h00
     .exact .inl h00
     obtain ⟨B,o,p⟩:=a;have h5:=(hsp rfl).1
     have hB:B<W.heap.size:=hlt (.cell B (o+0)) (by
      refine Qq.2 (.inl (QQ.2 ⟨0,Js.2 ?_,rfl⟩))
      exact Nat.mul_pos (by omega) hk)
     exact .inr (.inr ⟨B,0,hB,by rw [hN];exact hB⟩)
    have hrow:∀i,∃r,i<len->Zn P n e r/\r.length=P.cellsOf e/\∃cl:List Value,cl.length=P.cellsOf e/\(∀j,j<P.cellsOf e->W.cell? ((a.add (i*P.cellsOf e)).add j)=cl[j]?)/\GT W r cl:=λi=>by
     by_cases hi:i<len
     .have h1:=hel i hi;have h2:elems[i]?=some elems[i]:=Qe (by omega);rw [h2] at h1
      cases hc:W.cells? 0 (a.add (i*P.cellsOf e)) (P.cellsOf e) with
      |none=>rw [hc] at h1;cases h1
      |some cl =>
       rw [hc] at h1;obtain ⟨k1,k2⟩:=zzS hc
       obtain ⟨r,g1,g2⟩:=zuc hN n n' e cl elems[i] hp.2 h1 (λp hpp=>hlt p (by
        simp only [Qq,Yu]
        exact .inr ⟨elems[i],.inl (Qh _),hpp⟩))
       exact ⟨r,λ_=>⟨g1,by rw [g2.1,k1],cl,k1,k2,g2⟩⟩
     .exact ⟨[],λh=>absurd h hi⟩
    obtain ⟨f,hf⟩:=Classical.axiomOfChoice hrow
    have hspot:a.spot=none:=by
     obtain ⟨_,_,cl,k1,k2,_⟩:=hf 0 h0;have h2:=k2 0 hk;rw [Qe (by omega)] at h2;simp only [Ya,Addr.add,if_true] at h2
     cases hs:a.spot with
     |none=>rfl
     |some q =>
      rw [World.cell?] at h2;split at h2
      .rw [hs] at h2;simp at h2
      .cases h2
    obtain ⟨B,o,p⟩:=a;simp only at hspot;subst hspot
    have hB:B<W.heap.size:=hlt (.cell B (o+0)) (by
     refine Qq.2 (.inl (QQ.2 ⟨0,Js.2 ?_,rfl⟩))
     exact Nat.mul_pos (by omega) hk)
    have hadd:∀i j,(((⟨B,o,none⟩:Addr).add (i*P.cellsOf e)).add j)=⟨B,o+i*P.cellsOf e+j,none⟩:=λi j=>by rw [Ha,Ha]
    refine ⟨_,⟨(List.range len).map f,rfl,by simp;omega,λr hr=>?_⟩,Or ?_⟩
    .obtain ⟨i,hi,rfl⟩:=QQ.1 hr;exact (hf i (Js.1 hi)).1
    .have hl2:((List.range len).map f).length=len:=by simp
     have:=VI.isl (A:=λB _=>B<W.heap.size) (w:=W) (P.cellsOf e) ((List.range len).map f) B o cap (λi j=>(W.cell? ⟨B,o+i*P.cellsOf e+j,none⟩).getD undef) ⟨hB,λh=>absurd hB (by omega)⟩ (by rw [hl2];exact hl)
      (λi hi=>by simp at hi;simpa using (hf i hi).2.1)
      (λi j hi hj=>by
       rw [hl2] at hi;obtain ⟨_,_,cl,k1,k2,_⟩:=hf i hi;have:=k2 j hj;rw [hadd,Qe (by omega)] at this
       rw [this];rfl)
      (λi hi j hj=>by
       have hi':i<len:=by rw [hl2] at hi;exact hi
       obtain ⟨_,g,cl,k1,k2,g2⟩:=hf i hi'
       have e1:((List.range len).map f)[i]=f i:=by simp
       have hj':j<(f i).length:=by rw [e1] at hj;exact hj
       have h3:=k2 j (by omega);rw [hadd] at h3;show VI _ W _ ((W.cell? _).getD undef);rw [h3,Qe (by omega)];have h4:=g2.2 j (f i)[j] cl[j] (Qe hj') (Qe (by omega))
       have e2:((List.range len).map f)[i][j]=(f i)[j]:=by simp
       rw [e2]
       exact h4)
     rw [hl2] at this;exact this
   |struct fs =>
    simp only [Qd,beq_iff_eq,Ql] at hp;obtain ⟨xs,n',rfl,rfl,hcl,hxl,hfs⟩:=DataW.trod_struct hu hx;have hfs':∀(i:Nat) (f:Field),fs.toList[i]?=some f->DataW.trod enc P W 0 (λ_=>true) true n' f.type ((cs.drop f.offset).take (P.cellsOf f.type))=xs[i]?:=λi f h=>hfs i f (by simpa using h)
    have key:∀(l:List Field) (k o e:Nat),fs.toList.drop k=l->Ik P o l=some e->∃parts:List (List AV),parts.length=l.length/\(∀(i:Nat) f p,l[i]?=some f->parts[i]?=some p->Zn P n f.type p)/\GT W parts.flatten ((cs.drop o).take (e-o))/\o≤e:=by
     intro l
     induction l with
     |nil =>
      intro k o e _ hl;simp only [Ik,Option.some.injEq] at hl;subst hl;exact ⟨[],rfl,λi f p h=>by simp at h,⟨by simp,λi av v h=>by simp at h⟩,Qk _⟩
     |cons f l ih =>
      intro k o e hd hl;unfold Ik at hl;split at hl
      .rename_i hoff
       have hk:fs.toList[k]?=some f:=by
        have:(fs.toList.drop k)[0]?=some f:=by rw [hd];rfl
        simpa using this
       have hd':fs.toList.drop (k+1)=l:=by
        have:=congrArg List.tail hd;simpa [Yf] using this
       obtain ⟨parts,p1,p2,p3,p4⟩:=ih (k+1) _ e hd' hl;have hr:=hfs' k f hk
       have hkl:k<xs.length:=by
        have:=(Qb.1 hk).1;simp at this;omega
       rw [Qe hkl,hoff] at hr;obtain ⟨r,g1,g2⟩:=zuc hN n n' f.type _ xs[k] (hp.2 f (Qc hk)) hr (λp hpp=>hlt p (Yu.2 ⟨xs[k],Qh _,hpp⟩));refine ⟨r ::parts,by simp [p1],λi f' p h1 h2=>?_,?_,by omega⟩
       .cases i with
        |zero=>simp at h1 h2;subst h1 h2;exact g1
        |succ i=>exact p2 i f' p (by simpa using h1) (by simpa using h2)
       .have e1:(cs.drop o).take (e-o)=(cs.drop o).take (P.cellsOf f.type)++(cs.drop (o+P.cellsOf f.type)).take (e-(o+P.cellsOf f.type)):=by
         have:e-o=P.cellsOf f.type+(e-(o+P.cellsOf f.type)):=by omega
         rw [this,List.take_add,List.drop_drop]
        rw [e1,List.flatten_cons];exact zvI g2 p3
      .cases hl
    obtain ⟨parts,p1,p2,p3,_⟩:=key fs.toList 0 0 _ rfl hp.1;refine ⟨parts.flatten,⟨parts,rfl,by simpa using p1,λi f p h1 h2=>p2 i f p (by simpa using h1) h2⟩,?_⟩
    rwa [Ye,Yd,JB (by omega)] at p3
   |_=>cases hp
theorem zxZ(hN:Flo.N=W.heap.size){n:Nat}{t:TypeId}{v:Value}{d:DataW H}{ps:List MemPlace}(hp:Ic P n t=true)(h:DataW.Trod enc P W 0 (λ_=>true) true t v d ps)(hlt:∀p∈ps,p.block<W.heap.size):∃avs,Zn P n t avs/\GT W avs v.cells.toList:=by
 obtain ⟨fuel,hf⟩:=h;exact zuc hN n fuel t _ _ hp hf hlt
end
section
variable {P : Program} {n : Nat} {t : TypeId} {avs : List AV}
abbrev wI(k:IntKind)(x:Int):Prop:=(Lit.int k x).wf=true
abbrev wS(s:List UInt8):Prop:=s.length≤9223372036854775807
abbrev wT{α:Type}(_:α):Prop:=True
abbrev wL{α:Type}(w:α->Prop)(l:List α):Prop:=l.length≤9223372036854775807/\∀y∈l,w y
theorem gdB(hu:P.underlying t=some .bool)(h:Zn P (n+1) t avs):∃x:Bool,avs=rB x/\wT x:=by
 unfold Zn at h;rw [hu] at h;obtain ⟨b,rfl⟩:=h;exact ⟨b,rfl,trivial⟩
theorem gdI{k:IntKind}(hu:P.underlying t=some (.int k))(h:Zn P (n+1) t avs):∃x:Int,avs=rI k x/\wI k x:=by
 unfold Zn at h;rw [hu] at h;obtain ⟨m,rfl,hw⟩:=h;exact ⟨m,rfl,hw⟩
theorem gdS(hu:P.underlying t=some .string)(h:Zn P (n+1) t avs):∃x:List UInt8,avs=Xe x/\wS x:=by
 unfold Zn at h;rw [hu] at h;obtain ⟨s,rfl,hw⟩:=h;exact ⟨s,rfl,hw⟩
theorem gdL{α:Type}{e:TypeId}{k:Nat}{f:α->List AV}{w:α->Prop}(hu:P.underlying t=some (.slice e))(hc:P.cellsOf e=k)(he:∀{r},Zn P n e r->∃x:α,r=f x/\w x)(h:Zn P (n+1) t avs):∃x:List α,avs=rL k f x/\wL w x:=by
 unfold Zn at h;rw [hu] at h;obtain ⟨els,rfl,hl,hg⟩:=h;subst hc
 have key:∀els:List (List AV),(∀r∈els,Zn P n e r)->∃x:List α,els=x.map f/\∀y∈x,w y:=by
  intro els
  induction els with
  |nil=>intro _;exact ⟨[],rfl,λy hy=>by cases hy⟩
  |cons r els ih =>
   intro h;obtain ⟨x,rfl,hx⟩:=he (h r (by simp));obtain ⟨xs,rfl,hxs⟩:=ih λr hr=>h r (by simp [hr])
   exact ⟨x ::xs,rfl,λy hy=>by
    rcases Qr.1 hy with rfl |hy
    .exact hx
    .exact hxs y hy⟩
 obtain ⟨x,rfl,hx⟩:=key els hg;exact ⟨x,rfl,by simpa using hl,hx⟩
theorem gdF{fs:Array Field}(hu:P.underlying t=some (.struct fs))(h:Zn P (n+1) t avs):∃parts:List (List AV),avs=parts.flatten/\parts.length=fs.size/\∀(i:Nat) f p,fs[i]?=some f->parts[i]?=some p->Zn P n f.type p:=by
 unfold Zn at h;rw [hu] at h;exact h
variable {W : World}
theorem zEn{av:AV}{v:Value}(h:GT W [av] v.cells.toList)(hv:v.cells.toList=[v]):VI (λB _=>B<W.heap.size) W av v:=by
 rw [hv] at h;exact h.2 0 av v rfl rfl
theorem zEm{cs:Array Value}(h:GT W avs (Value.agg cs).cells.toList):VI (λB _=>B<W.heap.size) W (.agg avs) (.agg cs):=by
 have h1:(Value.agg cs).cells.toList=cs.toList:=rfl;rw [h1] at h;refine .agg _ _ (by simpa using h.1.symm) λi hi=>?_
 have hi':i<cs.size:=by have:=h.1;simp at this;omega
 have:=h.2 i avs[i] cs[i] (Qe hi) (by simp [hi']);simpa [Qg,hi'] using this
theorem zt5{r:Reach}{base:Nat}{v:Value}{fs:Array Field}(hu:P.underlying t=some (.struct fs))(h:Value.okWide P W r base t v):∃cs,v=.agg cs:=by
 unfold Value.okWide at h;rw [hu] at h;obtain ⟨cs,h1,_⟩:=h;exact ⟨cs,h1⟩
end
end
theorem zIa:Xm prog 355 [] (.lit (.bool true)):=HJ [] 90 (by kernel_rfl) (λg h=>by cases h) (by kernel_rfl)
theorem zIb:Xm prog 232 [] (.lit (.bool true)):=HJ [355] 90 (by kernel_rfl) (kn1 zIa) (by kernel_rfl)
theorem zIc:Xm prog 69 [] (.lit (.bool true)):=HJ [232] 90 (by kernel_rfl) (kn1 zIb) (by kernel_rfl)
theorem zId:Xm prog 364 [] (.lit (.bool true)):=HJ [69] 90 (by kernel_rfl) (kn1 zIc) (by kernel_rfl)
theorem zsK:Xm prog 331 [] (.lit (.bool true)):=HJ [364] 90 (by kernel_rfl) (kn1 zId) (by kernel_rfl)
theorem zIe:Xm prog 254 [] (.lit (.bool true)):=HJ [331] 90 (by kernel_rfl) (kn1 zsK) (by kernel_rfl)
theorem zsL:Xm prog 179 [] (.lit (.bool true)):=HJ [254] 90 (by kernel_rfl) (kn1 zIe) (by kernel_rfl)
theorem zIf:Xm prog 95 [] (.lit (.bool true)):=HJ [179] 90 (by kernel_rfl) (kn1 zsL) (by kernel_rfl)
theorem zsM:Xm prog 191 [] (.lit (.bool true)):=HJ [95] 90 (by kernel_rfl) (kn1 zIf) (by kernel_rfl)
theorem ztN{r:Bool}(_:true=r):Xm prog 191 [] (bA true):=zsM
end
end Go.Proofs.YthmnlfenkhmmhaaGreat
namespace Go.Proofs
open Go.Shelf
def Tryz.lays190_ren:Go.Shelf.Ren:=⟨fun | 190=>338 | 125=>369 | 258=>368 | 128=>390 | 129=>391 | 302=>381 | 303=>382 | 304=>383 | 305=>384 | 306=>385 | 307=>386 | 308=>387 | 309=>388 | 310=>389 | 333=>392 | 329=>393 | 330=>394 | 334=>395 | 335=>396 | 336=>397 | 344=>398 |n=>n,fun | 31=>22 | 9=>9 | 3=>3 | 46=>211 | 0=>0 | 51=>319 | 53=>210 | 4=>4 | 183=>313 | 182=>312 | 131=>157 | 5=>5 | 218=>321 | 222=>325 | 228=>327 | 229=>248 |n=>n,fun |n=>n⟩
theorem Tryz.lays190:Go.Proofs.Lays.n190 prog Tryz.lays190_ren:={
 mixed:=by kernel_rfl
 f125:=func369.trans (congrArg some (by kernel_rfl))
 f128:=func390.trans (congrArg some (by kernel_rfl))
 f129:=func391.trans (congrArg some (by kernel_rfl))
 f190:=func338.trans (congrArg some (by kernel_rfl))
 f258:=func368.trans (congrArg some (by kernel_rfl))
 f302:=func381.trans (congrArg some (by kernel_rfl))
 f303:=func382.trans (congrArg some (by kernel_rfl))
 f304:=func383.trans (congrArg some (by kernel_rfl))
 f305:=func384.trans (congrArg some (by kernel_rfl))
 f306:=func385.trans (congrArg some (by kernel_rfl))
 f307:=func386.trans (congrArg some (by kernel_rfl))
 f308:=func387.trans (congrArg some (by kernel_rfl))
 f309:=func388.trans (congrArg some (by kernel_rfl))
 f310:=func389.trans (congrArg some (by kernel_rfl))
 f329:=func393.trans (congrArg some (by kernel_rfl))
 f330:=func394.trans (congrArg some (by kernel_rfl))
 f333:=func392.trans (congrArg some (by kernel_rfl))
 f334:=func395.trans (congrArg some (by kernel_rfl))
 f335:=func396.trans (congrArg some (by kernel_rfl))
 f336:=func397.trans (congrArg some (by kernel_rfl))
 f344:=func398.trans (congrArg some (by kernel_rfl))
 t0:=underlying0
 a0:=isAgg0
 z0:=sizeOf0
 v0:=zeroValue0
 t3:=underlying3
 a3:=isAgg3
 z3:=sizeOf3
 v3:=zeroValue3
 t4:=underlying4
 a4:=isAgg4
 z4:=sizeOf4
 v4:=zeroValue4
 t5:=underlying5
 a5:=isAgg5
 z5:=sizeOf5
 v5:=zeroValue5
 t9:=underlying9
 a9:=isAgg9
 z9:=sizeOf9
 v9:=zeroValue9
 t31:=underlying22
 a31:=isAgg22
 z31:=sizeOf22
 v31:=zeroValue22
 t46:=underlying211
 a46:=isAgg211
 z46:=sizeOf211
 v46:=zeroValue211
 t51:=underlying319
 a51:=isAgg319
 z51:=sizeOf319
 v51:=zeroValue319
 t53:=underlying210
 a53:=isAgg210
 z53:=sizeOf210
 v53:=zeroValue210
 t131:=underlying157
 a131:=isAgg157
 z131:=sizeOf157
 v131:=zeroValue157
 t182:=underlying312
 a182:=isAgg312
 z182:=sizeOf312
 v182:=zeroValue312
 t183:=underlying313
 a183:=isAgg313
 z183:=sizeOf313
 v183:=zeroValue313
 t218:=underlying321
 a218:=isAgg321
 z218:=sizeOf321
 v218:=zeroValue321
 t222:=underlying325
 a222:=isAgg325
 z222:=sizeOf325
 v222:=zeroValue325
 t228:=underlying327
 a228:=isAgg327
 z228:=sizeOf327
 v228:=zeroValue327
 t229:=underlying248
 a229:=isAgg248
 z229:=sizeOf248
 v229:=zeroValue248 }
end Go.Proofs
namespace Go.Proofs.YthmnlfenkhmmhaaGreat
noncomputable section
open List (length map)
open IntKind (i64)
open Go.Proofs.Tryz
set_option linter.unusedVariables false
set_option linter.unusedSectionVars false
set_option linter.unusedSimpArgs false
set_option maxRecDepth 100000
set_option maxHeartbeats 4000000
variable [Flo]
section
open Go.Sort Go.RowKit
theorem R.redo{A:Am}{m:BM}{w w':World}{st:St}(hR:R A m w st){l k:Nat}{els els':List (List AV)}(hl:st[l]?=some (some (k,els))){b:Blk}(hb:m l=some b)(hh:b.has=true)(hm:b.mp=false)
  (hsize:w.heap.size≤w'.heap.size) (hos:w'.os=w.os) (htape:w'.tape=w.tape) (hout:w'.output=w.output) (hother:∀B,B<w.heap.size->B≠b.B->w'.heap[B]?=w.heap[B]?)
  (hlen:els'.length=els.length) (hthere:∀off,off<b.top->∃v,w'.cell? ⟨b.B,off,none⟩=some v) (hfree:∀off,off<b.top->fz w' ⟨b.B,off,none⟩=false) (hw:∀i (h:i<els'.length),els'[i].length=b.k)
  (hv:∀i (h:i<els'.length) j (h':j<els'[i].length),∃v,w'.cell? ⟨b.B,b.o+i*b.k+j,none⟩=some v/\V A m st.length w els'[i][j] v):
  R A m w' (st.set l (some (k,els')))/\Xp A m st.length w A m st.length w':=by
 obtain ⟨hbk,hok,_⟩:=hR.at hb hl;replace hok:=hok hh
 have hS:Xp A m st.length w A m st.length w':=
  ⟨Qk _,hsize,λ_ _ h=>h,λ_ _ h=>.inl h,λ_ _=>.inl rfl,λl b h hh=>.inr ⟨l,b,h,hh,rfl⟩,λB hB ho=>hother B hB (λe=>ho l b hb hh e.symm),hos,htape,hout⟩
 have hV:∀av v,V A m st.length w av v->V A m st.length w' av v:=λav v h=>h.step hR hS;have hlt:l<st.length:=hR.lt hb;refine ⟨⟨λB k hB=>QI (hR.aLow B k hB) hsize,hR.aOwn,hR.aFun,QD hR.nLe hsize,hR.nOwn,hR.inj,λl' b' h=>?_,λl' k' els1 he=>?_⟩,hS⟩
 .obtain ⟨els1,he⟩:=hR.live l' b' h;by_cases e:l'=l
  .subst e;have:b'=b:=Option.some.inj (h.symm.trans hb);subst this;exact ⟨els',by simp [hlt,hbk]⟩
  .exact ⟨els1,by rw [QJ (Ne.symm e)];exact he⟩
 .rw [Ji];by_cases e:l'=l
  .subst e;rw [QP hlt] at he;simp at he;obtain ⟨rfl,rfl⟩:=he;refine ⟨b,hb,hbk,λ_=>HB.blk ⟨QI hok.low hsize,hthere,hfree,by rw [hlen];exact hok.fit hm,hw,λi hi j hj=>?_⟩ hm,λh=>by rw [hh] at h;cases h⟩;obtain ⟨v,h1,h2⟩:=hv i hi j hj;exact ⟨v,h1,hV _ _ h2⟩
  .rw [QJ (Ne.symm e)] at he;obtain ⟨b',h1,h2,h3,h4⟩:=hR.blk l' k' els1 he;refine ⟨b',h1,h2,λhh'=>(h3 hh').keep hsize (hother _ (h3 hh').low (λe'=>e (hR.inj l' l b' b h1 hb hh' hh e'))) hV,h4⟩
def U9(s:List UInt8):List (List UInt8)->List (List UInt8)
 | []=>[s]
 |x ::r=>if s≤x then s ::x ::r else x ::U9 s r
def Dx:List (List UInt8)->List (List UInt8)
 | []=>[]
 |x ::r=>U9 x (Dx r)
theorem IK(s:List UInt8):∀l,(U9 s l).Perm (s ::l)
 | []=>.refl _
 |x ::r=>by
  unfold U9;split
  .exact .refl _
  .exact (List.Perm.cons x (IK s r)).trans (List.Perm.swap s x r)
theorem W5:∀l,(Dx l).Perm l
 | []=>.refl _
 |x ::r=>(IK x (Dx r)).trans (List.Perm.cons x (W5 r))
theorem zDQ(a b:List UInt8):a≤b∨b≤a:=List.le_total a b
theorem zoO(s:List UInt8):∀{l:List (List UInt8)},l.Pairwise (·≤·)->(U9 s l).Pairwise (·≤·)
 | [],_=>by simp [U9]
 |x ::r,h=>by
  obtain ⟨h1,h2⟩:=Yg.1 h;unfold U9;split
  .rename_i hs;refine Yg.2 ⟨λy hy=>?_,h⟩
   rcases Qr.1 hy with rfl |hy
   .exact hs
   .exact List.le_trans hs (h1 y hy)
  .rename_i hs;refine Yg.2 ⟨λy hy=>?_,zoO s h2⟩
   rcases Qr.1 ((IK s r).mem_iff.1 hy) with rfl |hy
   .exact (zDQ y x).resolve_left hs
   .exact h1 y hy
theorem zl1:∀l:List (List UInt8),(Dx l).Pairwise (·≤·)
 | []=>List.Pairwise.nil
 |x ::r=>zoO x (zl1 r)
theorem zAv(l:List (List UInt8)):(l.mergeSort λx y=>decide (x≤y))=Dx l:=by
 have h1:(l.mergeSort λx y=>decide (x≤y)).Pairwise (·≤·):=by
  have:=List.pairwise_mergeSort (le:=λx y:List UInt8=>decide (x≤y)) (λa b c h1 h2=>decide_eq_true (List.le_trans (of_decide_eq_true h1) (of_decide_eq_true h2))) (λa b=>by
   rcases zDQ a b with h |h
   .simp [h]
   .simp [h]) l
  exact this.imp λh=>of_decide_eq_true h
 exact Ys (λa b _ _ h1 h2=>List.le_antisymm h1 h2) h1 (zl1 l) ((List.mergeSort_perm l _).trans (W5 l).symm)
def BF(l:List (List UInt8)):Option (List (List UInt8)):=if l.length<4611686018427387904 then some (Dx l) else none
theorem zBk{l r:List (List UInt8)}(h:BF l=some r):r.length=l.length:=by
 unfold BF at h;split at h
 .cases h;exact (W5 _).length_eq
 .cases h
theorem zCs{w w':World}{b:Nat}(h:∀c e fr,w.heap[b]?=some (.cells c e fr)->∃c',w'.heap[b]?=some (.cells c' e fr))(hc:∃c e fr,w.heap[b]?=some (.cells c e fr))(off:Nat):fz w' ⟨b,off,none⟩=fz w ⟨b,off,none⟩:=by
 obtain ⟨c,e,fr,h1⟩:=hc;obtain ⟨c',h2⟩:=h c e fr h1;simp only [fz,h1,h2]
theorem zDk(l:List (List UInt8)){r:List (List UInt8)}(h:BF l=some r):SC prog 338 [.msl 0 0 (List.length l)] [.many 1 (List.map Xe l)] (.tup []) [.many 1 (List.map Xe r)]:=by
 unfold BF at h;split at h
 case isFalse=>cases h
 rename_i hsz;cases h;refine ⟨⟨Xw (sz:=1) (λ_=>rfl),trivial⟩,?_⟩
 cases l with
 |nil =>
  exact zwF (kn:=[]) (by kernel_rfl) (λg h=>by cases h) 40 _ _ _ _ _ (by kernel_rfl)
 |cons x l =>
  generalize hl:x ::l=ss at *
  have hne:0<ss.length:=by rw [<-hl];simp
  refine ⟨⟨_,func338,by kernel_rfl,by kernel_rfl⟩,λA m w vals hR hv=>?_⟩;have h0:V A m 1 w (.msl 0 0 ss.length) (vals.getD 0 undef):=hv.2 0 (by simp);obtain ⟨hlt,a,n',cap,hval,hb⟩:=h0.msl_inv;obtain ⟨b,h1,h2,h3,h4⟩:=hR.blk 0 1 (List.map Xe ss) rfl;obtain ⟨rfl,hcap,hc⟩:=hb b h1
  rcases hc with rfl |⟨hh,hm,rfl,hfit⟩
  .omega
  have hok:=(h3 hh).cells hm
  have hvals:vals=#[.slice (some ⟨b.B,b.o,none⟩) ss.length cap]:=by
   have h5:vals.size=1:=hv.1;obtain ⟨u,rfl⟩:=Array.size_eq_one_iff.1 h5;have:u=.slice (some ⟨b.B,b.o+0*b.k,none⟩) ss.length cap:=hval;rw [this];simp
  subst hvals;rw [h2] at hfit
  have hcell:∀j (hj:j<ss.length),w.cell? ⟨b.B,b.o+j,none⟩=some (.string (B ss[j])):=λj hj=>by
   obtain ⟨v,h5,h6⟩:=hok.val j (by simpa using hj) 0 (by simp [Xe]);rw [h2] at h5
   have e1:(List.map Xe ss)[j]'(by simpa using hj)=[.lit (.string (B ss[j]))]:=by simp [Xe]
   have h7:V A m 1 w (.lit (.string (B ss[j]))) v:=by
    have:((List.map Xe ss)[j]'(by simpa using hj))[0]'(by simp [Xe])=.lit (.string (B ss[j])):=by simp [Xe]
    rw [<-this];exact h6
   rw [h7.lit_inv] at h5;simpa using h5
  have hH:Holds encStr w b.B b.o ss.toArray:=λj hj=>by
   have hj':j<ss.length:=by simpa using hj
   refine ⟨?_,Ok (hok.free _ (by omega))⟩;rw [hcell j hj'];congr 1;simp [encStr,hj']
  refine (Any.slices_Sort_string Tryz.lays190 b.B b.o cap ss w hH hok.low hsz).mono λe w' ⟨he,n,os,hw'⟩=>?_;rw [zAv] at hw';generalize hso:Dx ss=so at hw' ⊢
  have hsl:so.length=ss.length:=by rw [<-hso];exact (W5 _).length_eq
  have hsa:so.toArray.size=ss.toArray.size:=by simp [hsl]
  have hlow:=hok.low
  have hheap:∀B,B<w.heap.size->B≠b.B->w'.heap[B]?=w.heap[B]?:=λB hB hne=>by
   rw [hw',heap_grow_old _ _ (by simpa using hB)];show ((Go.Sort.ahead w n).heap.modify b.B _)[B]?=_;rw [Jc,if_neg (Ne.symm hne)];rfl
  have hcs:∀a:Addr,a.block=b.B->w'.cell? a=(putRow encStr w b.B b.o so.toArray).cell? a:=λa ha=>by
   rw [hw',cell?_grow _ _ _ (by rw [ha];simpa using hlow)];rfl
  have hin:∀j (hj:j<so.length),w'.cell? ⟨b.B,b.o+j,none⟩=some (.string (B so[j])):=λj hj=>by
   rw [hcs _ rfl,cell?_putRow encStr w b.B b.o ss.toArray so.toArray hH hsa j (by simpa using hj)];simp [encStr,hj]
  have hobj:∃c e fr,w.heap[b.B]?=some (.cells c e fr):=by
   obtain ⟨v,h5⟩:=hok.there b.o (by omega);unfold World.cell? at h5;split at h5
   .rename_i c e fr hq;exact ⟨c,e,_,hq⟩
   .cases h5
  have hred:=hR.redo (w':=w') (l:=0) (k:=1) (els:=List.map Xe ss) (els':=List.map Xe so) rfl h1 hh hm (by rw [hw'];simp) (by rw [hw'];rfl) (by rw [hw'];rfl) (by rw [hw'];rfl) hheap (by simp [hsl])
   (λoff ho=>by
    rw [hcs _ rfl];by_cases hin2:b.o≤off/\off<b.o+so.length
    .have:=hin (off-b.o) (by omega);rw [hcs _ rfl,show b.o+(off-b.o)=off by omega] at this;exact ⟨_,this⟩
    .rw [cell?_putRow_other _ _ _ _ _ _ (by right;simp;omega)]
     exact hok.there off ho)
   (λoff ho=>by
    rw [zCs (w:=w) (λc e fr hq=>?_) hobj]
    .exact hok.free off ho
    .refine ⟨putCells encStr b.o so.toArray c,?_⟩;rw [hw',heap_grow_old _ _ (by simpa using hlow)];show ((Go.Sort.ahead w n).heap.modify b.B _)[b.B]?=_;rw [Jc,if_pos rfl];show (w.heap[b.B]?).map _=_
     rw [hq];rfl)
   (λi hi=>by rw [h2];simp [Xe])
   (λi hi j hj=>by
    have hi':i<so.length:=by simpa using hi
    have hj0:j=0:=by simp [Xe] at hj;exact hj
    subst hj0;refine ⟨.string (B so[i]),by rw [h2,Yn,Q6];exact hin i hi',?_⟩
    have:(List.map Xe so)[i][0]'hj=.lit (.string (B so[i])):=by simp [Xe]
    rw [this];exact .imm (.lit _))
  exact ⟨.tuple #[],A,m,_,.tup [],he,hred.1,hred.2,.imm (.tup _ _ rfl λi hi=>by cases hi),rfl,rfl⟩
end
structure zr where
  Op:Int
  A:Int
  C:T0
  M:T0
def zn(x:zr):List AV:=[iA x.Op,iA x.A,sA x.C,sA x.M]
def UO(a:UInt8):Bool:=
  ((decide (97≤(a.toNat:Int)))&&(decide ((a.toNat:Int)≤122)))
instance (a:UInt8):PF prog 237 [.lit (.int .u8 (a.toNat:Int))] (some (UO a)) bA:=.of λr h=>by
 refine zi func237 y kz y y ?_;unfold UO at h;refine A ?_;refine A ?_;refine zy ?_;obtain rfl:=h;exact ⟨_,y,Xb []⟩
def Ko(a:UInt8):Bool:=
  ((decide (65≤(a.toNat:Int)))&&(decide ((a.toNat:Int)≤90)))
instance (a:UInt8):PF prog 249 [.lit (.int .u8 (a.toNat:Int))] (some (Ko a)) bA:=.of λr h=>by
 refine zi func249 y kz y y ?_;unfold Ko at h;refine A ?_;refine A ?_;refine zy ?_;obtain rfl:=h;exact ⟨_,y,Xb []⟩
def DO(a:UInt8):Bool:=
  ((decide (48≤(a.toNat:Int)))&&(decide ((a.toNat:Int)≤57)))
instance (a:UInt8):PF prog 322 [.lit (.int .u8 (a.toNat:Int))] (some (DO a)) bA:=.of λr h=>by
 refine zi func322 y kz y y ?_;unfold DO at h;refine A ?_;refine A ?_;refine zy ?_;obtain rfl:=h;exact ⟨_,y,Xb []⟩
def zu6(a:T0):Option (Bool):=
  some ((!(a == []))&&(decide ((length a:Int)≤8)))
def OX(b:T0)(a:Int):zL (Int) (Unit) (Bool):=
  cond (decide (a<(length b:Int))) ((idx b a).bind λi=>(cond (!(UO i)) ((idx b a).bind λc=>some (!(Ko c))) (some false)).bind λd=>(cond d ((idx b a).bind λe=>some (!(DO e))) (some false)).bind λf=>cond f (some (.inr (.inr false))) (some (.inl (i64.wrap (a+1))))) (some (.inr (.inl ())))
def IJ(a:T0):Option (Bool):=
  (zp (λz=>OX a z) 0).bind λo=>zH o (λb=>zu6 a) some
instance (a:T0):PF prog 236 [sA a] (IJ a) bA:=⟨λr h=>by
 refine zi func236 y kz y y<|A ?_;refine ze<|A ?_;obtain ⟨o,ho,h⟩:=bs h;refine lpB ho (λz=>[(0,sA a),(5,iA (length a:Int)),(6,iA z)]) (λz=>[]) (λb=>[(0,sA a)]) (λb=>[]) (pG f236 bA) (Xd []) ?_ ?_
 .rintro m r h;refine A ?_;refine ze ?_;apply Xa h y<;>intro c h
  .refine zd<|ze<|zh<|A ?_;obtain ⟨n,e,f,i,j,l,h⟩:=bs3 h;refine A ?_;apply Xa h y<;>intro d h
   .refine A ?_;refine zy ?_;cases h;exact ⟨_,y,_,y,Xb []⟩
   .refine zd<|A ?_;cases h;exact ⟨_,y,zl []⟩
  .refine zs ?_;cases h;exact ⟨y,_,y,zl []⟩
 .rintro ⟨⟩ rfl;refine zm<|A ?_
  exact RT0⟩
def HQ(a:T0):Option (Bool):=
  (IJ a).bind λb=>(cond (b&&(decide (1<(length a:Int)))) ((idx a 0).bind λc=>some (Ko c)) (some false)).bind λd=>some d
instance (a:T0):PF prog 158 [sA a] (HQ a) bA:=⟨λr h=>by
 refine zi func158 y kz y y<|A ?_;obtain ⟨b,c,d,e,h⟩:=bs2 h;refine A ?_
 exact RT0⟩
def Oj(a:T0):Option (Bool):=
  (cond (a == [36,105,110,105,116]) (some true) ((IJ a).bind λb=>(cond b ((idx a 0).bind λc=>some (UO c)) (some false)).bind λd=>some d)).bind λe=>some e
instance (a:T0):PF prog 152 [sA a] (Oj a) bA:=⟨λr h=>by
 refine zi func152 y kz y y<|A ?_;obtain ⟨b,c,h⟩:=bs h;refine A ?_
 exact RT0⟩
def zdT(b:T0)(a:T0):Option (Bool):=
  (cond (decide ((length a:Int)≤(length b:Int))) ((XJ b 0 (length a:Int)).bind λc=>some (c == a)) (some false)).bind λd=>some d
instance (f:T0)(e:T0):PF prog 168 [sA f,sA e] (zdT f e) bA:=⟨λr h=>by
 refine zi func168 y kz y y<|A ?_;obtain ⟨l,d,h⟩:=bs h;refine A ?_;refine X1 (x:=l) (j:=5) 6 y y y y y gpn (λc=>by replace d:=bT c d;obtain ⟨m,i,d⟩:=bs d;obtain rfl:=sm d;exact g y c<|mv y<|g y c<|mv y<|g y c<|lnS ti y y<|g y c<|slS (a:=0) (b:=(length e:Int)) ti y y y (DA y i) i<|g y c<|mv y<|g y c<|seq ti y y<|zo (eg [11,12,13,14,15,16] 6 y y y y)) (λhb=>(sm (bF hb d)).symm)<|A ?_
 exact RT0⟩
def zdm(a:T0)(b:T0):Option (T0):=
  (zdT a b).bind λc=>cond c ((XJ a (length b:Int) (length a:Int)).bind λd=>some d) (some a)
instance (c:T0)(d:T0):PF prog 323 [sA c,sA d] (zdm c d) sA:=⟨λr h=>by
 refine zi func323 y kz y y<|A ?_;refine ze ?_;obtain ⟨i,j,h⟩:=bs h;refine A ?_;apply Xa h y<;>intro e h
 .obtain ⟨l,f,h⟩:=bs h;refine A ?_;refine u<|slS (a:=(length d:Int)) (b:=(length c:Int)) ti y y (K5 y f) y f<|A ?_;exact RT0
 .refine zd<|A ?_
  exact RT0⟩
def zfF(a:T0)(b:T0):Option (T0):=
  (zdm a b).bind λc=>some c
instance (a:T0)(b:T0):PF prog 238 [sA a,sA b] (zfF a b) sA:=⟨λr h=>by
 refine zi func238 y kz y y<|A ?_;obtain ⟨c,d,h⟩:=bs h;refine A ?_
 exact RT0⟩
def G9(b:T0):Option (Bool):=
  (zfF b [91]).bind λc=>(zfF c [91]).bind λa=>(cond (a == [73]) (some true) ((HQ a).bind λd=>some d)).bind λe=>some e
instance (a:T0):PF prog 153 [sA a] (G9 a) bA:=⟨λr h=>by
 refine zi func153 y kz y y<|A ?_;obtain ⟨b,c,d,e,h⟩:=bs2 h;refine A ?_;obtain ⟨f,i,h⟩:=bs h;refine A ?_
 exact RT0⟩
def WT(a:T0):Option (Bool):=
  (cond (!(a == [73])) ((G9 a).bind λb=>some b) (some false)).bind λc=>some c
instance (a:T0):PF prog 107 [sA a] (WT a) bA:=⟨λr h=>by
 refine zi func107 y kz y y<|A ?_;obtain ⟨b,c,h⟩:=bs h;refine A ?_
 exact RT0⟩
def KL(a:Int)(b:Int)(c:Int):Bool:=
  ((decide (b≤a))&&(decide (a≤c)))
instance (a:Int)(b:Int)(c:Int):PF prog 288 [iA a,iA b,iA c] (some (KL a b c)) bA:=.of λr h=>by
 refine zi func288 y kz y y ?_;unfold KL at h;refine A ?_;refine A ?_;refine zy ?_;obtain rfl:=h;exact ⟨_,y,Xb []⟩
def WR(a:Int):Bool:=
  (KL a 1 61)
instance (a:Int):PF prog 360 [iA a] (some (WR a)) bA:=.of λr h=>by
 refine zi func360 y kz y y ?_;unfold WR at h;refine A ?_;refine A ?_;refine zy ?_;obtain rfl:=h;exact ⟨_,y,Xb []⟩
def UN(a:Int):Bool:=
  (KL a 20 36)
instance (a:Int):PF prog 201 [iA a] (some (UN a)) bA:=.of λr h=>by
 refine zi func201 y kz y y ?_;unfold UN at h;refine A ?_;refine A ?_;refine zy ?_;obtain rfl:=h;exact ⟨_,y,Xb []⟩
def HF(a:Int)(b:Int):Bool:=
  cond (a == 1) ((KL b (-2147483648) 2147483647)) (cond ((a == 3)||(a == 4)) ((KL b 0 15)) (cond (UN a) ((KL b 0 99)) ((b == 0))))
instance (a:Int)(b:Int):PF prog 361 [iA a,iA b] (some (HF a b)) bA:=.of λr h=>by
 refine zi func361 y kz y y<|A ?_;refine ze<|zh<|A ?_;apply Xa h y<;>intro c h
 .refine A ?_;refine zy ?_;obtain rfl:=h;exact ⟨_,y,Xb []⟩
 .refine A ?_;apply Xa h y<;>intro d h
  .refine A ?_;refine zy ?_;obtain rfl:=h;exact ⟨_,y,Xb []⟩
  .refine A ?_;apply Xa h y<;>intro e h
   .refine A ?_;refine zy ?_;obtain rfl:=h;exact ⟨_,y,Xb []⟩
   .refine zd<|A ?_;refine zy ?_;obtain rfl:=h;exact ⟨_,y,Xb []⟩
def Gg(a:Int):Bool:=
  (((a == 50)||(a == 56))||(a == 57))
instance (a:Int):PF prog 380 [iA a] (some (Gg a)) bA:=.of λr h=>by
 refine zi func380 y kz y y ?_;unfold Gg at h;refine A ?_;refine A ?_;refine zy ?_;obtain rfl:=h;exact ⟨_,y,Xb []⟩
def Wk(a:Int):Bool:=
  (KL a 38 45)
instance (a:Int):PF prog 373 [iA a] (some (Wk a)) bA:=.of λr h=>by
 refine zi func373 y kz y y ?_;unfold Wk at h;refine A ?_;refine A ?_;refine zy ?_;obtain rfl:=h;exact ⟨_,y,Xb []⟩
def Dc(a:Int):Bool:=
  (((a == 37)||(Wk a))||(Gg a))
instance (a:Int):PF prog 372 [iA a] (some (Dc a)) bA:=.of λr h=>by
 refine zi func372 y kz y y ?_;unfold Dc at h;refine A ?_;refine A ?_;refine zy ?_;obtain rfl:=h;exact ⟨_,y,Xb []⟩
def zt7(b:Int)(a:T0):Option (Bool):=
  cond (Gg b) ((WT a).bind λc=>some c) (cond (Dc b) ((HQ a).bind λd=>some d) (some (a == [])))
instance (a:Int)(b:T0):PF prog 362 [iA a,sA b] (zt7 a b) bA:=⟨λr h=>by
 refine zi func362 y kz y y<|A ?_;refine ze<|zh<|A ?_;apply Xa h y<;>intro c h
 .obtain ⟨e,f,h⟩:=bs h;refine A ?_;exact RT0
 .refine A ?_;apply Xa h y<;>intro d h
  .obtain ⟨i,j,h⟩:=bs h;refine A ?_;exact RT0
  .refine zd<|A ?_
   exact RT0⟩
def zt8(b:Int)(a:T0):Option (Bool):=
  cond (Wk b) ((Oj a).bind λc=>some (c&&(!(a == [36,105,110,105,116])))) (some (a == []))
instance (a:Int)(b:T0):PF prog 363 [iA a,sA b] (zt8 a b) bA:=⟨λr h=>by
 refine zi func363 y kz y y<|A ?_;refine ze<|A ?_;apply Xa h y<;>intro c h
 .obtain ⟨d,e,h⟩:=bs h;refine A ?_;exact RT0
 .refine zd<|A ?_
  exact RT0⟩
def zxQ(a:zr):Option (Bool):=
  (cond ((WR a.Op)&&(HF a.Op a.A)) ((zt7 a.Op a.C).bind λb=>some b) (some false)).bind λc=>(cond c ((zt8 a.Op a.M).bind λd=>some d) (some false)).bind λe=>some e
instance (a:zr):PF prog 326 [.agg (zn a)] (zxQ a) bA:=⟨λr h=>by
 refine zi func326 y kz y y<|A ?_;obtain ⟨b,c,d,e,h⟩:=bs2 h;refine A ?_
 exact RT0⟩
def IT(a:UInt8):Bool:=
  ((decide (65≤(a.toNat:Int)))&&(decide ((a.toNat:Int)≤90)))
instance (a:UInt8):PF prog 265 [.lit (.int .u8 (a.toNat:Int))] (some (IT a)) bA:=.of λr h=>by
 refine zi func265 y kz y y ?_;unfold IT at h;refine A ?_;refine A ?_;refine zy ?_;obtain rfl:=h;exact ⟨_,y,Xb []⟩
def IW(a:UInt8):Bool:=
  ((decide (97≤(a.toNat:Int)))&&(decide ((a.toNat:Int)≤122)))
instance (a:UInt8):PF prog 266 [.lit (.int .u8 (a.toNat:Int))] (some (IW a)) bA:=.of λr h=>by
 refine zi func266 y kz y y ?_;unfold IW at h;refine A ?_;refine A ?_;refine zy ?_;obtain rfl:=h;exact ⟨_,y,Xb []⟩
def IU(a:UInt8):Bool:=
  ((decide (48≤(a.toNat:Int)))&&(decide ((a.toNat:Int)≤57)))
instance (a:UInt8):PF prog 267 [.lit (.int .u8 (a.toNat:Int))] (some (IU a)) bA:=.of λr h=>by
 refine zi func267 y kz y y ?_;unfold IU at h;refine A ?_;refine A ?_;refine zy ?_;obtain rfl:=h;exact ⟨_,y,Xb []⟩
def zue(a:T0):Option (Bool):=
  some ((decide (2≤(length a:Int)))&&(decide ((length a:Int)≤8)))
def HY(b:T0)(a:Int):zL (Int) (Unit) (Bool):=
  cond (decide (a<(length b:Int))) ((idx b a).bind λc=>(cond (!(IT c)) ((cond (a == 0) (some true) ((idx b a).bind λd=>(cond (!(IW d)) ((idx b a).bind λe=>some (!(IU e))) (some false)).bind λf=>some f)).bind λi=>some i) (some false)).bind λj=>cond j (some (.inr (.inr false))) (some (.inl (i64.wrap (a+1))))) (some (.inr (.inl ())))
def HP(a:T0):Option (Bool):=
  (zp (λz=>HY a z) 0).bind λo=>zH o (λb=>zue a) some
instance (a:T0):PF prog 185 [sA a] (HP a) bA:=⟨λr h=>by
 refine zi func185 y kz y y<|A ?_;refine ze<|A ?_;obtain ⟨o,ho,h⟩:=bs h;refine lpB ho (λz=>[(0,sA a),(3,iA z)]) (λz=>[]) (λb=>[(0,sA a)]) (λb=>[]) (pG f185 bA) (Xd []) ?_ ?_
 .rintro l r h;refine ze<|A ?_;apply Xa h y<;>intro c h
  .refine zd<|ze<|zh ?_;obtain ⟨e,f,i,j,h⟩:=bs2 h;refine A ?_;apply Xa h y<;>intro d h
   .refine A ?_;refine zy ?_;cases h;exact ⟨_,y,_,y,Xb []⟩
   .refine zd<|A ?_;cases h;exact ⟨_,y,zl []⟩
  .refine zs ?_;cases h;exact ⟨y,_,y,zl []⟩
 .rintro ⟨⟩ rfl;refine zm<|A ?_
  exact RT0⟩
def DL(a:Int):Bool:=
  ((decide (20≤a))&&(decide (a≤36)))
theorem zpI(a:Int){r:Bool}(h:DL a=r):Xm prog 336 [iA a] (bA r):=by
 refine zi func336 y kz y y ?_;unfold DL at h;refine A ?_;refine A ?_;refine zy ?_;obtain rfl:=h;exact ⟨_,y,Xb []⟩
instance (a:Int):PF prog 336 [iA a] (some (DL a)) bA:=.of λ_=>zpI a
def zjS(a:Bool):Bool×Int×Bool:=
  cond a ((false,2,false)) ((false,0,false))
def zir(a:Int)(b:Bool):Bool×Int×Bool:=
  cond b ((true,0,false)) (cond (a == 37) ((false,1,false)) (cond ((decide (38≤a))&&(decide (a≤45))) ((false,1,true)) (cond (a == 50) (zjS (a == 50)) (cond (a == 56) (zjS (a == 56)) (zjS (a == 57))))))
def He(a:Int):Bool×Int×Bool:=
  cond (a == 1) (zir a (a == 1)) (cond (a == 3) (zir a (a == 3)) (cond (a == 4) (zir a (a == 4)) (zir a (DL a))))
instance (a:Int):PF prog 365 [iA a] (some (He a)) (λr=>(.tup [bA r.1,iA r.2.1,bA r.2.2])):=.of λr h=>by
 refine zi func365 y kz y y<|A ?_;refine ze<|zh ?_;refine Xz (X:=Bool) (λz=>[(0,iA a),(5,bA z)]) (λz=>[]) (λz=>zir a z=r) ?_ ?_
 .refine A ?_;apply Xa h y<;>intro c h
  .refine zd ?_;exact ⟨(a == 1),h,zl []⟩
  .refine A ?_;apply Xa h y<;>intro d h
   .refine zd ?_;exact ⟨(a == 3),h,zl []⟩
   .refine A ?_;apply Xa h y<;>intro e h
    .refine zd ?_;exact ⟨(a == 4),h,zl []⟩
    .refine A ?_;exact (⟨(DL a),h,zl []⟩)
 .rintro n h;apply Xa h y<;>intro f h
  .refine A ?_;refine zy ?_;obtain rfl:=h;exact ⟨_,y,Xb []⟩
  .refine A ?_;apply Xa h y<;>intro i h
   .refine A ?_;refine zy ?_;obtain rfl:=h;exact ⟨_,y,Xb []⟩
   .refine A ?_;apply Xa h y<;>intro j h
    .refine A ?_;refine zy ?_;obtain rfl:=h;exact ⟨_,y,Xb []⟩
    .refine Xz (X:=Bool) (λz=>[(24,bA z)]) (λz=>[]) (λz=>zjS z=r) ?_ ?_
     .refine A ?_;apply Xa h y<;>intro l h
      .refine zd ?_;exact ⟨(a == 50),h,zl []⟩
      .refine A ?_;apply Xa h y<;>intro m h
       .refine zd ?_;exact ⟨(a == 56),h,zl []⟩
       .refine A ?_;exact (⟨(a == 57),h,zl []⟩)
     .rintro o h;apply Xa h y<;>intro b h
      .refine A ?_;refine zy ?_;obtain rfl:=h;exact ⟨_,y,Xb []⟩
      .refine zd<|A ?_;refine zy ?_;obtain rfl:=h;exact ⟨_,y,Xb []⟩
def IV(b:Int)(a:Int):Bool:=
  cond (b == 1) (((decide ((-2147483648)≤a))&&(decide (a<2147483648)))) (cond (DL b) (((decide (0≤a))&&(decide (a<100)))) (((decide (0≤a))&&(decide (a<16)))))
instance (a:Int)(b:Int):PF prog 366 [iA a,iA b] (some (IV a b)) bA:=.of λr h=>by
 refine zi func366 y kz y y<|A ?_;refine ze<|zh<|A ?_;apply Xa h y<;>intro c h
 .refine A ?_;refine zy ?_;obtain rfl:=h;exact ⟨_,y,Xb []⟩
 .refine A ?_;apply Xa h y<;>intro d h
  .refine A ?_;refine zy ?_;obtain rfl:=h;exact ⟨_,y,Xb []⟩
  .refine zd<|A ?_;refine zy ?_;obtain rfl:=h;exact ⟨_,y,Xb []⟩
def zoX(a:T0):Option (Bool):=
  (cond (a == [73]) (some true) ((HP a).bind λb=>some b)).bind λc=>some c
def OG(a:T0)(b:Int):zL (T0×Int) (T0) (Bool):=
  (cond ((decide (b<2))&&(decide (0<(length a:Int)))) ((idx a 0).bind λe=>some ((e.toNat:Int) == 91)) (some false)).bind λc=>cond c ((XJ a 1 (length a:Int)).bind λd=>some (.inl (d,(i64.wrap (b+1))))) (some (.inr (.inl a)))
def Gd(a:T0):Option (Bool):=
  (zp (λz=>OG z.1 z.2) (a,0)).bind λo=>zH o (λb=>zoX b) some
instance (e:T0):PF prog 187 [sA e] (Gd e) bA:=⟨λr h=>by
 refine zi func187 y kz y y<|A ?_;refine ze<|A ?_;obtain ⟨o,ho,h⟩:=bs h;refine lpB ho (λz=>[(0,sA z.1),(3,iA z.2)]) (λz=>[]) (λb=>[(0,sA b)]) (λb=>[]) (pG f187 bA) (Xd []) ?_ ?_
 .rintro ⟨f,q⟩ r h;refine ze ?_;obtain ⟨i,j,h⟩:=bs h;refine A ?_;apply Xa h y<;>intro d h
  .refine zd<|ze<|zh ?_;obtain ⟨l,c,h⟩:=bs h;refine rl y<|u<|mv y<|u<|slS (a:=1) (b:=(length f:Int)) ti y y (K5 y c) y c<|A ?_;refine A ?_;cases h;exact ⟨_,y,zl []⟩
  .refine zs ?_;cases h;exact ⟨y,_,y,zl []⟩
 .rintro m rfl;refine zm ?_;obtain ⟨n,p,h⟩:=bs h;refine A ?_
  exact RT0⟩
def zrd(a:T0):Option (Bool):=
  (cond (!(a == [73])) ((Gd a).bind λb=>some b) (some false)).bind λc=>some c
instance (a:T0):PF prog 367 [sA a] (zrd a) bA:=⟨λr h=>by
 refine zi func367 y kz y y<|A ?_;obtain ⟨b,c,h⟩:=bs h;refine A ?_
 exact RT0⟩
def zvy(a:T0):Option (Bool):=
  some ((decide (1≤(length a:Int)))&&(decide ((length a:Int)≤8)))
def HV(b:T0)(a:Int):zL (Int) (Unit) (Bool):=
  cond (decide (a<(length b:Int))) ((idx b a).bind λc=>(cond (!(IW c)) ((cond (a == 0) (some true) ((idx b a).bind λd=>(cond (!(IT d)) ((idx b a).bind λe=>some (!(IU e))) (some false)).bind λf=>some f)).bind λi=>some i) (some false)).bind λj=>cond j (some (.inr (.inr false))) (some (.inl (i64.wrap (a+1))))) (some (.inr (.inl ())))
def Os(a:T0):Option (Bool):=
  cond (a == [36,105,110,105,116]) (some true) ((zp (λz=>HV a z) 0).bind λo=>zH o (λb=>zvy a) some)
instance (a:T0):PF prog 186 [sA a] (Os a) bA:=⟨λr h=>by
 refine zi func186 y kz y y<|A ?_;refine ze<|A ?_;apply Xa h y<;>intro e h
 .refine A ?_;exact RT0
 .refine zd<|ze<|A ?_;obtain ⟨o,ho,h⟩:=bs h;refine lpB ho (λz=>[(0,sA a),(3,iA z)]) (λz=>[]) (λb=>[(0,sA a)]) (λb=>[]) (pG f186 bA) (Xd []) ?_ ?_
  .rintro m r h;refine ze<|A ?_;apply Xa h y<;>intro c h
   .refine zd<|ze<|zh ?_;obtain ⟨f,i,j,l,h⟩:=bs2 h;refine A ?_;apply Xa h y<;>intro d h
    .refine A ?_;refine zy ?_;cases h;exact ⟨_,y,_,y,Xb []⟩
    .refine zd<|A ?_;cases h;exact ⟨_,y,zl []⟩
   .refine zs ?_;cases h;exact ⟨y,_,y,zl []⟩
  .rintro ⟨⟩ rfl;refine zm<|A ?_
   exact RT0⟩
def IX(a:zr):Option (Bool):=
  cond ((decide (a.Op<1))||(decide (61<a.Op))) (some false) (cond ((((He a.Op).1)&&(!(IV a.Op a.A)))||((!((He a.Op).1))&&(!(a.A == 0)))) (some false) ((cond ((((He a.Op).2.1) == 0)&&(!(a.C == []))) (some true) ((cond (((He a.Op).2.1) == 1) ((HP a.C).bind λb=>some (!b)) (some false)).bind λc=>some c)).bind λd=>(cond d (some true) ((cond (((He a.Op).2.1) == 2) ((zrd a.C).bind λe=>some (!e)) (some false)).bind λf=>some f)).bind λi=>cond i (some false) (cond ((He a.Op).2.2) ((Os a.M).bind λj=>some (j&&(!(a.M == [36,105,110,105,116])))) (some (a.M == [])))))
theorem zoy(c:zr){r:Bool}(h:IX c=some r):Xm prog 335 [.agg (zn c)] (bA r):=by
 refine zi func335 y kz y y<|A ?_;refine A ?_;refine ze<|zh<|A ?_;apply Xa h y<;>intro d h
 .refine A ?_;exact RT0
 .refine A ?_;apply Xa h y<;>intro e h
  .refine A ?_;exact RT0
  .obtain ⟨l,f,m,i,h⟩:=bs2 h;refine A ?_;apply Xa h y<;>intro a h
   .refine A ?_;exact RT0
   .refine A ?_;apply Xa h y<;>intro b h
    .obtain ⟨n,j,h⟩:=bs h;refine A ?_;exact RT0
    .refine zd<|A ?_;exact RT0
instance (a:zr):PF prog 335 [.agg (zn a)] (IX a) bA:=⟨λ_=>zoy a⟩
def WZ(a:Bool):Bool:=
  cond a (true) (false)
def GC(a:Int):Bool:=
  cond (a == 20) (WZ (a == 20)) (cond (a == 46) (WZ (a == 46)) (cond (a == 47) (WZ (a == 47)) (cond (a == 48) (WZ (a == 48)) (cond (a == 58) (WZ (a == 58)) (WZ (a == 61))))))
instance (a:Int):PF prog 203 [iA a] (some (GC a)) bA:=.of λr h=>by
 refine zi func203 y kz y y<|A ?_;refine ze<|A ?_;refine zh ?_;refine Xz (X:=Bool) (λz=>[(4,bA z)]) (λz=>[]) (λz=>WZ z=r) ?_ ?_
 .refine A ?_;apply Xa h y<;>intro b h
  .refine zd ?_;exact ⟨(a == 20),h,zl []⟩
  .refine A ?_;apply Xa h y<;>intro c h
   .refine zd ?_;exact ⟨(a == 46),h,zl []⟩
   .refine A ?_;apply Xa h y<;>intro d h
    .refine zd ?_;exact ⟨(a == 47),h,zl []⟩
    .refine A ?_;apply Xa h y<;>intro e h
     .refine zd ?_;exact ⟨(a == 48),h,zl []⟩
     .refine A ?_;apply Xa h y<;>intro f h
      .refine zd ?_;exact ⟨(a == 58),h,zl []⟩
      .refine A ?_;exact (⟨(a == 61),h,zl []⟩)
 .rintro j h;apply Xa h y<;>intro i h
  .refine A ?_;refine zy ?_;obtain rfl:=h;exact ⟨_,y,Xb []⟩
  .refine zd<|A ?_;refine zy ?_;obtain rfl:=h;exact ⟨_,y,Xb []⟩
def W9(a:Bool):Bool:=
  cond a (true) (false)
def HN(a:Int):Bool:=
  cond (a == 20) (W9 (a == 20)) (cond (a == 46) (W9 (a == 46)) (cond (a == 47) (W9 (a == 47)) (cond (a == 48) (W9 (a == 48)) (cond (a == 58) (W9 (a == 58)) (W9 (a == 61))))))
instance (a:Int):PF prog 212 [iA a] (some (HN a)) bA:=.of λr h=>by
 refine zi func212 y kz y y<|A ?_;refine ze<|A ?_;refine zh ?_;refine Xz (X:=Bool) (λz=>[(4,bA z)]) (λz=>[]) (λz=>W9 z=r) ?_ ?_
 .refine A ?_;apply Xa h y<;>intro b h
  .refine zd ?_;exact ⟨(a == 20),h,zl []⟩
  .refine A ?_;apply Xa h y<;>intro c h
   .refine zd ?_;exact ⟨(a == 46),h,zl []⟩
   .refine A ?_;apply Xa h y<;>intro d h
    .refine zd ?_;exact ⟨(a == 47),h,zl []⟩
    .refine A ?_;apply Xa h y<;>intro e h
     .refine zd ?_;exact ⟨(a == 48),h,zl []⟩
     .refine A ?_;apply Xa h y<;>intro f h
      .refine zd ?_;exact ⟨(a == 58),h,zl []⟩
      .refine A ?_;exact (⟨(a == 61),h,zl []⟩)
 .rintro j h;apply Xa h y<;>intro i h
  .refine A ?_;refine zy ?_;obtain rfl:=h;exact ⟨_,y,Xb []⟩
  .refine zd<|A ?_;refine zy ?_;obtain rfl:=h;exact ⟨_,y,Xb []⟩
def Hc(a:T0):Option (T0×Bool):=
  (G9 a).bind λb=>(cond (!b) (some true) ((idx a 0).bind λc=>some (!((c.toNat:Int) == 91)))).bind λd=>cond d (some ([],false)) ((XJ a 1 (length a:Int)).bind λe=>some (e,true))
instance (c:T0):PF prog 220 [sA c] (Hc c) (λr=>(.tup [sA r.1,bA r.2])):=⟨λr h=>by
 refine zi func220 y kz y y<|A ?_;refine ze ?_;obtain ⟨f,i,j,l,h⟩:=bs2 h;refine A ?_;apply Xa h y<;>intro d h
 .refine A ?_;exact RT0
 .refine zd ?_;obtain ⟨m,e,h⟩:=bs h;refine rg y<|u<|mv y<|u<|slS (a:=1) (b:=(length c:Int)) ti y y (K5 y e) y e<|A ?_
  exact RT0⟩
structure zj where
  Name:T0
  Type_:T0
  Static:Bool
def zv(x:zj):List AV:=[sA x.Name,sA x.Type_,bA x.Static]
structure zS where
  At:Int
  Locals:T1
  Stack:T1
def zA(x:zS):List AV:=[iA x.At,tL x.Locals,tL x.Stack]
structure zT where
  From:Int
  To:Int
  At:Int
  C:T0
def zY(x:zT):List AV:=[iA x.From,iA x.To,iA x.At,sA x.C]
structure zb where
  Name:T0
  Params:T1
  Ret:T0
  Static:Bool
  Abstract:Bool
  Locals:Int
  Stack:Int
  Code:List zr
  Maps:List zS
  Traps:List zT
def zc(x:zb):List AV:=[sA x.Name,tL x.Params,sA x.Ret,bA x.Static,bA x.Abstract,iA x.Locals,iA x.Stack,.isl 4 (map zn x.Code),.isl 3 (map zA x.Maps),.isl 4 (map zY x.Traps)]
structure za where
  Name:T0
  Super:T0
  Interface:Bool
  Impl:T1
  Fields:List zj
  Methods:List zb
def zf(x:za):List AV:=[sA x.Name,sA x.Super,bA x.Interface,tL x.Impl,.isl 3 (map zv x.Fields),.isl 10 (map zc x.Methods)]
abbrev cL(l:List za):AV:=.isl 6 (map zf l)
def zj6(a:zj):Option (Bool):=
  (Oj a.Name).bind λb=>(cond (b&&(!(a.Name == [36,105,110,105,116]))) ((G9 a.Type_).bind λc=>some c) (some false)).bind λd=>some d
theorem zoo(a:zj){r:Bool}(h:zj6 a=some r):Xm prog 151 [.agg (zv a)] (bA r):=by
 refine zi func151 y kz y y<|A ?_;obtain ⟨b,c,d,e,h⟩:=bs2 h;refine A ?_;exact RT0
instance (a:zj):PF prog 151 [.agg (zv a)] (zj6 a) bA:=⟨λ_=>zoo a⟩
def zj5(a:zj):T0:=
  a.Name
theorem zon(a:zj){r:T0}(h:zj5 a=r):Xm prog 150 [.agg (zv a)] (sA r):=by
 refine zi func150 y kz y y ?_;unfold zj5 at h;refine A ?_;refine A ?_;refine zy ?_;obtain rfl:=h;exact ⟨_,y,Xb []⟩
instance (a:zj):PF prog 150 [.agg (zv a)] (some (zj5 a)) sA:=.of λ_=>zon a
def zgX(a:zj)(b:T0)(c:T0)(d:Bool):Bool:=
  ((zj5 (zj.mk b c d)) == (zj5 a))
instance (d:zj)(a:T0)(b:T0)(c:Bool):PF prog 235 [.agg (zv d),.ipt 1 [[.fn (.func 150) [] []]] 0 0,.ipt 3 [[sA a,sA b,bA c]] 0 0] (some (zgX d a b c)) bA:=.of λr h=>by
 refine zi func235 y kz y y ?_;unfold zgX at h;refine A ?_;refine rdA [(4,_)] [] [] [0,1,2,3,4,5,6,7] [(4,_),(11,_),(10,_),(9,_),(8,_),(7,_),(6,_),(5,_)] 0 (Xk ⟨peC,peC,(by exact pb y (pc (zon (zj.mk a b c) y) y y y<|w)),peC,peC,peC,peC,peC,t⟩ (Xd [])) ?_;refine zy ?_;obtain rfl:=h;exact ⟨_,y,Xb []⟩
def zd7:Option (Int):=
  some (-1)
def zaX(b:List zj)(c:T0)(d:T0)(e:Bool)(a:Int):zL (Int) (Unit) (Int):=
  cond (decide (a<(length b:Int))) ((idx b a).bind λf=>cond (zgX f c d e) (some (.inr (.inr a))) (some (.inl (i64.wrap (a+1))))) (some (.inr (.inl ())))
def zcj(a:List zj)(c:T0)(d:T0)(e:Bool):Option (Int):=
  (zp (λz=>zaX a c d e z) 0).bind λo=>zH o (λb=>zd7) some
instance (a:List zj)(c:T0)(d:T0)(e:Bool):PF prog 315 [.isl 3 (map zv a),.fn (.func 235) [] [.ipt 1 [[.fn (.func 150) [] []]] 0 0,.ipt 3 [[sA c,sA d,bA e]] 0 0]] (zcj a c d e) iA:=⟨λr h=>by
 refine zi func315 y kz y y<|A ?_;refine ze<|A ?_;obtain ⟨o,ho,h⟩:=bs h;refine lpB ho (λz=>[(0,.isl 3 (map zv a)),(1,.fn (.func 235) [] [.ipt 1 [[.fn (.func 150) [] []]] 0 0,.ipt 3 [[sA c,sA d,bA e]] 0 0]),(7,iA (length a:Int)),(8,iA z)]) (λz=>[]) (λb=>[]) (λb=>[]) (pG f315 iA) (Xd []) ?_ ?_
 .rintro j r h;refine A ?_;refine ze ?_;apply Xa h y<;>intro f h
  .refine zd<|ze<|zh<|A ?_;obtain ⟨l,m,h⟩:=bs h;refine A ?_;apply Xa h y<;>intro i h
   .refine A ?_;refine zy ?_;cases h;exact ⟨_,y,_,y,Xb []⟩
   .refine zd<|A ?_;cases h;exact ⟨_,y,zl []⟩
  .refine zs ?_;cases h;exact ⟨y,_,y,zl []⟩
 .rintro ⟨⟩ rfl;refine zm<|A ?_
  exact RT0⟩
def zao(a:List zj)(b:T0)(c:T0)(d:Bool):Option (Bool):=
  (zcj a b c d).bind λe=>some (decide (0≤e))
theorem zc5(a:List zj)(b:T0)(c:T0)(d:Bool){r:Bool}(h:zao a b c d=some r):Xm prog 234 [.isl 3 (map zv a),.fn (.func 235) [] [.ipt 1 [[.fn (.func 150) [] []]] 0 0,.ipt 3 [[sA b,sA c,bA d]] 0 0]] (bA r):=by
 refine zi func234 y kz y y<|A ?_;obtain ⟨e,f,h⟩:=bs h;refine A ?_;exact RT0
instance (a:List zj)(b:T0)(c:T0)(d:Bool):PF prog 234 [.isl 3 (map zv a),.fn (.func 235) [] [.ipt 1 [[.fn (.func 150) [] []]] 0 0,.ipt 3 [[sA b,sA c,bA d]] 0 0]] (zao a b c d) bA:=⟨λ_=>zc5 a b c d⟩
def zmM(a:List zj)(b:Int):Option (Bool):=
  some (decide ((length a:Int)≤b))
def zgL(c:List zj)(b:Int):zL (Int) (Unit) (Bool):=
  cond (decide (b<(length c:Int))) ((idx c b).bind λa=>(zj6 a).bind λd=>(cond (!d) (some true) ((XJ c 0 b).bind λe=>(zao e a.Name a.Type_ a.Static).bind λf=>some f)).bind λi=>cond i (some (.inr (.inr false))) (some (.inl (i64.wrap (b+1))))) (some (.inr (.inl ())))
def zgi(a:List zj)(c:Int):Option (Bool):=
  (zp (λz=>zgL a z) 0).bind λo=>zH o (λb=>zmM a c) some
instance (f:List zj)(i:Int):PF prog 149 [.isl 3 (map zv f),iA i,.fn (.func 150) [] [],.fn (.func 151) [] []] (zgi f i) bA:=⟨λr h=>by
 refine zi func149 y kz y y<|A ?_;refine ze<|A ?_;obtain ⟨o,ho,h⟩:=bs h;refine lpB ho (λz=>[(0,.isl 3 (map zv f)),(1,iA i),(3,.fn (.func 151) [] []),(6,.mpt 0 0 0),(11,.isl 3 (map zv f)),(12,iA (length f:Int)),(13,iA z)]) (λz=>[some (1,[[.fn (.func 150) [] []]])]) (λb=>[(0,.isl 3 (map zv f)),(1,iA i)]) (λb=>[]) (pG f149 bA) (Xd [0]) ?_ ?_
 .rintro B r h;refine A ?_;refine ze ?_;apply Xa h y<;>intro n h
  .refine zd<|ze<|zh ?_;obtain ⟨e,C,h⟩:=bs h;refine A ?_;obtain ⟨D,p,q,d,h⟩:=bs2 h;refine rg y<|u<|mv y<|u<|ld ti y y<|u<|pc (zoo e p) y y y<|u<|nt y<|u<|mv y<|ZK (x:=q) (j:=4) 5 y y y y y gpn (λc=>by replace d:=bF c d;obtain ⟨s,l,d⟩:=bs d;obtain ⟨E,v,d⟩:=bs d;obtain rfl:=sm d;exact g y c<|mv y<|g y c<|mv y<|g y c<|slI (a:=0) (b:=B) ti y ti y y y (DA y l) l<|g y c<|mf y y<|g y c<|pcs (zc5 s e.Name e.Type_ e.Static v) y y (.cons (si y) (.cons (Zt t ⟨(XO y ⟨(si y),t⟩),(XO y ⟨(si y),(si y),(si y),t⟩),t⟩) .nil)) XD<|zo (eg [23,24,25,26,27] 5 y y y y)) (λhb=>(sm (bT hb d)).symm)<|zo ?_;apply Xa h y<;>intro m h
   .refine A ?_;refine zy ?_;cases h;exact ⟨_,y,_,y,Xb []⟩
   .refine zd<|A ?_;cases h;exact ⟨_,y,zl [0]⟩
  .refine zs ?_;cases h;exact ⟨y,_,y,zl []⟩
 .rintro ⟨⟩ rfl;refine zm<|A ?_
  exact RT0⟩
def zlS(a:T0):Option (Bool):=
  (G9 a).bind λb=>some (!b)
instance (a:T0):PF prog 324 [sA a,.ipt 1 [[.fn (.func 153) [] []]] 0 0] (zlS a) bA:=⟨λr h=>by
 refine zi func324 y kz y y<|A ?_;obtain ⟨b,c,h⟩:=bs h;refine A ?_
 exact RT0⟩
def zfE:Option (Int):=
  some (-1)
def zbN(b:T1)(a:Int):zL (Int) (Unit) (Int):=
  cond (decide (a<(length b:Int))) ((idx b a).bind λc=>(zlS c).bind λd=>cond d (some (.inr (.inr a))) (some (.inl (i64.wrap (a+1))))) (some (.inr (.inl ())))
def zd8(a:T1):Option (Int):=
  (zp (λz=>zbN a z) 0).bind λo=>zH o (λb=>zfE) some
instance (a:T1):PF prog 181 [tL a,.fn (.func 324) [] [.ipt 1 [[.fn (.func 153) [] []]] 0 0]] (zd8 a) iA:=⟨λr h=>by
 refine zi func181 y kz y y<|A ?_;refine ze<|A ?_;obtain ⟨o,ho,h⟩:=bs h;refine lpB ho (λz=>[(0,tL a),(1,.fn (.func 324) [] [.ipt 1 [[.fn (.func 153) [] []]] 0 0]),(7,iA (length a:Int)),(8,iA z)]) (λz=>[]) (λb=>[]) (λb=>[]) (pG f181 iA) (Xd []) ?_ ?_
 .rintro e r h;refine A ?_;refine ze ?_;apply Xa h y<;>intro c h
  .refine zd<|ze<|zh<|A ?_;obtain ⟨f,i,j,l,h⟩:=bs2 h;refine A ?_;apply Xa h y<;>intro d h
   .refine A ?_;refine zy ?_;cases h;exact ⟨_,y,_,y,Xb []⟩
   .refine zd<|A ?_;cases h;exact ⟨_,y,zl []⟩
  .refine zs ?_;cases h;exact ⟨y,_,y,zl []⟩
 .rintro ⟨⟩ rfl;refine zm<|A ?_
  exact RT0⟩
def zbM(a:T1):Option (Bool):=
  (zd8 a).bind λb=>some (decide (0≤b))
theorem zeI(a:T1){r:Bool}(h:zbM a=some r):Xm prog 99 [tL a,.fn (.func 324) [] [.ipt 1 [[.fn (.func 153) [] []]] 0 0]] (bA r):=by
 refine zi func99 y kz y y<|A ?_;obtain ⟨b,c,h⟩:=bs h;refine A ?_;exact RT0
instance (a:T1):PF prog 99 [tL a,.fn (.func 324) [] [.ipt 1 [[.fn (.func 153) [] []]] 0 0]] (zbM a) bA:=⟨λ_=>zeI a⟩
def zlR(a:T1):Option (Bool):=
  (zbM a).bind λb=>some (!b)
instance (a:T1):PF prog 241 [tL a,.fn (.func 153) [] []] (zlR a) bA:=⟨λr h=>by
 refine zi func241 y kz y y<|A ?_;obtain ⟨c,b,h⟩:=bs h;refine A ?_;refine u<|pcs (zeI a b) y y (.cons (si y) (.cons (Zt t ⟨(XO y ⟨(si y),t⟩),t⟩) .nil)) XD<|A ?_
 exact RT0⟩
def zq8(a:T0):Option (Bool):=
  (cond (a == [86]) (some true) ((G9 a).bind λb=>some b)).bind λc=>some c
instance (a:T0):PF prog 242 [sA a] (zq8 a) bA:=⟨λr h=>by
 refine zi func242 y kz y y<|A ?_;obtain ⟨b,c,h⟩:=bs h;refine A ?_
 exact RT0⟩
def HT(a:zb):Bool:=
  (((((!a.Static)&&(!(a.Name == [36,105,110,105,116])))&&(a.Locals == 0))&&(a.Stack == 0))&&((i64.wrap ((i64.wrap ((length a.Code:Int)+(length a.Maps:Int)))+(length a.Traps:Int))) == 0))
instance (a:zb):PF prog 243 [.agg (zc a)] (some (HT a)) bA:=.of λr h=>by
 refine zi func243 y kz y y ?_;unfold HT at h;refine A ?_;refine A ?_;refine zy ?_;obtain rfl:=h;exact ⟨_,y,Xb []⟩
def Zh(a:zb):Int:=
  cond a.Static ((length a.Params:Int)) ((i64.wrap ((length a.Params:Int)+1)))
theorem zjJ(a:zb){r:Int}(h:Zh a=r):Xm prog 245 [.agg (zc a)] (iA r):=by
 refine zi func245 y kz y y<|A ?_;refine ze<|A ?_;apply Xa h y<;>intro b h
 .refine A ?_;refine zy ?_;obtain rfl:=h;exact ⟨_,y,Xb []⟩
 .refine zd<|A ?_;refine zy ?_;obtain rfl:=h;exact ⟨_,y,Xb []⟩
instance (a:zb):PF prog 245 [.agg (zc a)] (some (Zh a)) iA:=.of λ_=>zjJ a
def zu(a:Int)(b:Int)(c:Int):Bool:=
  ((decide (b≤a))&&(decide (a≤c)))
theorem Ec(a:Int)(b:Int)(c:Int){r:Bool}(h:zu a b c=r):Xm prog 244 [iA a,iA b,iA c] (bA r):=by
 refine zi func244 y kz y y ?_;unfold zu at h;refine A ?_;refine A ?_;refine zy ?_;obtain rfl:=h;exact ⟨_,y,Xb []⟩
instance (a:Int)(b:Int)(c:Int):PF prog 244 [iA a,iA b,iA c] (some (zu a b c)) bA:=.of λ_=>Ec a b c
def zhs(a:zr)(b:Int):Option (Bool):=
  (zxQ a).bind λc=>some ((!c)||((UN a.Op)&&(decide (b≤a.A))))
instance (a:zr)(b:Int):PF prog 325 [.agg (zn a),.ipt 1 [[iA b]] 0 0] (zhs a b) bA:=⟨λr h=>by
 refine zi func325 y kz y y<|A ?_;obtain ⟨c,d,h⟩:=bs h;refine A ?_
 exact RT0⟩
def ze1:Option (Int):=
  some (-1)
def zbs(b:List zr)(c:Int)(a:Int):zL (Int) (Unit) (Int):=
  cond (decide (a<(length b:Int))) ((idx b a).bind λd=>(zhs d c).bind λe=>cond e (some (.inr (.inr a))) (some (.inl (i64.wrap (a+1))))) (some (.inr (.inl ())))
def zdc(a:List zr)(c:Int):Option (Int):=
  (zp (λz=>zbs a c z) 0).bind λo=>zH o (λb=>ze1) some
instance (a:List zr)(c:Int):PF prog 349 [.isl 4 (map zn a),.fn (.func 325) [] [.ipt 1 [[iA c]] 0 0]] (zdc a c) iA:=⟨λr h=>by
 refine zi func349 y kz y y<|A ?_;refine ze<|A ?_;obtain ⟨o,ho,h⟩:=bs h;refine lpB ho (λz=>[(0,.isl 4 (map zn a)),(1,.fn (.func 325) [] [.ipt 1 [[iA c]] 0 0]),(7,iA (length a:Int)),(8,iA z)]) (λz=>[]) (λb=>[]) (λb=>[]) (pG f349 iA) (Xd []) ?_ ?_
 .rintro f r h;refine A ?_;refine ze ?_;apply Xa h y<;>intro d h
  .refine zd<|ze<|zh<|A ?_;obtain ⟨i,j,l,m,h⟩:=bs2 h;refine A ?_;apply Xa h y<;>intro e h
   .refine A ?_;refine zy ?_;cases h;exact ⟨_,y,_,y,Xb []⟩
   .refine zd<|A ?_;cases h;exact ⟨_,y,zl []⟩
  .refine zs ?_;cases h;exact ⟨y,_,y,zl []⟩
 .rintro ⟨⟩ rfl;refine zm<|A ?_
  exact RT0⟩
def zaL(a:List zr)(b:Int):Option (Bool):=
  (zdc a b).bind λc=>some (decide (0≤c))
theorem zek(a:List zr)(b:Int){r:Bool}(h:zaL a b=some r):Xm prog 304 [.isl 4 (map zn a),.fn (.func 325) [] [.ipt 1 [[iA b]] 0 0]] (bA r):=by
 refine zi func304 y kz y y<|A ?_;obtain ⟨c,d,h⟩:=bs h;refine A ?_;exact RT0
instance (a:List zr)(b:Int):PF prog 304 [.isl 4 (map zn a),.fn (.func 325) [] [.ipt 1 [[iA b]] 0 0]] (zaL a b) bA:=⟨λ_=>zek a b⟩
def zfn(a:zb):Option (Bool):=
  (cond (!(zu (length a.Code:Int) 1 100)) (some true) ((idx a.Code (i64.wrap ((length a.Code:Int)-1))).bind λb=>some (!(GC b.Op)))).bind λc=>cond c (some false) ((zaL a.Code (length a.Code:Int)).bind λd=>some (!d))
theorem zja(a:zb){r:Bool}(h:zfn a=some r):Xm prog 246 [.agg (zc a)] (bA r):=by
 refine zi func246 y kz y y<|A ?_;refine A ?_;refine ze ?_;obtain ⟨d,e,h⟩:=bs h;refine A ?_;apply Xa h y<;>intro b h
 .refine A ?_;exact RT0
 .refine zd ?_;obtain ⟨f,c,h⟩:=bs h;refine A ?_;refine u<|pcs (zek a.Code (length a.Code:Int) c) y y (.cons (si y) (.cons (Zt t ⟨(XO y ⟨(si y),t⟩),t⟩) .nil)) XD<|A ?_;exact RT0
instance (a:zb):PF prog 246 [.agg (zc a)] (zfn a) bA:=⟨λ_=>zja a⟩
def znV(a:T0):Option (Bool):=
  (cond (((a == [73])||(a == [78]))||(a == [84])) (some true) ((WT a).bind λb=>some b)).bind λc=>some c
instance (a:T0):PF prog 327 [sA a] (znV a) bA:=⟨λr h=>by
 refine zi func327 y kz y y<|A ?_;obtain ⟨b,c,h⟩:=bs h;refine A ?_
 exact RT0⟩
def zjt(a:T0):Option (Bool):=
  (znV a).bind λb=>some (!b)
instance (a:T0):PF prog 324 [sA a,.ipt 1 [[.fn (.func 327) [] []]] 0 0] (zjt a) bA:=⟨λr h=>by
 refine zi func324 y kz y y<|A ?_;obtain ⟨b,c,h⟩:=bs h;refine A ?_
 exact RT0⟩
def zeJ:Option (Int):=
  some (-1)
def zbh(b:T1)(a:Int):zL (Int) (Unit) (Int):=
  cond (decide (a<(length b:Int))) ((idx b a).bind λc=>(zjt c).bind λd=>cond d (some (.inr (.inr a))) (some (.inl (i64.wrap (a+1))))) (some (.inr (.inl ())))
def zcQ(a:T1):Option (Int):=
  (zp (λz=>zbh a z) 0).bind λo=>zH o (λb=>zeJ) some
instance (a:T1):PF prog 181 [tL a,.fn (.func 324) [] [.ipt 1 [[.fn (.func 327) [] []]] 0 0]] (zcQ a) iA:=⟨λr h=>by
 refine zi func181 y kz y y<|A ?_;refine ze<|A ?_;obtain ⟨o,ho,h⟩:=bs h;refine lpB ho (λz=>[(0,tL a),(1,.fn (.func 324) [] [.ipt 1 [[.fn (.func 327) [] []]] 0 0]),(7,iA (length a:Int)),(8,iA z)]) (λz=>[]) (λb=>[]) (λb=>[]) (pG f181 iA) (Xd []) ?_ ?_
 .rintro e r h;refine A ?_;refine ze ?_;apply Xa h y<;>intro c h
  .refine zd<|ze<|zh<|A ?_;obtain ⟨f,i,j,l,h⟩:=bs2 h;refine A ?_;apply Xa h y<;>intro d h
   .refine A ?_;refine zy ?_;cases h;exact ⟨_,y,_,y,Xb []⟩
   .refine zd<|A ?_;cases h;exact ⟨_,y,zl []⟩
  .refine zs ?_;cases h;exact ⟨y,_,y,zl []⟩
 .rintro ⟨⟩ rfl;refine zm<|A ?_
  exact RT0⟩
def zbd(a:T1):Option (Bool):=
  (zcQ a).bind λb=>some (decide (0≤b))
theorem zd1(a:T1){r:Bool}(h:zbd a=some r):Xm prog 99 [tL a,.fn (.func 324) [] [.ipt 1 [[.fn (.func 327) [] []]] 0 0]] (bA r):=by
 refine zi func99 y kz y y<|A ?_;obtain ⟨b,c,h⟩:=bs h;refine A ?_;exact RT0
instance (a:T1):PF prog 99 [tL a,.fn (.func 324) [] [.ipt 1 [[.fn (.func 327) [] []]] 0 0]] (zbd a) bA:=⟨λ_=>zd1 a⟩
def zhw(a:T1):Option (Bool):=
  (zbd a).bind λb=>some (!b)
instance (a:T1):PF prog 241 [tL a,.fn (.func 327) [] []] (zhw a) bA:=⟨λr h=>by
 refine zi func241 y kz y y<|A ?_;obtain ⟨c,b,h⟩:=bs h;refine A ?_;refine u<|pcs (zd1 a b) y y (.cons (si y) (.cons (Zt t ⟨(XO y ⟨(si y),t⟩),t⟩) .nil)) XD<|A ?_
 exact RT0⟩
def zgF:Option (Int):=
  some (-1)
def zcn(b:T1)(c:T0)(a:Int):zL (Int) (Unit) (Int):=
  cond (decide (a<(length b:Int))) ((idx b a).bind λd=>cond (c == d) (some (.inr (.inr a))) (some (.inl (i64.wrap (a+1))))) (some (.inr (.inl ())))
def zfa(a:T1)(c:T0):Option (Int):=
  (zp (λz=>zcn a c z) 0).bind λo=>zH o (λb=>zgF) some
instance (a:T1)(c:T0):PF prog 131 [tL a,sA c] (zfa a c) iA:=⟨λr h=>by
 refine zi func131 y kz y y<|A ?_;refine ze<|A ?_;obtain ⟨o,ho,h⟩:=bs h;refine lpB ho (λz=>[(0,tL a),(1,sA c),(7,iA (length a:Int)),(8,iA z)]) (λz=>[]) (λb=>[]) (λb=>[]) (pG f131 iA) (Xd []) ?_ ?_
 .rintro f r h;refine A ?_;refine ze ?_;apply Xa h y<;>intro d h
  .refine zd<|ze<|zh<|A ?_;obtain ⟨i,j,h⟩:=bs h;refine A ?_;apply Xa h y<;>intro e h
   .refine A ?_;refine zy ?_;cases h;exact ⟨_,y,_,y,Xb []⟩
   .refine zd<|A ?_;cases h;exact ⟨_,y,zl []⟩
  .refine zs ?_;cases h;exact ⟨y,_,y,zl []⟩
 .rintro ⟨⟩ rfl;refine zm<|A ?_
  exact RT0⟩
def zR(a:T1)(b:T0):Option (Bool):=
  (zfa a b).bind λc=>some (decide (0≤c))
theorem E3(a:T1)(b:T0){r:Bool}(h:zR a b=some r):Xm prog 136 [tL a,sA b] (bA r):=by
 refine zi func136 y kz y y<|A ?_;obtain ⟨c,d,h⟩:=bs h;refine A ?_;exact RT0
instance (a:T1)(b:T0):PF prog 136 [tL a,sA b] (zR a b) bA:=⟨λ_=>E3 a b⟩
def zty(a:zb):Option (Bool):=
  some (decide ((length a.Maps:Int)≤100))
def OT(b:zb)(c:Int)(a:zS)(d:Bool):zL (Int) (Unit) (Bool):=
  cond d (some (.inr (.inr false))) ((cond ((!((length a.Locals:Int) == b.Locals))||(decide (b.Stack<(length a.Stack:Int)))) (some true) ((zhw a.Locals).bind λe=>some (!e))).bind λf=>(cond f (some true) ((zhw a.Stack).bind λi=>some (!i))).bind λj=>(cond j (some true) ((zR a.Stack [84]).bind λl=>some l)).bind λm=>cond m (some (.inr (.inr false))) (some (.inl (i64.wrap (c+1)))))
def OS(c:zb)(a:Int):zL (Int) (Unit) (Bool):=
  cond (decide (a<(length c.Maps:Int))) ((idx c.Maps a).bind λb=>cond (!(zu b.At 0 (i64.wrap ((length c.Code:Int)-1)))) (OT c a b true) (cond (decide (0<a)) ((idx c.Maps (i64.wrap (a-1))).bind λd=>OT c a b (decide (b.At≤d.At))) (OT c a b false))) (some (.inr (.inl ())))
def znT(a:zb):Option (Bool):=
  (zp (λz=>OS a z) 0).bind λo=>zH o (λb=>zty a) some
instance (a:zb):PF prog 247 [.agg (zc a)] (znT a) bA:=⟨λr h=>by
 refine zi func247 y kz y y<|A ?_;refine ze<|A ?_;obtain ⟨o,ho,h⟩:=bs h;refine lpB ho (λz=>[(1,.mpt 0 0 0),(6,.isl 3 (map zA a.Maps)),(7,iA (length a.Maps:Int)),(8,iA z)]) (λz=>[some (10,[(zc a)])]) (λb=>[(1,.mpt 0 0 0)]) (λb=>[some (10,[(zc a)])]) (pG f247 bA) (Xd [0]) ?_ ?_
 .rintro f r h;refine A ?_;refine ze ?_;apply Xa h y<;>intro i h
  .refine zd<|ze<|zh ?_;obtain ⟨e,n,h⟩:=bs h;refine A ?_;refine ze ?_;refine Xz (X:=Bool) (λz=>[(1,.mpt 0 0 0),(4,.mpt 1 0 0),(6,.isl 3 (map zA a.Maps)),(7,iA (length a.Maps:Int)),(8,iA f),(36,bA z)]) (λz=>[some (10,[(zc a)]),some (3,[(zA e)])]) (λz=>OT a f e z=some r) ?_ ?_
   .rcases bb (!(zu e.At 0 (i64.wrap ((length a.Code:Int)-1)))) with c |c
    .replace h:=bT c h;exact rdQ [] [0,1,2,3,4,5,6,7,8,9,10,11,12,13,14,15,16,17,18,19,20,21,22,23] [(36,_),(35,_),(34,_),(33,_),(32,_),(31,_),(30,_),(29,_),(28,_),(27,_),(26,_),(25,_),(24,_),(23,_),(22,_),(21,_),(20,_),(19,_),(18,_),(17,_),(16,_),(15,_),(14,_),(13,_)] 0 (Xk (z:=by exact ⟨true,h,Xd [0,1]⟩))
    .replace h:=bF c h
     rcases bb (decide (0<f)) with d |d
     .replace h:=bT d h;obtain ⟨m,p,h⟩:=bs h;exact rdQ [] [0,1,2,3,4,5,6,7,8,9,10,11,12,13,14,15,16,17,18,19,20,21,22,23] [(36,_),(35,_),(34,_),(33,_),(32,_),(31,_),(30,_),(29,_),(28,_),(27,_),(26,_),(25,_),(24,_),(23,_),(22,_),(21,_),(20,_),(19,_),(18,_),(17,_),(16,_),(15,_),(14,_),(13,_)] 0 (Xk (z:=by exact ⟨(decide (e.At≤m.At)),h,Xd [0,1]⟩))
     .replace h:=bF d h;exact rdQ [] [0,1,2,3,4,5,6,7,8,9,10,11,12,13,14,15,16,17,18,19,20,21,22,23] [(36,_),(35,_),(34,_),(33,_),(32,_),(31,_),(30,_),(29,_),(28,_),(27,_),(26,_),(25,_),(24,_),(23,_),(22,_),(21,_),(20,_),(19,_),(18,_),(17,_),(16,_),(15,_),(14,_),(13,_)] 0 (Xk (z:=by exact ⟨false,h,Xd [0,1]⟩))
   .rintro q h;apply Xa h y<;>intro j h
    .refine A ?_;refine zy ?_;cases h;exact ⟨_,y,_,y,Xb []⟩
    .refine zd ?_;obtain ⟨s,v,x,B,C,D,h⟩:=bs3 h;refine A ?_;apply Xa h y<;>intro l h
     .refine A ?_;refine zy ?_;cases h;exact ⟨_,y,_,y,Xb []⟩
     .refine zd<|A ?_;cases h;exact ⟨_,y,zl [0]⟩
  .refine zs ?_;cases h;exact ⟨y,_,y,zl [0]⟩
 .rintro ⟨⟩ rfl;refine zm<|A ?_
  exact RT0⟩
def zlQ(a:zT)(j:T0)(l:T1)(m:T0)(n:Bool)(o:Bool)(p:Int)(q:Int)(b:List zr)(f:List zS)(i:List zT):Option (Bool):=
  (cond ((((decide (a.From<0))||(decide (a.To≤a.From)))||(decide ((length b:Int)<a.To)))||(!(zu a.At 0 (i64.wrap ((length b:Int)-1))))) (some true) ((cond (!(a.C == [])) ((HQ a.C).bind λc=>some (!c)) (some false)).bind λd=>some d)).bind λe=>some e
instance (c:zT)(d:T0)(e:T1)(f:T0)(i:Bool)(j:Bool)(l:Int)(m:Int)(n:List zr)(a:List zS)(b:List zT):PF prog 328 [.agg (zY c),.ipt 10 [[sA d,tL e,sA f,bA i,bA j,iA l,iA m,.isl 4 (map zn n),.isl 3 (map zA a),.isl 4 (map zY b)]] 0 0] (zlQ c d e f i j l m n a b) bA:=⟨λr h=>by
 refine zi func328 y kz y y<|A ?_;obtain ⟨o,p,h⟩:=bs h;refine A ?_
 exact RT0⟩
def zet:Option (Int):=
  some (-1)
def zba(b:List zT)(i:T0)(j:T1)(l:T0)(m:Bool)(n:Bool)(o:Int)(p:Int)(q:List zr)(c:List zS)(d:List zT)(a:Int):zL (Int) (Unit) (Int):=
  cond (decide (a<(length b:Int))) ((idx b a).bind λe=>(zlQ e i j l m n o p q c d).bind λf=>cond f (some (.inr (.inr a))) (some (.inl (i64.wrap (a+1))))) (some (.inr (.inl ())))
def zcy(d:List zT)(e:T0)(f:T1)(i:T0)(j:Bool)(l:Bool)(m:Int)(n:Int)(p:List zr)(a:List zS)(c:List zT):Option (Int):=
  (zp (λz=>zba d e f i j l m n p a c z) 0).bind λo=>zH o (λb=>zet) some
instance (d:List zT)(e:T0)(f:T1)(i:T0)(j:Bool)(l:Bool)(m:Int)(n:Int)(p:List zr)(a:List zS)(c:List zT):PF prog 348 [.isl 4 (map zY d),.fn (.func 328) [] [.ipt 10 [[sA e,tL f,sA i,bA j,bA l,iA m,iA n,.isl 4 (map zn p),.isl 3 (map zA a),.isl 4 (map zY c)]] 0 0]] (zcy d e f i j l m n p a c) iA:=⟨λr h=>by
 refine zi func348 y kz y y<|A ?_;refine ze<|A ?_;obtain ⟨o,ho,h⟩:=bs h;refine lpB ho (λz=>[(0,.isl 4 (map zY d)),(1,.fn (.func 328) [] [.ipt 10 [[sA e,tL f,sA i,bA j,bA l,iA m,iA n,.isl 4 (map zn p),.isl 3 (map zA a),.isl 4 (map zY c)]] 0 0]),(7,iA (length d:Int)),(8,iA z)]) (λz=>[]) (λb=>[]) (λb=>[]) (pG f348 iA) (Xd []) ?_ ?_
 .rintro v r h;refine A ?_;refine ze ?_;apply Xa h y<;>intro q h
  .refine zd<|ze<|zh<|A ?_;obtain ⟨x,C,B,D,h⟩:=bs2 h;refine A ?_;apply Xa h y<;>intro s h
   .refine A ?_;refine zy ?_;cases h;exact ⟨_,y,_,y,Xb []⟩
   .refine zd<|A ?_;cases h;exact ⟨_,y,zl []⟩
  .refine zs ?_;cases h;exact ⟨y,_,y,zl []⟩
 .rintro ⟨⟩ rfl;refine zm<|A ?_
  exact RT0⟩
def za9(d:List zT)(e:T0)(f:T1)(i:T0)(j:Bool)(l:Bool)(m:Int)(n:Int)(o:List zr)(a:List zS)(b:List zT):Option (Bool):=
  (zcy d e f i j l m n o a b).bind λc=>some (decide (0≤c))
theorem zdK(c:List zT)(d:T0)(e:T1)(f:T0)(i:Bool)(j:Bool)(l:Int)(m:Int)(n:List zr)(a:List zS)(b:List zT){r:Bool}(h:za9 c d e f i j l m n a b=some r):Xm prog 302 [.isl 4 (map zY c),.fn (.func 328) [] [.ipt 10 [[sA d,tL e,sA f,bA i,bA j,iA l,iA m,.isl 4 (map zn n),.isl 3 (map zA a),.isl 4 (map zY b)]] 0 0]] (bA r):=by
 refine zi func302 y kz y y<|A ?_;obtain ⟨o,p,h⟩:=bs h;refine A ?_;exact RT0
instance (c:List zT)(d:T0)(e:T1)(f:T0)(i:Bool)(j:Bool)(l:Int)(m:Int)(n:List zr)(a:List zS)(b:List zT):PF prog 302 [.isl 4 (map zY c),.fn (.func 328) [] [.ipt 10 [[sA d,tL e,sA f,bA i,bA j,iA l,iA m,.isl 4 (map zn n),.isl 3 (map zA a),.isl 4 (map zY b)]] 0 0]] (za9 c d e f i j l m n a b) bA:=⟨λ_=>zdK c d e f i j l m n a b⟩
def zlP(a:zb):Option (Bool):=
  (za9 a.Traps a.Name a.Params a.Ret a.Static a.Abstract a.Locals a.Stack a.Code a.Maps a.Traps).bind λb=>some ((!b)&&(decide ((length a.Traps:Int)≤6)))
instance (a:zb):PF prog 248 [.agg (zc a)] (zlP a) bA:=⟨λr h=>by
 refine zi func248 y kz y y<|A ?_;obtain ⟨c,b,h⟩:=bs h;refine A ?_;refine u<|pcs (zdK a.Traps a.Name a.Params a.Ret a.Static a.Abstract a.Locals a.Stack a.Code a.Maps a.Traps b) y y (.cons (si y) (.cons (Zt t ⟨(XO y ⟨(si y),(si y),(si y),(si y),(si y),(si y),(si y),(si y),(si y),(si y),t⟩),t⟩) .nil)) XD<|A ?_;refine A ?_
 exact RT0⟩
def Ef(a:Bool):Option (Bool):=
  some a
def zkO(a:zb):Option (Bool):=
  (Oj a.Name).bind λb=>(cond ((!b)||(decide (6<(length a.Params:Int)))) (some true) ((zlR a.Params).bind λc=>some (!c))).bind λd=>(cond d (some true) ((zq8 a.Ret).bind λe=>some (!e))).bind λf=>cond f (some false) (cond a.Abstract (some (HT a)) (cond ((a.Name == [36,105,110,105,116])&&(((!a.Static)||(decide (0<(length a.Params:Int))))||(!(a.Ret == [86])))) (some false) (cond (zu a.Locals (Zh a) 16) (cond (zu a.Stack 0 16) ((zfn a).bind λi=>cond i ((znT a).bind λj=>cond j ((zlP a).bind λl=>Ef l) (Ef false)) (Ef false)) (Ef false)) (Ef false))))
instance (a:zb):PF prog 157 [.agg (zc a)] (zkO a) bA:=⟨λr h=>by
 refine zi func157 y kz y y<|A ?_;refine ze ?_;obtain ⟨x,B,C,D,E,F,h⟩:=bs3 h;refine A ?_;apply Xa h y<;>intro m h
 .refine A ?_;exact RT0
 .refine zd<|ze<|A ?_;apply Xa h y<;>intro j h
  .refine A ?_;exact RT0
  .refine zd<|ze<|A ?_;apply Xa h y<;>intro l h
   .refine A ?_;exact RT0
   .refine zd ?_;refine Xz (X:=Bool) (λz=>[(2,bA z)]) (λz=>[]) (λz=>Ef z=some r) ?_ ?_
    .rcases bb (zu a.Locals (Zh a) 16) with c |c
     .replace h:=bT c h
      rcases bb (zu a.Stack 0 16) with d |d
      .replace h:=bT d h;obtain ⟨i,n,h⟩:=bs h
       rcases bb i with e |e
       .replace h:=bT e h;obtain ⟨o,q,h⟩:=bs h
        rcases bb o with f |f
        .replace h:=bT f h;obtain ⟨p,s,h⟩:=bs h;exact rdQ [] [0,1,2,3,4,5,6,7,8,9,10,11,12,13,14,15,16,17,18,19,20,21,22] [(2,_),(69,_),(68,_),(67,_),(66,_),(65,_),(64,_),(63,_),(62,_),(61,_),(60,_),(59,_),(58,_),(57,_),(56,_),(55,_),(54,_),(53,_),(52,_),(51,_),(50,_),(49,_),(48,_)] 0 (Xk (z:=by exact ⟨p,h,Xd []⟩))
        .replace h:=bF f h;exact rdQ [] [0,1,2,3,4,5,6,7,8,9,10,11,12,13,14,15,16,17,18,19,20,21,22] [(2,_),(69,_),(68,_),(67,_),(66,_),(65,_),(64,_),(63,_),(62,_),(61,_),(60,_),(59,_),(58,_),(57,_),(56,_),(55,_),(54,_),(53,_),(52,_),(51,_),(50,_),(49,_),(48,_)] 0 (Xk (z:=by exact ⟨false,h,Xd []⟩))
       .replace h:=bF e h;exact Gk [] [22,21,20,19,18,17,16,15,14,13,12,11,10,9,8,7,6,5,4,3,2,1,0] [(2,bA false),(69,bA false),(68,.lit undef),(67,.lit undef),(66,bA false),(65,bA false),(64,.lit undef),(63,.lit undef),(62,bA i),(61,bA i),(60,bA i),(59,.agg (zc a)),(58,bA (zu a.Stack 0 16)),(57,bA (zu a.Stack 0 16)),(56,bA (zu a.Stack 0 16)),(55,iA a.Stack),(54,.mpt 0 0 6),(53,bA (zu a.Locals (Zh a) 16)),(52,bA (zu a.Locals (Zh a) 16)),(51,iA (Zh a)),(50,.agg (zc a)),(49,iA a.Locals),(48,.mpt 0 0 5)] 0 kz kz y kz (ZC ⟨pe,pe,pe,pe,pe,pe,pe,pe,pe,pe,(λ_=>pag (b:=(zu a.Stack 0 16)) y y y y d y (pc (zja a n) y y y<|w)),(λ_=>pag (b:=(zu a.Stack 0 16)) y y y y d y (ld ti y y<|w)),pe,pe,(λ_=>pag (b:=(zu a.Locals (Zh a) 16)) y y y y c y (pc (Ec a.Stack 0 16 y) y y y<|w)),(λ_=>pag (b:=(zu a.Locals (Zh a) 16)) y y y y c y (ld ti y y<|w)),(λ_=>pag (b:=(zu a.Locals (Zh a) 16)) y y y y c y (fa ti y y y<|w)),pe,(pb y (pc (Ec a.Locals (Zh a) 16 y) y y y w)),(pb y (pc (zjJ a y) y y y w)),(pb y (ld ti y y w)),(pb y (ld ti y y w)),(pb y (fa ti y y y w)),t⟩ ⟨false,h,zl []⟩)
      .replace h:=bF d h;exact Gk [] [22,21,20,19,18,17,16,15,14,13,12,11,10,9,8,7,6,5,4,3,2,1,0] [(2,bA false),(69,bA false),(68,.lit undef),(67,.lit undef),(66,bA false),(65,bA false),(64,.lit undef),(63,.lit undef),(62,bA false),(61,bA false),(60,.lit undef),(59,.lit undef),(58,bA (zu a.Stack 0 16)),(57,bA (zu a.Stack 0 16)),(56,bA (zu a.Stack 0 16)),(55,iA a.Stack),(54,.mpt 0 0 6),(53,bA (zu a.Locals (Zh a) 16)),(52,bA (zu a.Locals (Zh a) 16)),(51,iA (Zh a)),(50,.agg (zc a)),(49,iA a.Locals),(48,.mpt 0 0 5)] 0 kz kz y kz (ZC ⟨pe,pe,pe,pe,pe,pe,pe,pe,pe,pe,pe,pe,pe,pe,(λ_=>pag (b:=(zu a.Locals (Zh a) 16)) y y y y c y (pc (Ec a.Stack 0 16 y) y y y<|w)),(λ_=>pag (b:=(zu a.Locals (Zh a) 16)) y y y y c y (ld ti y y<|w)),(λ_=>pag (b:=(zu a.Locals (Zh a) 16)) y y y y c y (fa ti y y y<|w)),pe,(pb y (pc (Ec a.Locals (Zh a) 16 y) y y y w)),(pb y (pc (zjJ a y) y y y w)),(pb y (ld ti y y w)),(pb y (ld ti y y w)),(pb y (fa ti y y y w)),t⟩ ⟨false,h,zl []⟩)
     .replace h:=bF c h;exact Gk [] [22,21,20,19,18,17,16,15,14,13,12,11,10,9,8,7,6,5,4,3,2,1,0] [(2,bA false),(69,bA false),(68,.lit undef),(67,.lit undef),(66,bA false),(65,bA false),(64,.lit undef),(63,.lit undef),(62,bA false),(61,bA false),(60,.lit undef),(59,.lit undef),(58,bA false),(57,bA false),(56,.lit undef),(55,.lit undef),(54,.lit undef),(53,bA (zu a.Locals (Zh a) 16)),(52,bA (zu a.Locals (Zh a) 16)),(51,iA (Zh a)),(50,.agg (zc a)),(49,iA a.Locals),(48,.mpt 0 0 5)] 0 kz kz y kz (ZC ⟨pe,pe,pe,pe,pe,pe,pe,pe,pe,pe,pe,pe,pe,pe,pe,pe,pe,pe,(pb y (pc (Ec a.Locals (Zh a) 16 y) y y y w)),(pb y (pc (zjJ a y) y y y w)),(pb y (ld ti y y w)),(pb y (ld ti y y w)),(pb y (fa ti y y y w)),t⟩ ⟨false,h,zl []⟩)
    .rintro v h
     exact RT0⟩
def zlN(a:zb)(e:T0)(f:T0)(b:Bool)(i:T1)(j:List zj)(l:List zb):Option (Bool):=
  (cond (a.Abstract == b) ((zkO a).bind λc=>some c) (some false)).bind λd=>some d
theorem zoq(a:zb)(b:T0)(c:T0)(d:Bool)(e:T1)(f:List zj)(i:List zb){r:Bool}(h:zlN a b c d e f i=some r):Xm prog 156 [.agg (zc a),.ipt 6 [[sA b,sA c,bA d,tL e,.isl 3 (map zv f),.isl 10 (map zc i)]] 0 0] (bA r):=by
 refine zi func156 y kz y y<|A ?_;obtain ⟨j,l,h⟩:=bs h;refine A ?_;exact RT0
instance (a:zb)(b:T0)(c:T0)(d:Bool)(e:T1)(f:List zj)(i:List zb):PF prog 156 [.agg (zc a),.ipt 6 [[sA b,sA c,bA d,tL e,.isl 3 (map zv f),.isl 10 (map zc i)]] 0 0] (zlN a b c d e f i) bA:=⟨λ_=>zoq a b c d e f i⟩
def zj7(a:zb):T0:=
  a.Name
theorem zop(a:zb){r:T0}(h:zj7 a=r):Xm prog 155 [.agg (zc a)] (sA r):=by
 refine zi func155 y kz y y ?_;unfold zj7 at h;refine A ?_;refine A ?_;refine zy ?_;obtain rfl:=h;exact ⟨_,y,Xb []⟩
instance (a:zb):PF prog 155 [.agg (zc a)] (some (zj7 a)) sA:=.of λ_=>zop a
def zgM(c:zb)(d:T0)(e:T1)(f:T0)(i:Bool)(j:Bool)(l:Int)(m:Int)(n:List zr)(a:List zS)(b:List zT):Bool:=
  ((zj7 (zb.mk d e f i j l m n a b)) == (zj7 c))
instance (n:zb)(c:T0)(d:T1)(e:T0)(f:Bool)(i:Bool)(j:Int)(l:Int)(m:List zr)(a:List zS)(b:List zT):PF prog 240 [.agg (zc n),.ipt 1 [[.fn (.func 155) [] []]] 0 0,.ipt 10 [[sA c,tL d,sA e,bA f,bA i,iA j,iA l,.isl 4 (map zn m),.isl 3 (map zA a),.isl 4 (map zY b)]] 0 0] (some (zgM n c d e f i j l m a b)) bA:=.of λr h=>by
 refine zi func240 y kz y y ?_;unfold zgM at h;refine A ?_;refine rdA [(4,_)] [] [] [0,1,2,3,4,5,6,7] [(4,_),(11,_),(10,_),(9,_),(8,_),(7,_),(6,_),(5,_)] 0 (Xk ⟨peC,peC,(by exact pb y (pc (zop (zb.mk c d e f i j l m a b) y) y y y<|w)),peC,peC,peC,peC,peC,t⟩ (Xd [])) ?_;refine zy ?_;obtain rfl:=h;exact ⟨_,y,Xb []⟩
def zdg:Option (Int):=
  some (-1)
def zaO(b:List zb)(f:T0)(i:T1)(j:T0)(l:Bool)(m:Bool)(n:Int)(o:Int)(p:List zr)(c:List zS)(d:List zT)(a:Int):zL (Int) (Unit) (Int):=
  cond (decide (a<(length b:Int))) ((idx b a).bind λe=>cond (zgM e f i j l m n o p c d) (some (.inr (.inr a))) (some (.inl (i64.wrap (a+1))))) (some (.inr (.inl ())))
def zb1(d:List zb)(e:T0)(f:T1)(i:T0)(j:Bool)(l:Bool)(m:Int)(n:Int)(p:List zr)(a:List zS)(c:List zT):Option (Int):=
  (zp (λz=>zaO d e f i j l m n p a c z) 0).bind λo=>zH o (λb=>zdg) some
instance (d:List zb)(e:T0)(f:T1)(i:T0)(j:Bool)(l:Bool)(m:Int)(n:Int)(p:List zr)(a:List zS)(c:List zT):PF prog 225 [.isl 10 (map zc d),.fn (.func 240) [] [.ipt 1 [[.fn (.func 155) [] []]] 0 0,.ipt 10 [[sA e,tL f,sA i,bA j,bA l,iA m,iA n,.isl 4 (map zn p),.isl 3 (map zA a),.isl 4 (map zY c)]] 0 0]] (zb1 d e f i j l m n p a c) iA:=⟨λr h=>by
 refine zi func225 y kz y y<|A ?_;refine ze<|A ?_;obtain ⟨o,ho,h⟩:=bs h;refine lpB ho (λz=>[(0,.isl 10 (map zc d)),(1,.fn (.func 240) [] [.ipt 1 [[.fn (.func 155) [] []]] 0 0,.ipt 10 [[sA e,tL f,sA i,bA j,bA l,iA m,iA n,.isl 4 (map zn p),.isl 3 (map zA a),.isl 4 (map zY c)]] 0 0]),(7,iA (length d:Int)),(8,iA z)]) (λz=>[]) (λb=>[]) (λb=>[]) (pG f225 iA) (Xd []) ?_ ?_
 .rintro v r h;refine A ?_;refine ze ?_;apply Xa h y<;>intro q h
  .refine zd<|ze<|zh<|A ?_;obtain ⟨x,B,h⟩:=bs h;refine A ?_;apply Xa h y<;>intro s h
   .refine A ?_;refine zy ?_;cases h;exact ⟨_,y,_,y,Xb []⟩
   .refine zd<|A ?_;cases h;exact ⟨_,y,zl []⟩
  .refine zs ?_;cases h;exact ⟨y,_,y,zl []⟩
 .rintro ⟨⟩ rfl;refine zm<|A ?_
  exact RT0⟩
def zak(d:List zb)(e:T0)(f:T1)(i:T0)(j:Bool)(l:Bool)(m:Int)(n:Int)(o:List zr)(a:List zS)(b:List zT):Option (Bool):=
  (zb1 d e f i j l m n o a b).bind λc=>some (decide (0≤c))
theorem zcA(c:List zb)(d:T0)(e:T1)(f:T0)(i:Bool)(j:Bool)(l:Int)(m:Int)(n:List zr)(a:List zS)(b:List zT){r:Bool}(h:zak c d e f i j l m n a b=some r):Xm prog 239 [.isl 10 (map zc c),.fn (.func 240) [] [.ipt 1 [[.fn (.func 155) [] []]] 0 0,.ipt 10 [[sA d,tL e,sA f,bA i,bA j,iA l,iA m,.isl 4 (map zn n),.isl 3 (map zA a),.isl 4 (map zY b)]] 0 0]] (bA r):=by
 refine zi func239 y kz y y<|A ?_;obtain ⟨o,p,h⟩:=bs h;refine A ?_;exact RT0
instance (c:List zb)(d:T0)(e:T1)(f:T0)(i:Bool)(j:Bool)(l:Int)(m:Int)(n:List zr)(a:List zS)(b:List zT):PF prog 239 [.isl 10 (map zc c),.fn (.func 240) [] [.ipt 1 [[.fn (.func 155) [] []]] 0 0,.ipt 10 [[sA d,tL e,sA f,bA i,bA j,iA l,iA m,.isl 4 (map zn n),.isl 3 (map zA a),.isl 4 (map zY b)]] 0 0]] (zak c d e f i j l m n a b) bA:=⟨λ_=>zcA c d e f i j l m n a b⟩
def zlO(a:List zb)(b:Int):Option (Bool):=
  some (decide ((length a:Int)≤b))
def zgj(c:List zb)(j:T0)(l:T0)(m:Bool)(n:T1)(o:List zj)(p:List zb)(b:Int):zL (Int) (Unit) (Bool):=
  cond (decide (b<(length c:Int))) ((idx c b).bind λa=>(zlN a j l m n o p).bind λd=>(cond (!d) (some true) ((XJ c 0 b).bind λe=>(zak e a.Name a.Params a.Ret a.Static a.Abstract a.Locals a.Stack a.Code a.Maps a.Traps).bind λf=>some f)).bind λi=>cond i (some (.inr (.inr false))) (some (.inl (i64.wrap (b+1))))) (some (.inr (.inl ())))
def zer(a:List zb)(c:Int)(d:T0)(e:T0)(f:Bool)(i:T1)(j:List zj)(l:List zb):Option (Bool):=
  (zp (λz=>zgj a d e f i j l z) 0).bind λo=>zH o (λb=>zlO a c) some
theorem zii(f:List zb)(i:Int)(l:T0)(m:T0)(n:Bool)(p:T1)(q:List zj)(s:List zb){r:Bool}(h:zer f i l m n p q s=some r):Xm prog 154 [.isl 10 (map zc f),iA i,.fn (.func 155) [] [],.fn (.func 156) [] [.ipt 6 [[sA l,sA m,bA n,tL p,.isl 3 (map zv q),.isl 10 (map zc s)]] 0 0]] (bA r):=by
 refine zi func154 y kz y y<|A ?_;refine ze<|A ?_;obtain ⟨o,ho,h⟩:=bs h;refine lpB ho (λz=>[(0,.isl 10 (map zc f)),(1,iA i),(3,.fn (.func 156) [] [.ipt 6 [[sA l,sA m,bA n,tL p,.isl 3 (map zv q),.isl 10 (map zc s)]] 0 0]),(6,.mpt 0 0 0),(11,.isl 10 (map zc f)),(12,iA (length f:Int)),(13,iA z)]) (λz=>[some (1,[[.fn (.func 155) [] []]])]) (λb=>[(0,.isl 10 (map zc f)),(1,iA i)]) (λb=>[]) (pG f154 bA) (Xd [0]) ?_ ?_
 .rintro C r h;refine A ?_;refine ze ?_;apply Xa h y<;>intro D h
  .refine zd<|ze<|zh ?_;obtain ⟨c,I,h⟩:=bs h;refine A ?_;obtain ⟨J,E,F,e,h⟩:=bs2 h;refine rg y<|u<|mv y<|u<|ld ti y y<|u<|pc (zoq c l m n p q s E) y y y<|u<|nt y<|u<|mv y<|ZK (x:=F) (j:=4) 5 y y y y y gpn (λd=>by replace e:=bF d e;obtain ⟨G,v,e⟩:=bs e;obtain ⟨K,H,e⟩:=bs e;obtain rfl:=sm e;exact g y d<|mv y<|g y d<|mv y<|g y d<|slI (a:=0) (b:=C) ti y ti y y y (DA y v) v<|g y d<|mf y y<|g y d<|pcs (zcA G c.Name c.Params c.Ret c.Static c.Abstract c.Locals c.Stack c.Code c.Maps c.Traps H) y y (.cons (si y) (.cons (Zt t ⟨(XO y ⟨(si y),t⟩),(XO y ⟨(si y),(si y),(si y),(si y),(si y),(si y),(si y),(si y),(si y),(si y),t⟩),t⟩) .nil)) XD<|zo (eg [23,24,25,26,27] 5 y y y y)) (λhb=>(sm (bT hb e)).symm)<|zo ?_;apply Xa h y<;>intro B h
   .refine A ?_;refine zy ?_;cases h;exact ⟨_,y,_,y,Xb []⟩
   .refine zd<|A ?_;cases h;exact ⟨_,y,zl [0]⟩
  .refine zs ?_;cases h;exact ⟨y,_,y,zl []⟩
 .rintro ⟨⟩ rfl;refine zm<|A ?_;exact RT0
instance (a:List zb)(b:Int)(c:T0)(d:T0)(e:Bool)(f:T1)(i:List zj)(j:List zb):PF prog 154 [.isl 10 (map zc a),iA b,.fn (.func 155) [] [],.fn (.func 156) [] [.ipt 6 [[sA c,sA d,bA e,tL f,.isl 3 (map zv i),.isl 10 (map zc j)]] 0 0]] (zer a b c d e f i j) bA:=⟨λ_=>zii a b c d e f i j⟩
def znU(a:T0):T0:=
  a
instance (a:T0):PF prog 160 [sA a] (some (znU a)) sA:=.of λr h=>by
 refine zi func160 y kz y y ?_;unfold znU at h;refine A ?_;refine A ?_;refine zy ?_;obtain rfl:=h;exact ⟨_,y,Xb []⟩
def zij(a:T0)(b:T0):Bool:=
  ((znU b) == (znU a))
instance (a:T0)(b:T0):PF prog 250 [sA a,.ipt 1 [[.fn (.func 160) [] []]] 0 0,.ipt 1 [[sA b]] 0 0] (some (zij a b)) bA:=.of λr h=>by
 refine zi func250 y kz y y ?_;unfold zij at h;refine A ?_;refine rdA [(4,_)] [] [] [0,1,2,3,4,5,6,7] [(4,_),(11,_),(10,_),(9,_),(8,_),(7,_),(6,_),(5,_)] 0 (Xk (z:=Xd [])) ?_;refine zy ?_;obtain rfl:=h;exact ⟨_,y,Xb []⟩
def zeK:Option (Int):=
  some (-1)
def zbi(b:T1)(c:T0)(a:Int):zL (Int) (Unit) (Int):=
  cond (decide (a<(length b:Int))) ((idx b a).bind λd=>cond (zij d c) (some (.inr (.inr a))) (some (.inl (i64.wrap (a+1))))) (some (.inr (.inl ())))
def zcR(a:T1)(c:T0):Option (Int):=
  (zp (λz=>zbi a c z) 0).bind λo=>zH o (λb=>zeK) some
instance (a:T1)(c:T0):PF prog 181 [tL a,.fn (.func 250) [] [.ipt 1 [[.fn (.func 160) [] []]] 0 0,.ipt 1 [[sA c]] 0 0]] (zcR a c) iA:=⟨λr h=>by
 refine zi func181 y kz y y<|A ?_;refine ze<|A ?_;obtain ⟨o,ho,h⟩:=bs h;refine lpB ho (λz=>[(0,tL a),(1,.fn (.func 250) [] [.ipt 1 [[.fn (.func 160) [] []]] 0 0,.ipt 1 [[sA c]] 0 0]),(7,iA (length a:Int)),(8,iA z)]) (λz=>[]) (λb=>[]) (λb=>[]) (pG f181 iA) (Xd []) ?_ ?_
 .rintro f r h;refine A ?_;refine ze ?_;apply Xa h y<;>intro d h
  .refine zd<|ze<|zh<|A ?_;obtain ⟨i,j,h⟩:=bs h;refine A ?_;apply Xa h y<;>intro e h
   .refine A ?_;refine zy ?_;cases h;exact ⟨_,y,_,y,Xb []⟩
   .refine zd<|A ?_;cases h;exact ⟨_,y,zl []⟩
  .refine zs ?_;cases h;exact ⟨y,_,y,zl []⟩
 .rintro ⟨⟩ rfl;refine zm<|A ?_
  exact RT0⟩
def zay(a:T1)(b:T0):Option (Bool):=
  (zcR a b).bind λc=>some (decide (0≤c))
theorem zd2(a:T1)(b:T0){r:Bool}(h:zay a b=some r):Xm prog 99 [tL a,.fn (.func 250) [] [.ipt 1 [[.fn (.func 160) [] []]] 0 0,.ipt 1 [[sA b]] 0 0]] (bA r):=by
 refine zi func99 y kz y y<|A ?_;obtain ⟨c,d,h⟩:=bs h;refine A ?_;exact RT0
instance (a:T1)(b:T0):PF prog 99 [tL a,.fn (.func 250) [] [.ipt 1 [[.fn (.func 160) [] []]] 0 0,.ipt 1 [[sA b]] 0 0]] (zay a b) bA:=⟨λ_=>zd2 a b⟩
def zoH(a:T1)(b:Int):Option (Bool):=
  some (decide ((length a:Int)≤b))
def zhR(c:T1)(a:Int):zL (Int) (Unit) (Bool):=
  cond (decide (a<(length c:Int))) ((idx c a).bind λb=>(HQ b).bind λd=>(cond (!d) (some true) ((XJ c 0 a).bind λe=>(zay e b).bind λf=>some f)).bind λi=>cond i (some (.inr (.inr false))) (some (.inl (i64.wrap (a+1))))) (some (.inr (.inl ())))
def zhF(a:T1)(c:Int):Option (Bool):=
  (zp (λz=>zhR a z) 0).bind λo=>zH o (λb=>zoH a c) some
instance (e:T1)(f:Int):PF prog 159 [tL e,iA f,.fn (.func 160) [] [],.fn (.func 158) [] []] (zhF e f) bA:=⟨λr h=>by
 refine zi func159 y kz y y<|A ?_;refine ze<|A ?_;obtain ⟨o,ho,h⟩:=bs h;refine lpB ho (λz=>[(0,tL e),(1,iA f),(3,.fn (.func 158) [] []),(6,.mpt 0 0 0),(11,tL e),(12,iA (length e:Int)),(13,iA z)]) (λz=>[some (1,[[.fn (.func 160) [] []]])]) (λb=>[(0,tL e),(1,iA f)]) (λb=>[]) (pG f159 bA) (Xd [0]) ?_ ?_
 .rintro v r h;refine A ?_;refine ze ?_;apply Xa h y<;>intro m h
  .refine zd<|ze<|zh ?_;obtain ⟨n,B,h⟩:=bs h;refine A ?_;obtain ⟨C,D,p,d,h⟩:=bs2 h;refine A ?_;refine ZK (x:=p) (j:=4) 5 y y y y y gpn (λc=>by replace d:=bF c d;obtain ⟨q,i,d⟩:=bs d;obtain ⟨E,s,d⟩:=bs d;obtain rfl:=sm d;exact g y c<|mv y<|g y c<|mv y<|g y c<|slI (a:=0) (b:=v) ti y ti y y y (DA y i) i<|g y c<|mf y y<|g y c<|pcs (zd2 q n s) y y (.cons (si y) (.cons (Zt t ⟨(XO y ⟨(si y),t⟩),(XO y ⟨(si y),t⟩),t⟩) .nil)) XD<|zo (eg [23,24,25,26,27] 5 y y y y)) (λhb=>(sm (bT hb d)).symm)<|zo ?_;apply Xa h y<;>intro l h
   .refine A ?_;refine zy ?_;cases h;exact ⟨_,y,_,y,Xb []⟩
   .refine zd<|A ?_;cases h;exact ⟨_,y,zl [0]⟩
  .refine zs ?_;cases h;exact ⟨y,_,y,zl []⟩
 .rintro ⟨⟩ rfl;refine zm<|A ?_
  exact RT0⟩
def zpl(a:za):Option (Bool):=
  cond (a.Interface&&((!(a.Super == [79,98,106,101,99,116]))||(decide (0<(length a.Fields:Int))))) (some false) ((zgi a.Fields 8).bind λb=>(zer a.Methods 8 a.Name a.Super a.Interface a.Impl a.Fields a.Methods).bind λc=>(HQ a.Name).bind λd=>(cond d ((HQ a.Super).bind λe=>some e) (some false)).bind λf=>(cond f ((zhF a.Impl 4).bind λi=>some i) (some false)).bind λj=>some ((j&&b)&&c))
instance (a:za):PF prog 72 [.agg (zf a)] (zpl a) bA:=⟨λr h=>by
 refine zi func72 y kz y y<|A ?_;refine ze<|A ?_;apply Xa h y<;>intro b h
 .refine A ?_;exact RT0
 .refine zd ?_;obtain ⟨e,f,h⟩:=bs h;refine A ?_;obtain ⟨i,c,h⟩:=bs h;refine A ?_;refine u<|pcs (zii a.Methods 8 a.Name a.Super a.Interface a.Impl a.Fields a.Methods c) y y (.cons (si y) (.cons (si y) (.cons (si y) (.cons (Zt t ⟨(XO y ⟨(si y),(si y),(si y),(si y),(si y),(si y),t⟩),t⟩) .nil)))) XD<|A ?_;obtain ⟨j,l,m,n,o,d,h⟩:=bs3 h;refine A ?_
  exact RT0⟩
def zk8(a:zb)(b:T0):Bool:=
  (a.Name == b)
instance (a:zb)(b:T0):PF prog 226 [.agg (zc a),.ipt 1 [[sA b]] 0 0] (some (zk8 a b)) bA:=.of λr h=>by
 refine zi func226 y kz y y ?_;unfold zk8 at h;refine A ?_;refine A ?_;refine zy ?_;obtain rfl:=h;exact ⟨_,y,Xb []⟩
def zcB:Option (Int):=
  some (-1)
def zar(b:List zb)(c:T0)(a:Int):zL (Int) (Unit) (Int):=
  cond (decide (a<(length b:Int))) ((idx b a).bind λd=>cond (zk8 d c) (some (.inr (.inr a))) (some (.inl (i64.wrap (a+1))))) (some (.inr (.inl ())))
def zaP(a:List zb)(c:T0):Option (Int):=
  (zp (λz=>zar a c z) 0).bind λo=>zH o (λb=>zcB) some
theorem zcC(a:List zb)(c:T0){r:Int}(h:zaP a c=some r):Xm prog 225 [.isl 10 (map zc a),.fn (.func 226) [] [.ipt 1 [[sA c]] 0 0]] (iA r):=by
 refine zi func225 y kz y y<|A ?_;refine ze<|A ?_;obtain ⟨o,ho,h⟩:=bs h;refine lpB ho (λz=>[(0,.isl 10 (map zc a)),(1,.fn (.func 226) [] [.ipt 1 [[sA c]] 0 0]),(7,iA (length a:Int)),(8,iA z)]) (λz=>[]) (λb=>[]) (λb=>[]) (pG f225 iA) (Xd []) ?_ ?_
 .rintro f r h;refine A ?_;refine ze ?_;apply Xa h y<;>intro d h
  .refine zd<|ze<|zh<|A ?_;obtain ⟨i,j,h⟩:=bs h;refine A ?_;apply Xa h y<;>intro e h
   .refine A ?_;refine zy ?_;cases h;exact ⟨_,y,_,y,Xb []⟩
   .refine zd<|A ?_;cases h;exact ⟨_,y,zl []⟩
  .refine zs ?_;cases h;exact ⟨y,_,y,zl []⟩
 .rintro ⟨⟩ rfl;refine zm<|A ?_;exact RT0
instance (a:List zb)(b:T0):PF prog 225 [.isl 10 (map zc a),.fn (.func 226) [] [.ipt 1 [[sA b]] 0 0]] (zaP a b) iA:=⟨λ_=>zcC a b⟩
def HW(a:za)(b:T0):Option (Int):=
  (zaP a.Methods b).bind λc=>some c
theorem zgW(a:za)(b:T0){r:Int}(h:HW a b=some r):Xm prog 141 [.agg (zf a),sA b] (iA r):=by
 refine zi func141 y kz y y<|A ?_;obtain ⟨d,c,h⟩:=bs h;refine A ?_;refine u<|pcs (zcC a.Methods b c) y y (.cons (si y) (.cons (Zt t ⟨(XO y ⟨(si y),t⟩),t⟩) .nil)) XD<|A ?_;exact RT0
instance (a:za)(b:T0):PF prog 141 [.agg (zf a),sA b] (HW a b) iA:=⟨λ_=>zgW a b⟩
def zlM(a:zj)(b:T0):Bool:=
  (a.Name == b)
instance (a:zj)(b:T0):PF prog 316 [.agg (zv a),.ipt 1 [[sA b]] 0 0] (some (zlM a b)) bA:=.of λr h=>by
 refine zi func316 y kz y y ?_;unfold zlM at h;refine A ?_;refine A ?_;refine zy ?_;obtain rfl:=h;exact ⟨_,y,Xb []⟩
def zc6:Option (Int):=
  some (-1)
def zaF(b:List zj)(c:T0)(a:Int):zL (Int) (Unit) (Int):=
  cond (decide (a<(length b:Int))) ((idx b a).bind λd=>cond (zlM d c) (some (.inr (.inr a))) (some (.inl (i64.wrap (a+1))))) (some (.inr (.inl ())))
def zaY(a:List zj)(c:T0):Option (Int):=
  (zp (λz=>zaF a c z) 0).bind λo=>zH o (λb=>zc6) some
theorem zc7(a:List zj)(c:T0){r:Int}(h:zaY a c=some r):Xm prog 315 [.isl 3 (map zv a),.fn (.func 316) [] [.ipt 1 [[sA c]] 0 0]] (iA r):=by
 refine zi func315 y kz y y<|A ?_;refine ze<|A ?_;obtain ⟨o,ho,h⟩:=bs h;refine lpB ho (λz=>[(0,.isl 3 (map zv a)),(1,.fn (.func 316) [] [.ipt 1 [[sA c]] 0 0]),(7,iA (length a:Int)),(8,iA z)]) (λz=>[]) (λb=>[]) (λb=>[]) (pG f315 iA) (Xd []) ?_ ?_
 .rintro f r h;refine A ?_;refine ze ?_;apply Xa h y<;>intro d h
  .refine zd<|ze<|zh<|A ?_;obtain ⟨i,j,h⟩:=bs h;refine A ?_;apply Xa h y<;>intro e h
   .refine A ?_;refine zy ?_;cases h;exact ⟨_,y,_,y,Xb []⟩
   .refine zd<|A ?_;cases h;exact ⟨_,y,zl []⟩
  .refine zs ?_;cases h;exact ⟨y,_,y,zl []⟩
 .rintro ⟨⟩ rfl;refine zm<|A ?_;exact RT0
instance (a:List zj)(b:T0):PF prog 315 [.isl 3 (map zv a),.fn (.func 316) [] [.ipt 1 [[sA b]] 0 0]] (zaY a b) iA:=⟨λ_=>zc7 a b⟩
def zj4(a:za)(b:T0):Option (Int):=
  (zaY a.Fields b).bind λc=>some c
theorem zom(a:za)(b:T0){r:Int}(h:zj4 a b=some r):Xm prog 223 [.agg (zf a),sA b] (iA r):=by
 refine zi func223 y kz y y<|A ?_;obtain ⟨d,c,h⟩:=bs h;refine A ?_;refine u<|pcs (zc7 a.Fields b c) y y (.cons (si y) (.cons (Zt t ⟨(XO y ⟨(si y),t⟩),t⟩) .nil)) XD<|A ?_;exact RT0
instance (a:za)(b:T0):PF prog 223 [.agg (zf a),sA b] (zj4 a b) iA:=⟨λ_=>zom a b⟩
def zpH:Option (Int):=
  some (-1)
def zjQ(b:za)(c:T0)(a:Int):zL (Int) (Unit) (Int):=
  cond (decide (a<(length b.Fields:Int))) ((idx b.Fields a).bind λd=>cond (d.Name == c) (some (.inr (.inr a))) (some (.inl (i64.wrap (a+1))))) (some (.inr (.inl ())))
def IP(a:za)(c:T0):Option (Int):=
  (zp (λz=>zjQ a c z) 0).bind λo=>zH o (λb=>zpH) some
instance (a:za)(c:T0):PF prog 188 [.agg (zf a),sA c] (IP a c) iA:=⟨λr h=>by
 refine zi func188 y kz y y<|A ?_;refine ze<|A ?_;obtain ⟨o,ho,h⟩:=bs h;refine lpB ho (λz=>[(1,sA c),(2,.mpt 0 0 0),(5,iA z)]) (λz=>[some (6,[(zf a)])]) (λb=>[]) (λb=>[]) (pG f188 iA) (Xd [0]) ?_ ?_
 .rintro f r h;refine ze<|A ?_;apply Xa h y<;>intro d h
  .refine zd<|ze<|zh ?_;obtain ⟨i,j,h⟩:=bs h;refine A ?_;apply Xa h y<;>intro e h
   .refine A ?_;refine zy ?_;cases h;exact ⟨_,y,_,y,Xb []⟩
   .refine zd<|A ?_;cases h;exact ⟨_,y,zl [0]⟩
  .refine zs ?_;cases h;exact ⟨y,_,y,zl []⟩
 .rintro ⟨⟩ rfl;refine zm<|A ?_
  exact RT0⟩
def zoz:Option (Int):=
  some (-1)
def zi7(b:za)(c:T0)(a:Int):zL (Int) (Unit) (Int):=
  cond (decide (a<(length b.Methods:Int))) ((idx b.Methods a).bind λd=>cond (d.Name == c) (some (.inr (.inr a))) (some (.inl (i64.wrap (a+1))))) (some (.inr (.inl ())))
def Gj(a:za)(c:T0):Option (Int):=
  (zp (λz=>zi7 a c z) 0).bind λo=>zH o (λb=>zoz) some
theorem zoA(a:za)(c:T0){r:Int}(h:Gj a c=some r):Xm prog 143 [.agg (zf a),sA c] (iA r):=by
 refine zi func143 y kz y y<|A ?_;refine ze<|A ?_;obtain ⟨o,ho,h⟩:=bs h;refine lpB ho (λz=>[(1,sA c),(2,.mpt 0 0 0),(5,iA z)]) (λz=>[some (6,[(zf a)])]) (λb=>[]) (λb=>[]) (pG f143 iA) (Xd [0]) ?_ ?_
 .rintro f r h;refine ze<|A ?_;apply Xa h y<;>intro d h
  .refine zd<|ze<|zh ?_;obtain ⟨i,j,h⟩:=bs h;refine A ?_;apply Xa h y<;>intro e h
   .refine A ?_;refine zy ?_;cases h;exact ⟨_,y,_,y,Xb []⟩
   .refine zd<|A ?_;cases h;exact ⟨_,y,zl [0]⟩
  .refine zs ?_;cases h;exact ⟨y,_,y,zl []⟩
 .rintro ⟨⟩ rfl;refine zm<|A ?_;exact RT0
instance (a:za)(b:T0):PF prog 143 [.agg (zf a),sA b] (Gj a b) iA:=⟨λ_=>zoA a b⟩
def zre(a:T0):Option (Bool):=
  (cond (a == [86]) (some true) ((Gd a).bind λb=>some b)).bind λc=>some c
instance (a:T0):PF prog 268 [sA a] (zre a) bA:=⟨λr h=>by
 refine zi func268 y kz y y<|A ?_;obtain ⟨b,c,h⟩:=bs h;refine A ?_
 exact RT0⟩
def zvA:Option (Bool):=
  some true
def OU(c:zb)(b:Int):zL (Int) (Unit) (Bool):=
  cond (decide (b<(length c.Traps:Int))) ((idx c.Traps b).bind λa=>(cond (((((decide (a.From<0))||(decide (a.To≤a.From)))||(decide ((length c.Code:Int)<a.To)))||(decide (a.At<0)))||(decide ((length c.Code:Int)≤a.At))) (some true) ((cond (!(a.C == [])) ((HP a.C).bind λd=>some (!d)) (some false)).bind λe=>some e)).bind λf=>cond f (some (.inr (.inr false))) (some (.inl (i64.wrap (b+1))))) (some (.inr (.inl ())))
def zkX(a:zb):Option (Bool):=
  (zp (λz=>OU a z) 0).bind λo=>zH o (λb=>zvA) some
def OV(a:zb)(b:Int):zL (Int) (Unit) (Bool):=
  cond (decide (b<(length a.Code:Int))) ((idx a.Code b).bind λc=>(IX c).bind λd=>cond ((!d)||((DL c.Op)&&(decide ((length a.Code:Int)≤c.A)))) (some (.inr (.inr false))) (some (.inl (i64.wrap (b+1))))) (some (.inr (.inl ())))
def zpJ(a:zb):Option (Bool):=
  (cond ((decide ((length a.Code:Int)<1))||(decide (100<(length a.Code:Int)))) (some true) ((idx a.Code (i64.wrap ((length a.Code:Int)-1))).bind λc=>some (!(HN c.Op)))).bind λd=>cond (d||(decide (6<(length a.Traps:Int)))) (some false) ((zp (λz=>OV a z) 0).bind λo=>zH o (λb=>zkX a) some)
instance (d:zb):PF prog 269 [.agg (zc d)] (zpJ d) bA:=⟨λr h=>by
 refine zi func269 y kz y y<|A ?_;refine A ?_;refine ze ?_;obtain ⟨D,E,h⟩:=bs h;refine A ?_;apply Xa h y<;>intro m h
 .refine A ?_;exact RT0
 .refine zd<|ze<|A ?_;obtain ⟨o,ho,h⟩:=bs h;refine lpB ho (λz=>[(1,.mpt 0 0 0),(3,iA (length d.Code:Int)),(4,iA z)]) (λz=>[some (10,[(zc d)])]) (λb=>[(1,.mpt 0 0 0),(3,iA (length d.Code:Int))]) (λb=>[some (10,[(zc d)])]) (pG f269 bA) (Xd [0]) ?_ ?_
  .rintro F r h;refine ze<|A ?_;apply Xa h y<;>intro e h
   .refine zd<|ze<|zh ?_;obtain ⟨n,q,h⟩:=bs h;refine A ?_;obtain ⟨G,p,h⟩:=bs h;refine rg y<|u<|ld ti y y<|u<|pc (zoy n p) y y y<|u<|nt y<|u<|mv y<|ZK (j:=3) 9 y y y y y gpn (λa=>g y a<|fa ti y y y<|g y a<|ld ti y y<|g y a<|pc (zpI n.Op y) y y y<|g y a<|mv y<|X1 (j:=7) 4 y y y y y (gps y y a) (λc=>g y c<|fa ti y y y<|g y c<|ld ti y y<|g y c<|mv y<|g y c<|geq ti y y<|zo (egA [52,53,54,55] 4 c y y y y)) Hr<|zo (egO [48,49,50,51,52,53,54,55,56] 5 a y y y y)) orT<|zo ?_;apply Xa h y<;>intro f h
    .refine A ?_;refine zy ?_;cases h;exact ⟨_,y,_,y,Xb []⟩
    .refine zd<|A ?_;cases h;exact ⟨_,y,zl [0]⟩
   .refine zs ?_;cases h;exact ⟨y,_,y,zl [0]⟩
  .rintro ⟨⟩ rfl;refine zm<|ze<|A ?_;obtain ⟨o,ho,h⟩:=bs h;refine lpB ho (λz=>[(1,.mpt 0 0 0),(3,iA (length d.Code:Int)),(6,iA z)]) (λz=>[some (10,[(zc d)])]) (λb=>[]) (λb=>[]) (pG f269 bA) (Xd [0]) ?_ ?_
   .rintro s r h;refine ze<|A ?_;apply Xa h y<;>intro i h
    .refine zd<|ze<|zh ?_;obtain ⟨v,x,h⟩:=bs h;refine A ?_;obtain ⟨B,C,h⟩:=bs h;refine A ?_;apply Xa h y<;>intro l h
     .refine A ?_;refine zy ?_;cases h;exact ⟨_,y,_,y,Xb []⟩
     .refine zd<|A ?_;cases h;exact ⟨_,y,zl [0]⟩
    .refine zs ?_;cases h;exact ⟨y,_,y,zl []⟩
   .rintro ⟨⟩ rfl;refine zm<|A ?_
    exact RT0⟩
def zug:Option (Bool):=
  some true
def zuf(a:Int):zL (Int) (Unit) (Bool):=
  some (.inl (i64.wrap (a+1)))
def W7(b:zS)(a:Int):zL (Int) (Unit) (Bool):=
  cond (decide (a<(length b.Stack:Int))) ((idx b.Stack a).bind λc=>(cond (!(c == [78])) ((Gd c).bind λd=>some (!d)) (some false)).bind λe=>cond e (some (.inr (.inr false))) (some (.inl (i64.wrap (a+1))))) (some (.inr (.inl ())))
def zny(a:Int)(c:zS):zL (Int) (Unit) (Bool):=
  (zp (λz=>W7 c z) 0).bind λo=>zH o (λb=>zuf a) (λr=>some (.inr (.inr r)))
def W8(c:zS)(a:Int):zL (Int) (Unit) (Bool):=
  cond (decide (a<(length c.Locals:Int))) ((idx c.Locals a).bind λb=>(cond ((!(b == [84]))&&(!(b == [78]))) ((Gd b).bind λd=>some (!d)) (some false)).bind λe=>cond e (some (.inr (.inr false))) (some (.inl (i64.wrap (a+1))))) (some (.inr (.inl ())))
def Gl(c:Int)(a:zS)(d:Bool):zL (Int) (Unit) (Bool):=
  cond d (some (.inr (.inr false))) ((zp (λz=>W8 a z) 0).bind λo=>zH o (λb=>zny c a) (λr=>some (.inr (.inr r))))
def OO(c:zb)(b:Int):zL (Int) (Unit) (Bool):=
  cond (decide (b<(length c.Maps:Int))) ((idx c.Maps b).bind λa=>cond (decide (a.At<0)) (Gl b a true) (cond (decide ((length c.Code:Int)≤a.At)) (Gl b a true) (cond (decide (0<b)) ((idx c.Maps (i64.wrap (b-1))).bind λd=>cond (decide (a.At≤d.At)) (Gl b a true) (cond (!((length a.Locals:Int) == c.Locals)) (Gl b a true) (Gl b a (decide (c.Stack<(length a.Stack:Int)))))) (cond (!((length a.Locals:Int) == c.Locals)) (Gl b a true) (Gl b a (decide (c.Stack<(length a.Stack:Int)))))))) (some (.inr (.inl ())))
def zpK(a:zb):Option (Bool):=
  cond (decide (100<(length a.Maps:Int))) (some false) ((zp (λz=>OO a z) 0).bind λo=>zH o (λb=>zug) some)
instance (c:zb):PF prog 270 [.agg (zc c)] (zpK c) bA:=⟨λr h=>by
 refine zi func270 y kz y y<|A ?_;refine ze<|A ?_;apply Xa h y<;>intro B h
 .refine A ?_;exact RT0
 .refine zd<|ze<|A ?_;obtain ⟨o,ho,h⟩:=bs h;refine lpB ho (λz=>[(1,.mpt 0 0 0),(3,iA z)]) (λz=>[some (10,[(zc c)])]) (λb=>[]) (λb=>[]) (pG f270 bA) (Xd [0]) ?_ ?_
  .rintro e r h;refine ze<|A ?_;apply Xa h y<;>intro n h
   .refine zd<|ze<|zh ?_;obtain ⟨a,D,h⟩:=bs h;refine A ?_;refine ze ?_;refine Xz (X:=Bool) (λz=>[(1,.mpt 0 0 0),(3,iA e),(4,.mpt 1 0 0),(67,bA z)]) (λz=>[some (10,[(zc c)]),some (3,[(zA a)])]) (λz=>Gl e a z=some r) ?_ ?_
    .rcases bb (decide (a.At<0)) with d |d
     .replace h:=bT d h;exact rdQ [] [0,1,2,3,4,5,6,7,8,9,10,11,12,13,14,15,16,17,18,19,20,21,22,23,24,25,26,27,28,29,30,31,32,33,34,35,36,37,38,39,40,41,42] [(67,_),(66,_),(65,_),(64,_),(63,_),(62,_),(61,_),(60,_),(59,_),(58,_),(57,_),(56,_),(55,_),(54,_),(53,_),(52,_),(51,_),(50,_),(49,_),(48,_),(47,_),(46,_),(45,_),(44,_),(43,_),(42,_),(41,_),(40,_),(39,_),(38,_),(37,_),(36,_),(35,_),(34,_),(33,_),(32,_),(31,_),(30,_),(29,_),(28,_),(27,_),(26,_),(25,_)] 0 (Xk (z:=by exact ⟨true,h,Xd [0,1]⟩))
     .replace h:=bF d h
      rcases bb (decide ((length c.Code:Int)≤a.At)) with i |i
      .replace h:=bT i h;exact rdQ [] [0,1,2,3,4,5,6,7,8,9,10,11,12,13,14,15,16,17,18,19,20,21,22,23,24,25,26,27,28,29,30,31,32,33,34,35,36,37,38,39,40,41,42] [(67,_),(66,_),(65,_),(64,_),(63,_),(62,_),(61,_),(60,_),(59,_),(58,_),(57,_),(56,_),(55,_),(54,_),(53,_),(52,_),(51,_),(50,_),(49,_),(48,_),(47,_),(46,_),(45,_),(44,_),(43,_),(42,_),(41,_),(40,_),(39,_),(38,_),(37,_),(36,_),(35,_),(34,_),(33,_),(32,_),(31,_),(30,_),(29,_),(28,_),(27,_),(26,_),(25,_)] 0 (Xk (z:=by exact ⟨true,h,Xd [0,1]⟩))
      .replace h:=bF i h
       rcases bb (decide (0<e)) with j |j
       .replace h:=bT j h;obtain ⟨C,E,h⟩:=bs h
        rcases bb (decide (a.At≤C.At)) with l |l
        .replace h:=bT l h;exact rdQ [] [0,1,2,3,4,5,6,7,8,9,10,11,12,13,14,15,16,17,18,19,20,21,22,23,24,25,26,27,28,29,30,31,32,33,34,35,36,37,38,39,40,41,42] [(67,_),(66,_),(65,_),(64,_),(63,_),(62,_),(61,_),(60,_),(59,_),(58,_),(57,_),(56,_),(55,_),(54,_),(53,_),(52,_),(51,_),(50,_),(49,_),(48,_),(47,_),(46,_),(45,_),(44,_),(43,_),(42,_),(41,_),(40,_),(39,_),(38,_),(37,_),(36,_),(35,_),(34,_),(33,_),(32,_),(31,_),(30,_),(29,_),(28,_),(27,_),(26,_),(25,_)] 0 (Xk (z:=by exact ⟨true,h,Xd [0,1]⟩))
        .replace h:=bF l h
         rcases bb (!((length a.Locals:Int) == c.Locals)) with m |m
         .replace h:=bT m h;exact rdQ [] [0,1,2,3,4,5,6,7,8,9,10,11,12,13,14,15,16,17,18,19,20,21,22,23,24,25,26,27,28,29,30,31,32,33,34,35,36,37,38,39,40,41,42] [(67,_),(66,_),(65,_),(64,_),(63,_),(62,_),(61,_),(60,_),(59,_),(58,_),(57,_),(56,_),(55,_),(54,_),(53,_),(52,_),(51,_),(50,_),(49,_),(48,_),(47,_),(46,_),(45,_),(44,_),(43,_),(42,_),(41,_),(40,_),(39,_),(38,_),(37,_),(36,_),(35,_),(34,_),(33,_),(32,_),(31,_),(30,_),(29,_),(28,_),(27,_),(26,_),(25,_)] 0 (Xk (z:=by exact ⟨true,h,Xd [0,1]⟩))
         .replace h:=bF m h;exact rdQ [] [0,1,2,3,4,5,6,7,8,9,10,11,12,13,14,15,16,17,18,19,20,21,22,23,24,25,26,27,28,29,30,31,32,33,34,35,36,37,38,39,40,41,42] [(67,_),(66,_),(65,_),(64,_),(63,_),(62,_),(61,_),(60,_),(59,_),(58,_),(57,_),(56,_),(55,_),(54,_),(53,_),(52,_),(51,_),(50,_),(49,_),(48,_),(47,_),(46,_),(45,_),(44,_),(43,_),(42,_),(41,_),(40,_),(39,_),(38,_),(37,_),(36,_),(35,_),(34,_),(33,_),(32,_),(31,_),(30,_),(29,_),(28,_),(27,_),(26,_),(25,_)] 0 (Xk (z:=by exact ⟨(decide (c.Stack<(length a.Stack:Int))),h,Xd [0,1]⟩))
       .replace h:=bF j h
        rcases bb (!((length a.Locals:Int) == c.Locals)) with f |f
        .replace h:=bT f h;exact Gk [] [42,41,40,39,38,37,36,35,34,33,32,31,30,29,28,27,26,25,24,23,22,21,20,19,18,17,16,15,14,13,12,11,10,9,8,7,6,5,4,3,2,1,0] [(67,bA true),(66,.lit undef),(65,.lit undef),(64,.lit undef),(63,.lit undef),(62,.lit undef),(61,.lit undef),(60,bA (!((length a.Locals:Int) == c.Locals))),(59,bA (!((length a.Locals:Int) == c.Locals))),(58,bA (!((length a.Locals:Int) == c.Locals))),(57,iA c.Locals),(56,.mpt 0 0 5),(55,iA (length a.Locals:Int)),(54,tL a.Locals),(53,.mpt 1 0 1),(52,bA false),(51,bA false),(50,bA false),(49,.lit undef),(48,.lit undef),(47,.lit undef),(46,.lit undef),(45,.lit undef),(44,.lit undef),(43,.lit undef),(42,.lit undef),(41,.lit undef),(40,.lit undef),(39,bA (decide (0<e))),(38,bA (decide (0<e))),(37,iA e),(36,bA (decide ((length c.Code:Int)≤a.At))),(35,bA (decide ((length c.Code:Int)≤a.At))),(34,bA (decide ((length c.Code:Int)≤a.At))),(33,iA (length c.Code:Int)),(32,.isl 4 (map zn c.Code)),(31,.mpt 0 0 7),(30,iA a.At),(29,.mpt 1 0 0),(28,bA (decide (a.At<0))),(27,bA (decide (a.At<0))),(26,iA a.At),(25,.mpt 1 0 0)] 0 kz kz y kz (ZC ⟨pe,pe,pe,pe,pe,pe,pe,pe,pe,(λ_=>pag (b:=false) y y y y y y (neq ti y y<|w)),(λ_=>pag (b:=false) y y y y y y (ld ti y y<|w)),(λ_=>pag (b:=false) y y y y y y (fa ti y y y<|w)),(λ_=>pag (b:=false) y y y y y y (lnI ti y y<|w)),(λ_=>pag (b:=false) y y y y y y (ld ti y y<|w)),(λ_=>pag (b:=false) y y y y y y (fa ti y y y<|w)),pe,pe,pe,pe,pe,pe,pe,pe,pe,pe,pe,pe,pe,pe,(λ_=>pag (b:=(decide ((length c.Code:Int)≤a.At))) y y y y i y (gtr ti y y<|w)),pe,pe,pe,(λ_=>pag (b:=(decide (a.At<0))) y y y y d y (geq ti y y<|w)),(λ_=>pag (b:=(decide (a.At<0))) y y y y d y (lnI ti y y<|w)),(λ_=>pag (b:=(decide (a.At<0))) y y y y d y (ld ti y y<|w)),(λ_=>pag (b:=(decide (a.At<0))) y y y y d y (fa ti y y y<|w)),(λ_=>pag (b:=(decide (a.At<0))) y y y y d y (ld ti y y<|w)),(λ_=>pag (b:=(decide (a.At<0))) y y y y d y (fa ti y y y<|w)),pe,(pb y (lss ti y y w)),(pb y (ld ti y y w)),(pb y (fa ti y y y w)),t⟩ ⟨true,h,zl [0,1]⟩)
        .replace h:=bF f h;exact Gk [] [42,41,40,39,38,37,36,35,34,33,32,31,30,29,28,27,26,25,24,23,22,21,20,19,18,17,16,15,14,13,12,11,10,9,8,7,6,5,4,3,2,1,0] [(67,bA (decide (c.Stack<(length a.Stack:Int)))),(66,bA (decide (c.Stack<(length a.Stack:Int)))),(65,iA c.Stack),(64,.mpt 0 0 6),(63,iA (length a.Stack:Int)),(62,tL a.Stack),(61,.mpt 1 0 2),(60,bA (!((length a.Locals:Int) == c.Locals))),(59,bA (!((length a.Locals:Int) == c.Locals))),(58,bA (!((length a.Locals:Int) == c.Locals))),(57,iA c.Locals),(56,.mpt 0 0 5),(55,iA (length a.Locals:Int)),(54,tL a.Locals),(53,.mpt 1 0 1),(52,bA false),(51,bA false),(50,bA false),(49,.lit undef),(48,.lit undef),(47,.lit undef),(46,.lit undef),(45,.lit undef),(44,.lit undef),(43,.lit undef),(42,.lit undef),(41,.lit undef),(40,.lit undef),(39,bA (decide (0<e))),(38,bA (decide (0<e))),(37,iA e),(36,bA (decide ((length c.Code:Int)≤a.At))),(35,bA (decide ((length c.Code:Int)≤a.At))),(34,bA (decide ((length c.Code:Int)≤a.At))),(33,iA (length c.Code:Int)),(32,.isl 4 (map zn c.Code)),(31,.mpt 0 0 7),(30,iA a.At),(29,.mpt 1 0 0),(28,bA (decide (a.At<0))),(27,bA (decide (a.At<0))),(26,iA a.At),(25,.mpt 1 0 0)] 0 kz kz y kz (ZC ⟨pe,(λ_=>pag (b:=(!((length a.Locals:Int) == c.Locals))) y y y y f y (gtr ti y y<|w)),(λ_=>pag (b:=(!((length a.Locals:Int) == c.Locals))) y y y y f y (ld ti y y<|w)),(λ_=>pag (b:=(!((length a.Locals:Int) == c.Locals))) y y y y f y (fa ti y y y<|w)),(λ_=>pag (b:=(!((length a.Locals:Int) == c.Locals))) y y y y f y (lnI ti y y<|w)),(λ_=>pag (b:=(!((length a.Locals:Int) == c.Locals))) y y y y f y (ld ti y y<|w)),(λ_=>pag (b:=(!((length a.Locals:Int) == c.Locals))) y y y y f y (fa ti y y y<|w)),pe,pe,(λ_=>pag (b:=false) y y y y y y (neq ti y y<|w)),(λ_=>pag (b:=false) y y y y y y (ld ti y y<|w)),(λ_=>pag (b:=false) y y y y y y (fa ti y y y<|w)),(λ_=>pag (b:=false) y y y y y y (lnI ti y y<|w)),(λ_=>pag (b:=false) y y y y y y (ld ti y y<|w)),(λ_=>pag (b:=false) y y y y y y (fa ti y y y<|w)),pe,pe,pe,pe,pe,pe,pe,pe,pe,pe,pe,pe,pe,pe,(λ_=>pag (b:=(decide ((length c.Code:Int)≤a.At))) y y y y i y (gtr ti y y<|w)),pe,pe,pe,(λ_=>pag (b:=(decide (a.At<0))) y y y y d y (geq ti y y<|w)),(λ_=>pag (b:=(decide (a.At<0))) y y y y d y (lnI ti y y<|w)),(λ_=>pag (b:=(decide (a.At<0))) y y y y d y (ld ti y y<|w)),(λ_=>pag (b:=(decide (a.At<0))) y y y y d y (fa ti y y y<|w)),(λ_=>pag (b:=(decide (a.At<0))) y y y y d y (ld ti y y<|w)),(λ_=>pag (b:=(decide (a.At<0))) y y y y d y (fa ti y y y<|w)),pe,(pb y (lss ti y y w)),(pb y (ld ti y y w)),(pb y (fa ti y y y w)),t⟩ ⟨(decide (c.Stack<(length a.Stack:Int))),h,zl [0,1]⟩)
    .rintro F h;apply Xa h y<;>intro p h
     .refine A ?_;refine zy ?_;cases h;exact ⟨_,y,_,y,Xb []⟩
     .refine zd<|ze<|A ?_;obtain ⟨o,ho,h⟩:=bs h;refine lpS ho (λz=>[(1,.mpt 0 0 0),(3,iA e),(4,.mpt 1 0 0),(5,iA z)]) (λz=>[some (10,[(zc c)]),some (3,[(zA a)])]) (λb=>[(1,.mpt 0 0 0),(3,iA e),(4,.mpt 1 0 0)]) (λb=>[some (10,[(zc c)]),some (3,[(zA a)])]) (pG f270 bA) (Xd [0,1]) ?_ ?_ ?_
      .rintro G r h;refine ze<|A ?_;apply Xa h y<;>intro q h
       .refine zd<|ze<|zh ?_;obtain ⟨H,I,h⟩:=bs h;refine A ?_;obtain ⟨J,K,h⟩:=bs h;refine A ?_;apply Xa h y<;>intro s h
        .refine A ?_;refine zy ?_;cases h;exact ⟨_,y,_,y,Xb []⟩
        .refine zd<|A ?_;cases h;exact ⟨_,y,zl [0,1]⟩
       .refine zs ?_;cases h;exact ⟨y,_,y,zl [0,1]⟩
      .rintro ⟨⟩ rfl;refine zm<|A ?_;obtain ⟨o,ho,h⟩:=bs h;refine lpS ho (λz=>[(1,.mpt 0 0 0),(3,iA e),(4,.mpt 1 0 0),(7,iA z)]) (λz=>[some (10,[(zc c)]),some (3,[(zA a)])]) (λb=>[(1,.mpt 0 0 0),(3,iA e)]) (λb=>[some (10,[(zc c)])]) (pG f270 bA) (Xd [0,1]) ?_ ?_ ?_
       .rintro L r h;refine ze<|A ?_;apply Xa h y<;>intro v h
        .refine zd<|ze<|zh ?_;obtain ⟨M,N,h⟩:=bs h;refine A ?_;obtain ⟨O,P,h⟩:=bs h;refine A ?_;apply Xa h y<;>intro x h
         .refine A ?_;refine zy ?_;cases h;exact ⟨_,y,_,y,Xb []⟩
         .refine zd<|A ?_;cases h;exact ⟨_,y,zl [0,1]⟩
        .refine zs ?_;cases h;exact ⟨y,_,y,zl [0]⟩
       .rintro ⟨⟩ rfl;refine zm<|A ?_;cases h;exact ⟨_,y,zl [0]⟩
       .rintro r' rfl env st hp;cases h;exact ⟨_,y,hp⟩
      .rintro r' rfl env st hp;cases h;exact ⟨_,y,hp⟩
   .refine zs ?_;cases h;exact ⟨y,_,y,zl []⟩
  .rintro ⟨⟩ rfl;refine zm<|A ?_
   exact RT0⟩
def zf9(a:zb)(b:Int):Option (Bool):=
  cond ((((decide (a.Locals<b))||(decide (16<a.Locals)))||(decide (a.Stack<0)))||(decide (16<a.Stack))) (some false) ((zpJ a).bind λc=>(cond c ((zpK a).bind λd=>some d) (some false)).bind λe=>some e)
def ziU(a:zb):Option (Bool):=
  cond a.Abstract (some (((((((!a.Static)&&(!(a.Name == [36,105,110,105,116])))&&(a.Locals == 0))&&(a.Stack == 0))&&((length a.Code:Int) == 0))&&((length a.Maps:Int) == 0))&&((length a.Traps:Int) == 0))) (cond ((a.Name == [36,105,110,105,116])&&(((!a.Static)||(decide (0<(length a.Params:Int))))||(!(a.Ret == [86])))) (some false) (cond (!a.Static) (zf9 a (i64.wrap ((length a.Params:Int)+1))) (zf9 a (length a.Params:Int))))
def Ex(b:zb)(a:Int):zL (Int) (Unit) (Bool):=
  cond (decide (a<(length b.Params:Int))) ((idx b.Params a).bind λd=>(Gd d).bind λc=>cond (!c) (some (.inr (.inr false))) (some (.inl (i64.wrap (a+1))))) (some (.inr (.inl ())))
def zhD(a:zb):Option (Bool):=
  (Os a.Name).bind λc=>(cond ((!c)||(decide (6<(length a.Params:Int)))) (some true) ((zre a.Ret).bind λd=>some (!d))).bind λe=>cond e (some false) ((zp (λz=>Ex a z) 0).bind λo=>zH o (λb=>ziU a) some)
theorem zlz(a:zb){r:Bool}(h:zhD a=some r):Xm prog 189 [.agg (zc a)] (bA r):=by
 refine zi func189 y kz y y<|A ?_;refine ze ?_;obtain ⟨C,D,E,F,h⟩:=bs2 h;refine A ?_;apply Xa h y<;>intro l h
 .refine A ?_;exact RT0
 .refine zd<|ze<|A ?_;obtain ⟨o,ho,h⟩:=bs h;refine lpB ho (λz=>[(1,.mpt 0 0 0),(3,iA z)]) (λz=>[some (10,[(zc a)])]) (λb=>[(1,.mpt 0 0 0)]) (λb=>[some (10,[(zc a)])]) (pG f189 bA) (Xd [0]) ?_ ?_
  .rintro G r h;refine ze<|A ?_;apply Xa h y<;>intro c h
   .refine zd<|ze<|zh ?_;obtain ⟨H,m,n,p,h⟩:=bs2 h;refine A ?_;apply Xa h y<;>intro d h
    .refine A ?_;refine zy ?_;cases h;exact ⟨_,y,_,y,Xb []⟩
    .refine zd<|A ?_;cases h;exact ⟨_,y,zl [0]⟩
   .refine zs ?_;cases h;exact ⟨y,_,y,zl [0]⟩
  .rintro ⟨⟩ rfl;refine zm<|ze<|A ?_;apply Xa h y<;>intro e h
   .refine A ?_;exact RT0
   .refine zd<|ze<|A ?_;apply Xa h y<;>intro f h
    .refine A ?_;exact RT0
    .refine zd<|A ?_;refine Xz (X:=Int) (λz=>[(1,.mpt 0 0 0),(4,iA z)]) (λz=>[some (10,[(zc a)])]) (λz=>zf9 a z=some r) ?_ ?_
     .refine A ?_;apply Xa h y<;>intro i h
      .refine A ?_;exact (⟨(i64.wrap ((length a.Params:Int)+1)),h,zl [0]⟩)
      .refine zd ?_;exact ⟨(length a.Params:Int),h,zl [0]⟩
     .rintro q h;refine ze<|A ?_;apply Xa h y<;>intro j h
      .refine A ?_;exact RT0
      .refine zd ?_;obtain ⟨s,v,x,B,h⟩:=bs2 h;refine A ?_;exact RT0
instance (a:zb):PF prog 189 [.agg (zc a)] (zhD a) bA:=⟨λ_=>zlz a⟩
def zqk:Option (Bool):=
  some true
def O5(c:za)(a:Int):zL (Int) (Unit) (Bool):=
  cond (decide (a<(length c.Methods:Int))) ((idx c.Methods a).bind λb=>(cond (!(b.Abstract == c.Interface)) (some true) ((Gj c b.Name).bind λd=>some (!(d == a)))).bind λe=>(cond e (some true) ((zhD b).bind λf=>some (!f))).bind λi=>cond i (some (.inr (.inr false))) (some (.inl (i64.wrap (a+1))))) (some (.inr (.inl ())))
def zmF(a:za):Option (Bool):=
  (zp (λz=>O5 a z) 0).bind λo=>zH o (λb=>zqk) some
def O6(c:za)(a:Int):zL (Int) (Unit) (Bool):=
  cond (decide (a<(length c.Fields:Int))) ((idx c.Fields a).bind λb=>(Os b.Name).bind λd=>(cond ((!d)||(b.Name == [36,105,110,105,116])) (some true) ((Gd b.Type_).bind λe=>some (!e))).bind λf=>(cond f (some true) ((IP c b.Name).bind λi=>some (!(i == a)))).bind λj=>cond j (some (.inr (.inr false))) (some (.inl (i64.wrap (a+1))))) (some (.inr (.inl ())))
def zmE(a:za):Option (Bool):=
  (zp (λz=>O6 a z) 0).bind λo=>zH o (λb=>zmF a) some
def zq0(a:Int):zL (Int) (Unit) (Bool):=
  some (.inl (i64.wrap (a+1)))
def O8(c:za)(b:Int)(a:Int):zL (Int) (Unit) (Bool):=
  cond (decide (a<b)) ((idx c.Impl a).bind λd=>(idx c.Impl b).bind λe=>cond (d == e) (some (.inr (.inr false))) (some (.inl (i64.wrap (a+1))))) (some (.inr (.inl ())))
def O7(c:za)(a:Int):zL (Int) (Unit) (Bool):=
  cond (decide (a<(length c.Impl:Int))) ((idx c.Impl a).bind λd=>(HP d).bind λe=>cond (!e) (some (.inr (.inr false))) ((zp (λz=>O8 c a z) 0).bind λo=>zH o (λb=>zq0 a) (λr=>some (.inr (.inr r))))) (some (.inr (.inl ())))
def zjR(a:za):Option (Bool):=
  (HP a.Name).bind λc=>(cond (!c) (some true) ((HP a.Super).bind λd=>some (!d))).bind λe=>cond (((e||(decide (4<(length a.Impl:Int))))||(decide (8<(length a.Fields:Int))))||(decide (8<(length a.Methods:Int)))) (some false) (cond (a.Interface&&((!(a.Super == [79,98,106,101,99,116]))||(decide (0<(length a.Fields:Int))))) (some false) ((zp (λz=>O7 a z) 0).bind λo=>zH o (λb=>zmE a) some))
instance (c:za):PF prog 111 [.agg (zf c)] (zjR c) bA:=⟨λr h=>by
 refine zi func111 y kz y y<|A ?_;refine ze ?_;obtain ⟨v2,q1,v4,q4,h⟩:=bs2 h;refine A ?_;apply Xa h y<;>intro E h
 .refine A ?_;exact RT0
 .refine zd<|ze<|A ?_;apply Xa h y<;>intro m h
  .refine A ?_;exact RT0
  .refine zd<|ze<|A ?_;obtain ⟨o,ho,h⟩:=bs h;refine lpB ho (λz=>[(1,.mpt 0 0 0),(3,iA z)]) (λz=>[some (6,[(zf c)])]) (λb=>[(1,.mpt 0 0 0)]) (λb=>[some (6,[(zf c)])]) (pG f111 bA) (Xd [0]) ?_ ?_
   .rintro i r h;refine ze<|A ?_;apply Xa h y<;>intro n h
    .refine zd<|ze<|zh<|ze ?_;obtain ⟨J,K,L,M,h⟩:=bs2 h;refine A ?_;apply Xa h y<;>intro p h
     .refine A ?_;refine zy ?_;cases h;exact ⟨_,y,_,y,Xb []⟩
     .refine zd<|A ?_;obtain ⟨o,ho,h⟩:=bs h;refine lpS ho (λz=>[(1,.mpt 0 0 0),(3,iA i),(4,iA z)]) (λz=>[some (6,[(zf c)])]) (λb=>[(1,.mpt 0 0 0),(3,iA i)]) (λb=>[some (6,[(zf c)])]) (pG f111 bA) (Xd [0]) ?_ ?_ ?_
      .rintro N r h;refine ze<|A ?_;apply Xa h y<;>intro q h
       .refine zd<|ze<|zh ?_;obtain ⟨O,P,Q,R,h⟩:=bs2 h;refine rdA [(1,_),(3,_),(4,_),(79,_)] [some (6,[(zf c)])] [] [0,1,2,3,4,5,6,7,8,9,10] [(79,_),(78,_),(77,_),(76,_),(75,_),(74,_),(73,_),(72,_),(71,_),(70,_),(69,_)] 0 (Xk (z:=Xd [0])) ?_;apply Xa h y<;>intro s h
        .refine A ?_;refine zy ?_;cases h;exact ⟨_,y,_,y,Xb []⟩
        .refine zd<|A ?_;cases h;exact ⟨_,y,zl [0]⟩
       .refine zs ?_;cases h;exact ⟨y,_,y,zl [0]⟩
      .rintro ⟨⟩ rfl;refine zm<|A ?_;cases h;exact ⟨_,y,zl [0]⟩
      .rintro r' rfl env st hp;cases h;exact ⟨_,y,hp⟩
    .refine zs ?_;cases h;exact ⟨y,_,y,zl [0]⟩
   .rintro ⟨⟩ rfl;refine zm<|ze<|A ?_;obtain ⟨o,ho,h⟩:=bs h;refine lpB ho (λz=>[(1,.mpt 0 0 0),(5,iA z)]) (λz=>[some (6,[(zf c)])]) (λb=>[(1,.mpt 0 0 0)]) (λb=>[some (6,[(zf c)])]) (pG f111 bA) (Xd [0]) ?_ ?_
    .rintro S r h;refine ze<|A ?_;apply Xa h y<;>intro v h
     .refine zd<|ze<|zh ?_;obtain ⟨T,U,h⟩:=bs h;refine A ?_;obtain ⟨V,W,X,Y,Z,q56,h⟩:=bs3 h;refine A ?_;apply Xa h y<;>intro B h
      .refine A ?_;refine zy ?_;cases h;exact ⟨_,y,_,y,Xb []⟩
      .refine zd<|A ?_;cases h;exact ⟨_,y,zl [0]⟩
     .refine zs ?_;cases h;exact ⟨y,_,y,zl [0]⟩
    .rintro ⟨⟩ rfl;refine zm<|ze<|A ?_;obtain ⟨o,ho,h⟩:=bs h;refine lpB ho (λz=>[(1,.mpt 0 0 0),(7,iA z)]) (λz=>[some (6,[(zf c)])]) (λb=>[]) (λb=>[]) (pG f111 bA) (Xd [0]) ?_ ?_
     .rintro v43 r h;refine ze<|A ?_;apply Xa h y<;>intro C h
      .refine zd<|ze<|zh ?_;obtain ⟨l,q68,h⟩:=bs h;refine A ?_;obtain ⟨F,d,G,e,h⟩:=bs2 h;refine rg y<|u<|fa ti y y y<|u<|ld ti y y<|u<|fa ti y y y<|u<|ld ti y y<|u<|bne ti y y y<|u<|mv y<|ZK (x:=F) (j:=5) 6 y y y y y gpn (λa=>by replace d:=bF a d;obtain ⟨v45,H,d⟩:=bs d;obtain rfl:=sm d;exact g y a<|ld ti y y<|g y a<|fa ti y y y<|g y a<|ld ti y y<|g y a<|pc (zoA c l.Name H) y y y<|g y a<|mv y<|g y a<|neq ti y y<|zo (eg [133,134,135,136,137,138] 6 y y y y)) (λhb=>(sm (bT hb d)).symm)<|u<|mv y<|ZK (x:=G) (j:=13) 3 y y y y y gpn (λf=>by replace e:=bF f e;obtain ⟨v47,I,e⟩:=bs e;obtain rfl:=sm e;exact g y f<|ld ti y y<|g y f<|pc (zlz l I) y y y<|g y f<|nt y<|zo (eg [141,142,143] 3 y y y y)) (λhb=>(sm (bT hb e)).symm)<|zo ?_;apply Xa h y<;>intro D h
       .refine A ?_;refine zy ?_;cases h;exact ⟨_,y,_,y,Xb []⟩
       .refine zd<|A ?_;cases h;exact ⟨_,y,zl [0]⟩
      .refine zs ?_;cases h;exact ⟨y,_,y,zl []⟩
     .rintro ⟨⟩ rfl;refine zm<|A ?_
      exact RT0⟩
def zr7:Option (Bool):=
  some true
def ziq(b:T1)(c:T1)(a:Int):zL (Int) (Unit) (Bool):=
  cond (decide (a<(length b:Int))) ((idx b a).bind λd=>(idx c a).bind λe=>cond (!(d == e)) (some (.inr (.inr false))) (some (.inl (i64.wrap (a+1))))) (some (.inr (.inl ())))
def zkW(a:T1)(c:T1):Option (Bool):=
  cond (!((length a:Int) == (length c:Int))) (some false) ((zp (λz=>ziq a c z) 0).bind λo=>zH o (λb=>zr7) some)
instance (a:T1)(c:T1):PF prog 48 [tL a,tL c] (zkW a c) bA:=⟨λr h=>by
 refine zi func48 y kz y y<|A ?_;refine ze<|A ?_;apply Xa h y<;>intro d h
 .refine A ?_;exact RT0
 .refine zd<|ze<|A ?_;obtain ⟨o,ho,h⟩:=bs h;refine lpB ho (λz=>[(0,tL a),(1,tL c),(5,iA z)]) (λz=>[]) (λb=>[]) (λb=>[]) (pG f48 bA) (Xd []) ?_ ?_
  .rintro i r h;refine ze<|A ?_;apply Xa h y<;>intro e h
   .refine zd<|ze<|zh ?_;obtain ⟨j,l,m,n,h⟩:=bs2 h;refine rdA [(0,_),(1,_),(5,_),(25,_)] [] [] [0,1,2,3,4,5,6,7,8] [(25,_),(24,_),(23,_),(22,_),(21,_),(20,_),(19,_),(18,_),(17,_)] 0 (Xk (z:=Xd [])) ?_;apply Xa h y<;>intro f h
    .refine A ?_;refine zy ?_;cases h;exact ⟨_,y,_,y,Xb []⟩
    .refine zd<|A ?_;cases h;exact ⟨_,y,zl []⟩
   .refine zs ?_;cases h;exact ⟨y,_,y,zl []⟩
  .rintro ⟨⟩ rfl;refine zm<|A ?_
   exact RT0⟩
structure zJ where
  l:List za
  at_:T2
def Zu(x:zJ):List AV:=[cL x.l,mI x.at_]
def Zl(a:T0)(b:Int):Option (T0):=
  cond (decide (b<(length a:Int))) ((XJ a 0 b).bind λc=>some c) (some a)
theorem ZY(d:T0)(c:Int){r:T0}(h:Zl d c=some r):Xm prog 38 [sA d,iA c] (sA r):=by
 refine zi func38 y kz y y<|A ?_;refine ze<|A ?_;apply Xa h y<;>intro e h
 .obtain ⟨i,f,h⟩:=bs h;refine A ?_;refine u<|slS (a:=0) (b:=c) ti y y y (DA y f) f<|A ?_;exact RT0
 .refine zd<|A ?_;exact RT0
instance (a:T0)(b:Int):PF prog 38 [sA a,iA b] (Zl a b) sA:=⟨λ_=>ZY a b⟩
def zl7(a:T1):Option (T1):=
  some a
def DW(b:T1)(i:Int)(c:T1)(a:Int):zL (T1×Int) (T1) (T1):=
  cond ((decide (a<(length b:Int)))&&(decide (a<i))) ((idx b a).bind λd=>(Zl d 12).bind λe=>(Xx 16 c [e]).bind λf=>some (.inl (f,(i64.wrap (a+1))))) (some (.inr (.inl c)))
def Kn(a:T1)(c:Int):Option (T1):=
  (zp (λz=>DW a c z.1 z.2) ([],0)).bind λo=>zH o (λb=>zl7 b) some
theorem OQ(a:T1)(c:Int){r:T1}(h:Kn a c=some r):Xm prog 70 [tL a,iA c] (tL r):=by
 refine zi func70 y kz y y<|A ?_;refine A ?_;refine ze<|A ?_;obtain ⟨o,ho,h⟩:=bs h;refine lpB ho (λz=>[(0,tL a),(1,iA c),(5,.msl 0 0 (length z.1)),(6,iA z.2)]) (λz=>[sT z.1]) (λb=>[(5,.msl 0 0 (length b))]) (λb=>[sT b]) (pG f70 (λr=>tL r)) ⟨[.fresh 1],ce y y<|ce y y<|cv y (.nilown y)<|ce y y<|cn,y,⟨w,t⟩,y,k⟩ ?_ ?_
 .rintro ⟨n,p⟩ r h;refine ze<|A ?_;apply Xa h y<;>intro d h
  .refine zd<|ze<|zh ?_;obtain ⟨j,q,e,s,l,i,h⟩:=bs3 h;refine A ?_;refine u<|apM 2 ti y ti y y (by decide) ti y y y y (roX (f:=Xe) (z:=[e]) y y) (λ_=>y) y i<|A ?_;refine A ?_;cases h;exact ⟨_,y,zl [2]⟩
  .refine zs ?_;cases h;exact ⟨y,_,y,zl [0]⟩
 .rintro m rfl;refine zm<|A ?_;exact RT0
instance (a:T1)(b:Int):PF prog 70 [tL a,iA b] (Kn a b) (λr=>(tL r)):=⟨λ_=>OQ a b⟩
def Ix(a:zr):Option (zr):=
  (Zl a.C 14).bind λb=>(Zl a.M 12).bind λc=>some (zr.mk a.Op a.A b c)
theorem zrK(a:zr){r:zr}(h:Ix a=some r):Xm prog 148 [.agg (zn a)] (.agg (zn r)):=by
 refine zi func148 y kz y y<|A ?_;obtain ⟨b,d,c,e,h⟩:=bs2 h;refine rdA [(1,_),(2,_)] [some (4,[[iA a.Op,iA a.A,sA b,sA c]]),some (4,[[iA 0,iA 0,sA [],sA []]])] [7,9] [0,1,2,3,4,5,6] [(9,_),(8,_),(7,_),(6,_),(5,_),(4,_),(3,_)] 2 (Xj (z:=by exact ⟨(λ_ _=>⟨_,y,y,sto ti y y y<|⟨.any,[8],[(10,_)],y,y,y,t,Xj (z:=by exact ⟨nv,(λ_ _=>⟨_,y,y,sto ti y y y<|⟨.any,[],[],y,y,y,t,Xk (z:=Xd [0,1])⟩⟩),t⟩)⟩⟩),nw,t⟩)) ?_;refine A ?_;exact RT0
instance (a:zr):PF prog 148 [.agg (zn a)] (Ix a) (λr=>(.agg (zn r))):=⟨λ_=>zrK a⟩
def zld(a:zb)(e:T0)(f:T1)(i:T0)(b:List zr)(c:List zS)(d:List zT):Option (zb):=
  some (zb.mk e f i a.Static a.Abstract a.Locals a.Stack b c d)
def D1(d:zb)(c:List zT)(a:Int):zL ((List zT)×Int) ((List zT)) (zb):=
  cond ((decide (a<(length d.Traps:Int)))&&(decide (a<8))) ((idx d.Traps a).bind λb=>(Zl b.C 10).bind λe=>(Xx 40 c [(zT.mk b.From b.To b.At e)]).bind λf=>some (.inl (f,(i64.wrap (a+1))))) (some (.inr (.inl c)))
def zhA(a:zb)(e:T0)(f:T1)(i:T0)(c:List zr)(d:List zS):Option (zb):=
  (zp (λz=>D1 a z.1 z.2) ([],0)).bind λo=>zH o (λb=>zld a e f i c d b) some
def D2(b:zb)(c:List zS)(a:Int):zL ((List zS)×Int) ((List zS)) (zb):=
  cond ((decide (a<(length b.Maps:Int)))&&(decide (a<104))) ((idx b.Maps a).bind λd=>(idx b.Maps a).bind λe=>(Kn e.Locals 20).bind λf=>(idx b.Maps a).bind λi=>(Kn i.Stack 20).bind λj=>(Xx 56 c [(zS.mk d.At f j)]).bind λl=>some (.inl (l,(i64.wrap (a+1))))) (some (.inr (.inl c)))
def zhz(a:zb)(d:T0)(e:T1)(f:T0)(c:List zr):Option (zb):=
  (zp (λz=>D2 a z.1 z.2) ([],0)).bind λo=>zH o (λb=>zhA a d e f c b) some
def D3(c:zb)(b:List zr)(a:Int):zL ((List zr)×Int) ((List zr)) (zb):=
  cond ((decide (a<(length c.Code:Int)))&&(decide (a<104))) ((idx c.Code a).bind λd=>(Ix d).bind λe=>(Xx 48 b [e]).bind λf=>some (.inl (f,(i64.wrap (a+1))))) (some (.inr (.inl b)))
def OH(a:zb):Option (zb):=
  (Zl a.Name 10).bind λc=>(Kn a.Params 8).bind λd=>(Zl a.Ret 12).bind λe=>(zp (λz=>D3 a z.1 z.2) ([],0)).bind λo=>zH o (λb=>zhz a c d e b) some
instance (a:zb):PF prog 71 [.agg (zc a)] (OH a) (λr=>(.agg (zc r))):=⟨λr h=>by
 refine zi func71 y kz y y<|A ?_;obtain ⟨e,q1,i,q2,j,q3,h⟩:=bs3 h;refine rdA [(1,_),(2,_),(3,_)] [some (10,[(zc a)]),some (10,[[sA [],nS,sA [],bA false,bA false,iA 0,iA 0,nS,nS,nS]]),some (10,[[sA e,tL i,sA j,bA a.Static,bA a.Abstract,iA a.Locals,iA a.Stack,nS,nS,nS]])] [18,19] [0,1,2,3,4,5,6,7,8,9,10,11,12,13,14,15,16,17] [(25,_),(24,_),(23,_),(22,_),(21,_),(20,_),(19,_),(18,_),(17,_),(16,_),(15,_),(14,_),(13,_),(12,_),(11,_),(10,_),(9,_),(8,_)] 2 (Xj ⟨peC,peC,peC,peC,peC,peC,peC,peC,peC,peC,peC,peC,peC,peC,peC,peC,peC,(by exact pb y (bd (parts:=[(0,sA e),(1,tL i),(2,sA j),(3,bA a.Static),(4,bA a.Abstract),(5,iA a.Locals),(6,iA a.Stack)]) (cs:=[sA e,tL i,sA j,bA a.Static,bA a.Abstract,iA a.Locals,iA a.Stack,nS,nS,nS]) ti y y kz<|w)),t⟩ (by exact ⟨(λ_ _=>⟨_,y,y,al 2 ti y<|⟨(.mpt 2 0 0),[],[(3,_)],y,y,y,y,Xj ⟨peC,peC,peC,peC,peC,peC,peC,peC,peC,peC,peC,peC,peC,peC,peC,peC,peC,(by exact pb y (bd (parts:=[(0,sA e),(1,tL i),(2,sA j),(3,bA a.Static),(4,bA a.Abstract),(5,iA a.Locals),(6,iA a.Stack)]) (cs:=[sA e,tL i,sA j,bA a.Static,bA a.Abstract,iA a.Locals,iA a.Stack,nS,nS,nS]) ti y y kz<|w)),t⟩ (by exact ⟨nv,(λ_ _=>⟨_,y,y,sto ti y y y<|⟨.any,[],[],y,y,y,t,Xk (z:=Xd [0,1,2])⟩⟩),t⟩)⟩⟩),nw,t⟩)) ?_;refine ze<|A ?_;obtain ⟨o,ho,h⟩:=bs h;refine lpB ho (λz=>[(1,.mpt 0 0 0),(2,.mpt 1 0 0),(3,.mpt 2 0 0),(4,iA z.2)]) (λz=>[some (10,[(zc a)]),some (10,[[sA [],nS,sA [],bA false,bA false,iA 0,iA 0,nS,nS,nS]]),some (10,[[sA e,tL i,sA j,bA a.Static,bA a.Abstract,iA a.Locals,iA a.Stack,.msl 3 0 (length z.1),nS,nS]]),some (4,map zn z.1)]) (λb=>[(1,.mpt 0 0 0),(2,.mpt 1 0 0),(3,.mpt 2 0 0)]) (λb=>[some (10,[(zc a)]),some (10,[[sA [],nS,sA [],bA false,bA false,iA 0,iA 0,nS,nS,nS]]),some (10,[[sA e,tL i,sA j,bA a.Static,bA a.Abstract,iA a.Locals,iA a.Stack,.msl 3 0 (length b),nS,nS]]),some (4,map zn b)]) (pG f71 (λr=>.agg (zc r))) ⟨[0,1,2,.fresh 4],cv y (.mpt y)<|cv y (.mpt y)<|cv y (.mpt y)<|ce y y<|cn,y,⟨⟨_,y,XG (ciL y)⟩,⟨_,y,XG (ciL y)⟩,⟨_,y,XG ⟨ci y,ci y,ci y,ci y,ci y,ci y,ci y,.nilown y,ci y,ci y,t⟩⟩,w,t⟩,y,k⟩ ?_ ?_
 .rintro ⟨Q,R⟩ r h;refine ze<|A ?_;apply Xa h y<;>intro H h
  .refine zd<|ze<|zh ?_;obtain ⟨S,T,K,U,v,L,h⟩:=bs3 h;refine XA [(1,_),(2,_),(3,_),(4,_)] [some (10,[(zc a)]),some (10,[[sA [],nS,sA [],bA false,bA false,iA 0,iA 0,nS,nS,nS]]),some (10,[[sA e,tL i,sA j,bA a.Static,bA a.Abstract,iA a.Locals,iA a.Stack,.msl 3 0 (length v),nS,nS]]),some (4,map zn v)] [8,9,11] [0,1,2,3,4,5,6,7] [(44,_),(43,_),(42,_),(41,_),(40,_),(39,_),(38,_),(37,_)] 3 (Xj (z:=by exact ⟨(λ_ _=>⟨_,y,y,bl 4 ti y ti y (by decide) (by decide) y y y<|⟨(.msl 4 0 1),[],[(45,_)],y,y,y,y,Xj (z:=by exact ⟨nv,(λ_ _=>⟨_,y,y,apM 5 ti y ti y y (by decide) ti y y y y (roX (f:=zn) (z:=[K]) y y) (λ_=>y) y L<|⟨(.msl 5 0 (length v)),[10],[(47,_),(46,_)],y,y,y,y,Xj (z:=by exact ⟨nv,nv,(λ_ _=>⟨_,y,y,sto ti y y y<|⟨.any,[],[],y,y,y,t,Xk (z:=Xd [0,1,2,5])⟩⟩),t⟩)⟩⟩),nw,t⟩)⟩⟩),nw,nw,t⟩)) ?_;refine A ?_;cases h;exact ⟨_,y,zl [0,1,2,3]⟩
  .refine zs ?_;cases h;exact ⟨y,_,y,zl [0,1,2,3]⟩
 .rintro c rfl;refine zm<|ze<|A ?_;obtain ⟨o,ho,h⟩:=bs h;refine lpB ho (λz=>[(1,.mpt 0 0 0),(2,.mpt 1 0 0),(3,.mpt 2 0 0),(5,iA z.2)]) (λz=>[some (10,[(zc a)]),some (10,[[sA [],nS,sA [],bA false,bA false,iA 0,iA 0,nS,nS,nS]]),some (10,[[sA e,tL i,sA j,bA a.Static,bA a.Abstract,iA a.Locals,iA a.Stack,.msl 3 0 (length c),.msl 4 0 (length z.1),nS]]),some (4,map zn c),some (3,map zA z.1)]) (λb=>[(1,.mpt 0 0 0),(2,.mpt 1 0 0),(3,.mpt 2 0 0)]) (λb=>[some (10,[(zc a)]),some (10,[[sA [],nS,sA [],bA false,bA false,iA 0,iA 0,nS,nS,nS]]),some (10,[[sA e,tL i,sA j,bA a.Static,bA a.Abstract,iA a.Locals,iA a.Stack,.msl 3 0 (length c),.msl 4 0 (length b),nS]]),some (4,map zn c),some (3,map zA b)]) (pG f71 (λr=>.agg (zc r))) ⟨[0,1,2,3,.fresh 3],cv y (.mpt y)<|cv y (.mpt y)<|cv y (.mpt y)<|ce y y<|cn,y,⟨⟨_,y,XG (ciL y)⟩,⟨_,y,XG (ciL y)⟩,⟨_,y,XG ⟨ci y,ci y,ci y,ci y,ci y,ci y,ci y,.msl y,.nilown y,ci y,t⟩⟩,⟨_,y,Zb (λ_=>y)⟩,w,t⟩,y,k⟩ ?_ ?_
  .rintro ⟨M,d⟩ r h;refine ze<|A ?_;apply Xa h y<;>intro I h
   .refine zd<|ze<|zh ?_;obtain ⟨x,l,p,m,B,C,D,n,h⟩:=bs4 h;obtain ⟨E,G,q,N,h⟩:=bs2 h;refine XA [(1,.mpt 0 0 0),(2,.mpt 1 0 0),(3,.mpt 2 0 0),(5,iA d)] [some (10,[(zc a)]),some (10,[[sA [],nS,sA [],bA false,bA false,iA 0,iA 0,nS,nS,nS]]),some (10,[[sA e,tL i,sA j,bA a.Static,bA a.Abstract,iA a.Locals,iA a.Stack,.msl 3 0 (length c),.msl 4 0 (length q),nS]]),some (4,map zn c),some (3,map zA q)] [23,24,26] [22,21,20,19,18,17,16,15,14,13,12,11,10,9,8,7,6,5,4,3,2,1,0] [(81,.agg [iA x.At,tL B,tL E]),(80,tL E),(79,tL D.Stack),(78,.ipt 3 (map zA a.Maps) (Int.toNat d) 2),(77,.ipt 3 (map zA a.Maps) (Int.toNat d) 0),(76,iA d),(75,.isl 3 (map zA a.Maps)),(74,.mpt 0 0 8),(73,tL B),(72,tL p.Locals),(71,.ipt 3 (map zA a.Maps) (Int.toNat d) 1),(70,.ipt 3 (map zA a.Maps) (Int.toNat d) 0),(69,iA d),(68,.isl 3 (map zA a.Maps)),(67,.mpt 0 0 8),(66,iA x.At),(65,.ipt 3 (map zA a.Maps) (Int.toNat d) 0),(64,.ipt 3 (map zA a.Maps) (Int.toNat d) 0),(63,iA d),(62,.isl 3 (map zA a.Maps)),(61,.mpt 0 0 8),(60,.msl 4 0 (length M)),(59,.mpt 2 0 8)] 3 (X5 ⟨(pb y (bd ti y y y w)),(pb y (pc (OQ D.Stack 20 G) y y y w)),(pb y (ldI ti y (zz n).2.2 y w)),(pb y (fa ti y y y w)),(pb y (ixI ti y ti y y y n w)),pe,(pb y (ld ti y y w)),(pb y (fa ti y y y w)),(pb y (pc (OQ p.Locals 20 C) y y y w)),(pb y (ldI ti y (zz m).2.2 y w)),(pb y (fa ti y y y w)),(pb y (ixI ti y ti y y y m w)),pe,(pb y (ld ti y y w)),(pb y (fa ti y y y w)),(pb y (ldI ti y (zz l).2.2 y w)),(pb y (fa ti y y y w)),(pb y (ixI ti y ti y y y l w)),pe,(pb y (ld ti y y w)),(pb y (fa ti y y y w)),(pb y (ld ti y y w)),(pb y (fa ti y y y w)),t⟩ ⟨(λ_ _=>⟨_,y,y,bl 5 ti y ti y (by decide) (by decide) y y y<|⟨(.msl 5 0 1),[],[(82,.msl 5 0 1)],y,y,kz,y,X5 ⟨pe,(pb y (pc (OQ D.Stack 20 G) y y y w)),(pb y (ldI ti y (zz n).2.2 y w)),(pb y (fa ti y y y w)),(pb y (ixI ti y ti y y y n w)),pe,(pb y (ld ti y y w)),(pb y (fa ti y y y w)),(pb y (pc (OQ p.Locals 20 C) y y y w)),(pb y (ldI ti y (zz m).2.2 y w)),(pb y (fa ti y y y w)),(pb y (ixI ti y ti y y y m w)),pe,(pb y (ld ti y y w)),(pb y (fa ti y y y w)),(pb y (ldI ti y (zz l).2.2 y w)),(pb y (fa ti y y y w)),(pb y (ixI ti y ti y y y l w)),pe,(pb y (ld ti y y w)),(pb y (fa ti y y y w)),(pb y (ld ti y y w)),(pb y (fa ti y y y w)),t⟩ ⟨nv,(λ_ _=>⟨_,y,y,apM 6 ti y ti y y (by decide) ti y y y y (roX (f:=zA) (z:=[(zS.mk x.At B E)]) y y) (λ_=>y) y N<|⟨(.msl 6 0 (length q)),[25],[(84,.mpt 2 0 8),(83,.msl 6 0 (length q))],y,y,kz,y,X5 ⟨(pb y (fa ti y y y w)),pe,pe,(pb y (ldI ti y (zz n).2.2 y w)),(pb y (fa ti y y y w)),(pb y (ixI ti y ti y y y n w)),pe,(pb y (ld ti y y w)),(pb y (fa ti y y y w)),(pb y (pc (OQ p.Locals 20 C) y y y w)),(pb y (ldI ti y (zz m).2.2 y w)),(pb y (fa ti y y y w)),(pb y (ixI ti y ti y y y m w)),pe,(pb y (ld ti y y w)),(pb y (fa ti y y y w)),(pb y (ldI ti y (zz l).2.2 y w)),(pb y (fa ti y y y w)),(pb y (ixI ti y ti y y y l w)),pe,(pb y (ld ti y y w)),(pb y (fa ti y y y w)),pe,(pb y (fa ti y y y w)),t⟩ ⟨nv,nv,(λ_ _=>⟨_,y,y,sto ti y y y<|⟨.any,[],[],y,y,kz,t,Hp (zl [0,1,2,3,6])⟩⟩),t⟩⟩⟩),nw,t⟩⟩⟩),nw,nw,t⟩) ?_;refine A ?_;cases h;exact ⟨_,y,zl [0,1,2,3,4]⟩
   .refine zs ?_;cases h;exact ⟨y,_,y,zl [0,1,2,3,4]⟩
  .rintro s rfl;refine zm<|ze<|A ?_;obtain ⟨o,ho,h⟩:=bs h;refine lpB ho (λz=>[(1,.mpt 0 0 0),(2,.mpt 1 0 0),(3,.mpt 2 0 0),(6,iA z.2)]) (λz=>[some (10,[(zc a)]),some (10,[[sA [],nS,sA [],bA false,bA false,iA 0,iA 0,nS,nS,nS]]),some (10,[[sA e,tL i,sA j,bA a.Static,bA a.Abstract,iA a.Locals,iA a.Stack,.msl 3 0 (length c),.msl 4 0 (length s),.msl 5 0 (length z.1)]]),some (4,map zn c),some (3,map zA s),some (4,map zY z.1)]) (λb=>[(2,.mpt 0 0 0),(3,.mpt 1 0 0)]) (λb=>[some (10,[[sA [],nS,sA [],bA false,bA false,iA 0,iA 0,nS,nS,nS]]),some (10,[[sA e,tL i,sA j,bA a.Static,bA a.Abstract,iA a.Locals,iA a.Stack,.msl 2 0 (length c),.msl 3 0 (length s),.msl 4 0 (length b)]]),some (4,map zn c),some (3,map zA s),some (4,map zY b)]) (pG f71 (λr=>.agg (zc r))) ⟨[0,1,2,3,4,.fresh 4],cv y (.mpt y)<|cv y (.mpt y)<|cv y (.mpt y)<|ce y y<|cn,y,⟨⟨_,y,XG (ciL y)⟩,⟨_,y,XG (ciL y)⟩,⟨_,y,XG ⟨ci y,ci y,ci y,ci y,ci y,ci y,ci y,.msl y,.msl y,.nilown y,t⟩⟩,⟨_,y,Zb (λ_=>y)⟩,⟨_,y,Zb (λ_=>y)⟩,w,t⟩,y,k⟩ ?_ ?_
   .rintro ⟨V,W⟩ r h;refine ze<|A ?_;apply Xa h y<;>intro J h
    .refine zd<|ze<|zh ?_;obtain ⟨F,X,h⟩:=bs h;refine A ?_;obtain ⟨O,Y,h⟩:=bs h;refine A ?_;obtain ⟨Z,P,h⟩:=bs h;refine A ?_;refine u<|apM 8 ti y ti y y (by decide) ti y y y y (roX (f:=zY) (z:=[(zT.mk F.From F.To F.At O)]) y y) (λ_=>y) y P<|A ?_;refine A ?_;cases h;exact ⟨_,y,zl [0,1,2,3,4,8]⟩
    .refine zs ?_;cases h;exact ⟨y,_,y,zl [1,2,3,4,5]⟩
   .rintro v43 rfl;refine zm<|A ?_
    exact RT0⟩
def zoT(c:T0)(d:T0)(e:T1)(a:List zj)(b:List zb):Option (T0×T0×T1×(List zj)×(List zb)):=
  some (c,d,e,a,b)
def DR(c:za)(b:List zb)(a:Int):zL ((List zb)×Int) ((List zb)) (T0×T0×T1×(List zj)×(List zb)):=
  cond ((decide (a<(length c.Methods:Int)))&&(decide (a<10))) ((idx c.Methods a).bind λd=>(OH d).bind λe=>(Xx 152 b [e]).bind λf=>some (.inl (f,(i64.wrap (a+1))))) (some (.inr (.inl b)))
def I0(c:za)(d:T0)(e:T0)(f:T1)(a:List zj):Option (T0×T0×T1×(List zj)×(List zb)):=
  (zp (λz=>DR c z.1 z.2) ([],0)).bind λo=>zH o (λb=>zoT d e f a b) some
def DS(d:za)(c:List zj)(a:Int):zL ((List zj)×Int) ((List zj)) (T0×T0×T1×(List zj)×(List zb)):=
  cond ((decide (a<(length d.Fields:Int)))&&(decide (a<10))) ((idx d.Fields a).bind λb=>(Zl b.Name 10).bind λe=>(Zl b.Type_ 12).bind λf=>(Xx 40 c [(zj.mk e f b.Static)]).bind λi=>some (.inl (i,(i64.wrap (a+1))))) (some (.inr (.inl c)))
def Oh(a:za):Option (T0×T0×T1×(List zj)×(List zb)):=
  (Zl a.Name 10).bind λc=>(Zl a.Super 10).bind λd=>(Kn a.Impl 6).bind λe=>(zp (λz=>DS a z.1 z.2) ([],0)).bind λo=>zH o (λb=>I0 a c d e b) some
theorem zwr(a:za){r:T0×T0×T1×(List zj)×(List zb)}(h:Oh a=some r):SC prog 16 [.agg (zf a)] [] (.agg [sA r.1,sA r.2.1,bA a.Interface,tL r.2.2.1,.msl 0 0 (length r.2.2.2.1),.msl 1 0 (length r.2.2.2.2)]) [.many 3 (map zv r.2.2.2.1),.many 10 (map zc r.2.2.2.2)]:=by
 refine ⟨⟨Xw (sz:=3) (λ_=>y),Xw (sz:=10) (λ_=>y),t⟩,zZ func16 y kz y ?_⟩;refine A ?_;obtain ⟨d,N,e,O,i,P,h⟩:=bs3 h;refine rdA [(1,_),(2,_),(3,_)] [some (6,[(zf a)]),some (6,[[sA [],sA [],bA false,nS,nS,nS]]),some (6,[[sA d,sA e,bA a.Interface,tL i,nS,nS]])] [12,13] [0,1,2,3,4,5,6,7,8,9,10,11] [(18,_),(17,_),(16,_),(15,_),(14,_),(13,_),(12,_),(11,_),(10,_),(9,_),(8,_),(7,_)] 2 (Xj (z:=by exact ⟨(λ_ _=>⟨_,y,y,al 2 ti y<|⟨(.mpt 2 0 0),[],[(3,_)],y,y,y,y,Xj (z:=by exact ⟨nv,(λ_ _=>⟨_,y,y,sto ti y y y<|⟨.any,[],[],y,y,y,t,Xk (z:=Xd [0,1,2])⟩⟩),t⟩)⟩⟩),nw,t⟩)) ?_;refine ze<|A ?_;obtain ⟨o,ho,h⟩:=bs h;refine lpB ho (λz=>[(1,.mpt 0 0 0),(2,.mpt 1 0 0),(3,.mpt 2 0 0),(4,iA z.2)]) (λz=>[some (6,[(zf a)]),some (6,[[sA [],sA [],bA false,nS,nS,nS]]),some (6,[[sA d,sA e,bA a.Interface,tL i,.msl 3 0 (length z.1),nS]]),some (3,map zv z.1)]) (λb=>[(1,.mpt 0 0 0),(2,.mpt 1 0 0),(3,.mpt 2 0 0)]) (λb=>[some (6,[(zf a)]),some (6,[[sA [],sA [],bA false,nS,nS,nS]]),some (6,[[sA d,sA e,bA a.Interface,tL i,.msl 3 0 (length b),nS]]),some (3,map zv b)]) (pF f16 (λr=>.agg [sA r.1,sA r.2.1,bA a.Interface,tL r.2.2.1,.msl 0 0 (length r.2.2.2.1),.msl 1 0 (length r.2.2.2.2)]) λr=>[some (3,map zv r.2.2.2.1),some (10,map zc r.2.2.2.2)]) ⟨[0,1,2,.fresh 3],cv y (.mpt y)<|cv y (.mpt y)<|cv y (.mpt y)<|ce y y<|cn,y,⟨⟨_,y,XG (ciL y)⟩,⟨_,y,XG (ciL y)⟩,⟨_,y,XG ⟨ci y,ci y,ci y,ci y,.nilown y,ci y,t⟩⟩,w,t⟩,y,k⟩ ?_ ?_
 .rintro ⟨C,D⟩ r h;refine ze<|A ?_;apply Xa h y<;>intro m h
  .refine zd<|ze<|zh ?_;obtain ⟨p,E,h⟩:=bs h;refine A ?_;obtain ⟨q,F,s,G,j,v,h⟩:=bs3 h;refine XA [(1,_),(2,_),(3,_),(4,_)] [some (6,[(zf a)]),some (6,[[sA [],sA [],bA false,nS,nS,nS]]),some (6,[[sA d,sA e,bA a.Interface,tL i,.msl 3 0 (length j),nS]]),some (3,map zv j)] [11,12,14] [0,1,2,3,4,5,6,7,8,9,10] [(45,_),(44,_),(43,_),(42,_),(41,_),(40,_),(39,_),(38,_),(37,_),(36,_),(35,_)] 3 (Xj (z:=by exact ⟨(λ_ _=>⟨_,y,y,bl 5 ti y ti y (by decide) (by decide) y y y<|⟨(.msl 5 0 1),[],[(46,_)],y,y,y,y,Xj (z:=by exact ⟨nv,(λ_ _=>⟨_,y,y,apM 6 ti y ti y y (by decide) ti y y y y (roX (f:=zv) (z:=[(zj.mk q s p.Static)]) y y) (λ_=>y) y v<|⟨(.msl 6 0 (length j)),[13],[(48,_),(47,_)],y,y,y,y,Xj (z:=by exact ⟨nv,nv,(λ_ _=>⟨_,y,y,sto ti y y y<|⟨.any,[],[],y,y,y,t,Xk (z:=Xd [0,1,2,6])⟩⟩),t⟩)⟩⟩),nw,t⟩)⟩⟩),nw,nw,t⟩)) ?_;refine A ?_;cases h;exact ⟨_,y,zl [0,1,2,3]⟩
  .refine zs ?_;cases h;exact ⟨y,_,y,zl [0,1,2,3]⟩
 .rintro c rfl;refine zm<|ze<|A ?_;obtain ⟨o,ho,h⟩:=bs h;refine lpB ho (λz=>[(1,.mpt 0 0 0),(2,.mpt 1 0 0),(3,.mpt 2 0 0),(6,iA z.2)]) (λz=>[some (6,[(zf a)]),some (6,[[sA [],sA [],bA false,nS,nS,nS]]),some (6,[[sA d,sA e,bA a.Interface,tL i,.msl 3 0 (length c),.msl 4 0 (length z.1)]]),some (3,map zv c),some (10,map zc z.1)]) (λb=>[(2,.mpt 0 0 0),(3,.mpt 1 0 0)]) (λb=>[some (6,[[sA [],sA [],bA false,nS,nS,nS]]),some (6,[[sA d,sA e,bA a.Interface,tL i,.msl 2 0 (length c),.msl 3 0 (length b)]]),some (3,map zv c),some (10,map zc b)]) (pF f16 (λr=>.agg [sA r.1,sA r.2.1,bA a.Interface,tL r.2.2.1,.msl 0 0 (length r.2.2.2.1),.msl 1 0 (length r.2.2.2.2)]) λr=>[some (3,map zv r.2.2.2.1),some (10,map zc r.2.2.2.2)]) ⟨[0,1,2,3,.fresh 10],cv y (.mpt y)<|cv y (.mpt y)<|cv y (.mpt y)<|ce y y<|cn,y,⟨⟨_,y,XG (ciL y)⟩,⟨_,y,XG (ciL y)⟩,⟨_,y,XG ⟨ci y,ci y,ci y,ci y,.msl y,.nilown y,t⟩⟩,⟨_,y,Zb (λ_=>y)⟩,w,t⟩,y,k⟩ ?_ ?_
  .rintro ⟨H,I⟩ r h;refine ze<|A ?_;apply Xa h y<;>intro n h
   .refine zd<|ze<|zh ?_;obtain ⟨J,K,x,L,l,B,h⟩:=bs3 h;refine XA [(1,_),(2,_),(3,_),(6,_)] [some (6,[(zf a)]),some (6,[[sA [],sA [],bA false,nS,nS,nS]]),some (6,[[sA d,sA e,bA a.Interface,tL i,.msl 3 0 (length c),.msl 4 0 (length l)]]),some (3,map zv c),some (10,map zc l)] [8,9,11] [0,1,2,3,4,5,6,7] [(67,_),(66,_),(65,_),(64,_),(63,_),(62,_),(61,_),(60,_)] 3 (Xj (z:=by exact ⟨(λ_ _=>⟨_,y,y,bl 5 ti y ti y (by decide) (by decide) y y y<|⟨(.msl 5 0 1),[],[(68,_)],y,y,y,y,Xj (z:=by exact ⟨nv,(λ_ _=>⟨_,y,y,apM 6 ti y ti y y (by decide) ti y y y y (roX (f:=zc) (z:=[x]) y y) (λ_=>y) y B<|⟨(.msl 6 0 (length l)),[10],[(70,_),(69,_)],y,y,y,y,Xj (z:=by exact ⟨nv,nv,(λ_ _=>⟨_,y,y,sto ti y y y<|⟨.any,[],[],y,y,y,t,Xk (z:=Xd [0,1,2,3,6])⟩⟩),t⟩)⟩⟩),nw,t⟩)⟩⟩),nw,nw,t⟩)) ?_;refine A ?_;cases h;exact ⟨_,y,zl [0,1,2,3,4]⟩
   .refine zs ?_;cases h;exact ⟨y,_,y,zl [1,2,3,4]⟩
  .rintro M rfl;refine zm<|A ?_;refine zy ?_;cases h;exact ⟨_,y,Ho [2,3]⟩
def zoS(a:List za):Option ((List za)):=
  some a
def DU(c:List za)(d:List za)(b:Int):zL ((List za)×Int) ((List za)) ((List za)):=
  cond ((decide (b<(length c:Int)))&&(decide (b<18))) ((idx c b).bind λe=>(Oh e).bind λa=>(Xx 112 d [(za.mk a.1 a.2.1 e.Interface a.2.2.1 a.2.2.2.1 a.2.2.2.2)]).bind λf=>some (.inl (f,(i64.wrap (b+1))))) (some (.inr (.inl d)))
def Gh(a:List za):Option ((List za)):=
  (zp (λz=>DU a z.1 z.2) ([],0)).bind λo=>zH o (λb=>zoS b) some
theorem zwp(c:List za){r:(List za)}(h:Gh c=some r):SC prog 26 [cL c] [] (.msl 0 0 (length r)) [.many 6 (map zf r)]:=by
 refine ⟨⟨Xw (sz:=6) (λ_=>y),t⟩,zZ func26 y kz y ?_⟩;refine A ?_;refine A ?_;refine ze<|A ?_;obtain ⟨o,ho,h⟩:=bs h;refine lpB ho (λz=>[(0,cL c),(3,.msl 0 0 (length z.1)),(4,iA z.2)]) (λz=>[some (6,map zf z.1)]) (λb=>[(3,.msl 0 0 (length b))]) (λb=>[some (6,map zf b)]) (pF f26 (λr=>.msl 0 0 (length r)) λr=>[some (6,map zf r)]) ⟨[.fresh 6],ce y y<|cv y (.nilown y)<|ce y y<|cn,y,⟨w,t⟩,y,k⟩ ?_ ?_
 .rintro ⟨d,f⟩ r h;refine ze<|A ?_;apply Xa h y<;>intro i h
  .refine zd<|ze<|zh ?_;obtain ⟨e,p,a,l,m,j,h⟩:=bs3 h;refine A ?_;refine u<|sx [] (zwr e l)<|zx (env0:=[(0,cL c),(4,iA f),(15,.msl 0 0 (length d)),(20,.agg [sA a.1,sA a.2.1,bA e.Interface,tL a.2.2.1,.msl 1 0 (length a.2.2.2.1),.msl 2 0 (length a.2.2.2.2)])]) (st0:=[some (6,map zf d),some (3,map zv a.2.2.2.1),some (10,map zc a.2.2.2.2)]) (zl [0,1,2])<|A ?_;refine zx (env0:=[(0,cL c),(4,iA f),(15,.msl 0 0 (length d)),(21,.msl 1 0 (length [(za.mk a.1 a.2.1 e.Interface a.2.2.1 a.2.2.2.1 a.2.2.2.2)]))]) (st0:=[some (6,map zf d),some (6,map zf [(za.mk a.1 a.2.1 e.Interface a.2.2.1 a.2.2.2.1 a.2.2.2.2)])]) (zl [0,3])<|u<|apM 2 ti y ti y y (by decide) ti y y y y (roM y) (λ_=>y) y j<|A ?_;refine A ?_;cases h;exact ⟨_,y,zl [2]⟩
  .refine zs ?_;cases h;exact ⟨y,_,y,zl [0]⟩
 .rintro n rfl;refine zm<|A ?_;exact RT1
def Km:T1:=
  ([[79,98,106,101,99,116],[84,104,114,111,119,110],[78,117,108,108,69,114,114],[82,97,110,103,101,69,114,114],[77,97,116,104,69,114,114],[67,97,115,116,69,114,114],[83,105,122,101,69,114,114],[83,116,111,114,101,69,114,114],[73,110,105,116,69,114,114],[67,108,97,115,115,69,114,114]])
theorem zui{r:T1}(h:Km=r):SC prog 184 [] [] (.msl 0 0 (length r)) [.many 1 (map Xe r)]:=by
 refine ⟨⟨Xw (sz:=1) (λ_=>y),t⟩,zZ func184 y kz y ?_⟩;unfold Km at h;refine A ?_;refine A ?_;refine zy ?_;obtain rfl:=h;exact ⟨_,y,Xb [0]⟩
def Ul:T1:=
  ([[79,98,106,101,99,116],[84,104,114,111,119,110],[78,117,108,108,69,114,114],[82,97,110,103,101,69,114,114],[77,97,116,104,69,114,114],[67,97,115,116,69,114,114],[83,105,122,101,69,114,114],[83,116,111,114,101,69,114,114],[73,110,105,116,69,114,114],[67,108,97,115,115,69,114,114]])
theorem ztG{r:T1}(h:Ul=r):SC prog 105 [] [] (.msl 0 0 (length r)) [.many 1 (map Xe r)]:=by
 refine ⟨⟨Xw (sz:=1) (λ_=>y),t⟩,zZ func105 y kz y ?_⟩;unfold Ul at h;refine A ?_;refine A ?_;refine zy ?_;obtain rfl:=h;exact ⟨_,y,Xb [0]⟩
def ztI(a:List za):Option ((List za)):=
  some a
def zlZ(c:List za)(d:Int)(e:T0)(a:T0):zL ((List za)×Int) ((List za)) ((List za)):=
  (Xx 112 c ([(za.mk e a false [] [] [])])).bind λb=>some (.inl (b,(i64.wrap (d+1))))
def ztJ(b:List za)(a:Int):zL ((List za)×Int) ((List za)) ((List za)):=
  cond (decide (a<((length (Ul)):Int))) ((idx (Ul) a).bind λc=>cond (decide (a<2)) ((idx ([[],[79,98,106,101,99,116]]) a).bind λd=>zlZ b a c d) (zlZ b a c [84,104,114,111,119,110])) (some (.inr (.inl b)))
def zqa:Option ((List za)):=
  (zp (λz=>ztJ z.1 z.2) ([],0)).bind λo=>zH o (λb=>ztI b) some
theorem ztK{r:(List za)}(h:zqa=some r):SC prog 98 [] [] (.msl 0 0 (length r)) [.many 6 (map zf r)]:=by
 refine ⟨⟨Xw (sz:=6) (λ_=>y),t⟩,zZ func98 y kz y ?_⟩;refine A ?_;refine A ?_;refine ze ?_;refine rg y<|u<|sx [] (ztG y)<|zx (env0:=[(1,nS),(5,.msl 0 0 (length (Ul)))]) (st0:=[sT (Ul)]) (zl [0])<|A ?_;obtain ⟨o,ho,h⟩:=bs h;refine lpB ho (λz=>[(1,.msl 0 0 (length z.1)),(5,.msl 1 0 (length (Ul))),(6,iA ((length (Ul)):Int)),(7,iA z.2)]) (λz=>[some (6,map zf z.1),sT (Ul)]) (λb=>[(1,.msl 0 0 (length b))]) (λb=>[some (6,map zf b)]) (pF f98 (λr=>.msl 0 0 (length r)) λr=>[some (6,map zf r)]) ⟨[.fresh 6,0],cv y (.nilown y)<|cv y (.msl y)<|ce y y<|ce y y<|cn,y,⟨w,⟨_,y,Zb (λ_=>y)⟩,t⟩,y,k⟩ ?_ ?_
 .rintro ⟨a,c⟩ r h;refine A ?_;refine ze ?_;apply Xa h y<;>intro f h
  .refine zd<|ze<|zh ?_;obtain ⟨d,q,h⟩:=bs h;refine A ?_;refine A ?_;refine Xz (X:=T0) (λz=>[(1,.msl 0 0 (length a)),(4,.mpt 1 0 0),(5,.msl 2 0 (length (Ul))),(6,iA ((length (Ul)):Int)),(7,iA c)]) (λz=>[some (6,map zf a),some (6,[[sA d,sA z,bA false,nS,nS,nS]]),sT (Ul)]) (λz=>zlZ a c d z=some r) ?_ ?_
   .refine A ?_;apply Xa h y<;>intro i h
    .obtain ⟨l,j,h⟩:=bs h;exact rl y<|u<|bl 3 ti y ti y (by decide) (by decide) y y y<|u<|mv y<|zx (env0:=[(1,.msl 0 0 (length a)),(4,.mpt 1 0 0),(5,.msl 2 0 (length (Ul))),(6,iA ((length (Ul)):Int)),(7,iA c),(16,.msl 3 0 (length ([[],[79,98,106,101,99,116]]))),(17,iA c)]) (st0:=[some (6,map zf a),some (6,[[sA d,sA [84,104,114,111,119,110],bA false,nS,nS,nS]]),sT (Ul),sT ([[],[79,98,106,101,99,116]])]) (zl [0,2,1,3])<|u<|ixM ti y ti y y y y j<|u<|ldM ti y y (zz j).2.2 y<|u<|fa ti y y y<|u<|sto ti y y y<|zo (⟨l,h,zl [0,1,2]⟩)
    .refine zd ?_;exact ⟨[84,104,114,111,119,110],h,zl [0,2,1]⟩
   .rintro e h;obtain ⟨n,m,h⟩:=bs h;refine A ?_;refine zx (env0:=[(5,.msl 0 0 (length (Ul))),(6,iA ((length (Ul)):Int)),(7,iA c),(21,.msl 1 0 (length a)),(23,.msl 2 0 (length ([(za.mk d e false [] [] [])])))]) (st0:=[sT (Ul),some (6,map zf a),some (6,map zf ([(za.mk d e false [] [] [])]))]) (zl [2,0,3])<|u<|apM 3 ti y ti y y (by decide) ti y y y y (roM y) (λ_=>y) y m<|A ?_;refine A ?_;cases h;exact ⟨_,y,zl [3,0]⟩
  .refine zs ?_;cases h;exact ⟨y,_,y,zl [0]⟩
 .rintro p rfl;refine zm<|A ?_;exact RT1
def Ow(a:za):Option (T1):=
  (Xx 16 [a.Super] a.Impl).bind λb=>some b
theorem zlY(a:za){r:T1}(h:Ow a=some r):SC prog 100 [.agg (zf a)] [] (.msl 0 0 (length r)) [.many 1 (map Xe r)]:=by
 refine ⟨⟨Xw (sz:=1) (λ_=>y),t⟩,zZ func100 y kz y ?_⟩;refine A ?_;obtain ⟨c,b,h⟩:=bs h;refine A ?_;refine u<|apM (l:=[a.Super]) (f:=Xe) 2 ti y ti y y (by decide) ti y y y y roI (λ_=>y) y b<|A ?_;refine zy ?_;cases h;exact ⟨_,y,Ho [2]⟩
def U7(c:List za)(a:T2)(b:T0):Bool:=
  (Option.isSome (Za b a))
theorem zmA(b:List za)(a:T2)(c:T0){r:Bool}(h:U7 b a c=r):Xm prog 102 [.ipt 2 [[cL b,mI a]] 0 0,sA c] (bA r):=by
 refine zi func102 y kz y y ?_;unfold U7 at h;refine A ?_;refine ze<|A ?_;refine U5 y (λhx=>by cases hx) (λ_=>?_);refine zd<|A ?_;refine u<|zHw (g:=(λx=>iA x)) (z:=0) (l:=a) y ti y y y y<|A ?_;refine A ?_;refine zy ?_;obtain rfl:=h;exact ⟨_,y,Xb []⟩
instance (a:List za)(b:T2)(c:T0):PF prog 102 [.ipt 2 [[cL a,mI b]] 0 0,sA c] (some (U7 a b c)) bA:=.of λ_=>zmA a b c
def zn0(a:T0)(b:List za)(c:T2):Bool:=
  (!(U7 b c a))
instance (a:T0)(b:List za)(c:T2):PF prog 101 [sA a,.ipt 1 [[.ipt 2 [[cL b,mI c]] 0 0]] 0 0] (some (zn0 a b c)) bA:=.of λr h=>by
 refine zi func101 y kz y y ?_;unfold zn0 at h;refine A ?_;refine A ?_;refine zy ?_;obtain rfl:=h;exact ⟨_,y,Xb []⟩
def zeL:Option (Int):=
  some (-1)
def zbj(b:T1)(c:List za)(d:T2)(a:Int):zL (Int) (Unit) (Int):=
  cond (decide (a<(length b:Int))) ((idx b a).bind λe=>cond (zn0 e c d) (some (.inr (.inr a))) (some (.inl (i64.wrap (a+1))))) (some (.inr (.inl ())))
def zcS(a:T1)(c:List za)(d:T2):Option (Int):=
  (zp (λz=>zbj a c d z) 0).bind λo=>zH o (λb=>zeL) some
instance (a:T1)(c:List za)(d:T2):PF prog 181 [tL a,.fn (.func 101) [] [.ipt 1 [[.ipt 2 [[cL c,mI d]] 0 0]] 0 0]] (zcS a c d) iA:=⟨λr h=>by
 refine zi func181 y kz y y<|A ?_;refine ze<|A ?_;obtain ⟨o,ho,h⟩:=bs h;refine lpB ho (λz=>[(0,tL a),(1,.fn (.func 101) [] [.ipt 1 [[.ipt 2 [[cL c,mI d]] 0 0]] 0 0]),(7,iA (length a:Int)),(8,iA z)]) (λz=>[]) (λb=>[]) (λb=>[]) (pG f181 iA) (Xd []) ?_ ?_
 .rintro i r h;refine A ?_;refine ze ?_;apply Xa h y<;>intro e h
  .refine zd<|ze<|zh<|A ?_;obtain ⟨j,l,h⟩:=bs h;refine A ?_;apply Xa h y<;>intro f h
   .refine A ?_;refine zy ?_;cases h;exact ⟨_,y,_,y,Xb []⟩
   .refine zd<|A ?_;cases h;exact ⟨_,y,zl []⟩
  .refine zs ?_;cases h;exact ⟨y,_,y,zl []⟩
 .rintro ⟨⟩ rfl;refine zm<|A ?_
  exact RT0⟩
def zaz(a:T1)(b:List za)(c:T2):Option (Bool):=
  (zcS a b c).bind λd=>some (decide (0≤d))
theorem zd3(a:T1)(b:List za)(c:T2){r:Bool}(h:zaz a b c=some r):Xm prog 99 [tL a,.fn (.func 101) [] [.ipt 1 [[.ipt 2 [[cL b,mI c]] 0 0]] 0 0]] (bA r):=by
 refine zi func99 y kz y y<|A ?_;obtain ⟨d,e,h⟩:=bs h;refine A ?_;exact RT0
instance (a:T1)(b:List za)(c:T2):PF prog 99 [tL a,.fn (.func 101) [] [.ipt 1 [[.ipt 2 [[cL b,mI c]] 0 0]] 0 0]] (zaz a b c) bA:=⟨λ_=>zd3 a b c⟩
def Hg(a:List za)(b:T2)(c:T0):Option (za):=
  (idx a (Option.getD (Za c b) 0)).bind λd=>some d
instance (b:List za)(a:T2)(c:T0):PF prog 182 [.ipt 2 [[cL b,mI a]] 0 0,sA c] (Hg b a c) (λr=>(.agg (zf r))):=⟨λr h=>by
 refine zi func182 y kz y y<|A ?_;obtain ⟨d,e,h⟩:=bs h;refine rdA [(4,_)] [some (6,[(zf d)])] [12] [0,1,2,3,4,5,6,7,8,9,10,11] [(16,_),(15,_),(14,_),(13,_),(12,_),(11,_),(10,_),(9,_),(8,_),(7,_),(6,_),(5,_)] 1 (Xj ⟨peC,peC,peC,peC,peC,peC,peC,peC,peC,(by exact pb y (zHV (g:=(λx=>iA x)) (z:=0) (l:=a) y ti y y y y<|w)),peC,peC,t⟩ (by exact ⟨(λ_ _=>⟨_,y,y,sto ti y y y<|⟨.any,[],[],y,y,y,t,Xk (z:=Xd [0])⟩⟩),t⟩)) ?_
 exact RT0⟩
def zjx(a:T0)(b:List za)(c:T2):Option (Bool):=
  (Hg b c a).bind λd=>some (!d.Interface)
instance (a:T0)(b:List za)(c:T2):PF prog 183 [sA a,.ipt 1 [[.ipt 2 [[cL b,mI c]] 0 0]] 0 0] (zjx a b c) bA:=⟨λr h=>by
 refine zi func183 y kz y y<|A ?_;obtain ⟨d,e,h⟩:=bs h;refine A ?_
 exact RT0⟩
def zeM:Option (Int):=
  some (-1)
def zbk(b:T1)(c:List za)(d:T2)(a:Int):zL (Int) (Unit) (Int):=
  cond (decide (a<(length b:Int))) ((idx b a).bind λe=>(zjx e c d).bind λf=>cond f (some (.inr (.inr a))) (some (.inl (i64.wrap (a+1))))) (some (.inr (.inl ())))
def zcT(a:T1)(c:List za)(d:T2):Option (Int):=
  (zp (λz=>zbk a c d z) 0).bind λo=>zH o (λb=>zeM) some
instance (a:T1)(c:List za)(d:T2):PF prog 181 [tL a,.fn (.func 183) [] [.ipt 1 [[.ipt 2 [[cL c,mI d]] 0 0]] 0 0]] (zcT a c d) iA:=⟨λr h=>by
 refine zi func181 y kz y y<|A ?_;refine ze<|A ?_;obtain ⟨o,ho,h⟩:=bs h;refine lpB ho (λz=>[(0,tL a),(1,.fn (.func 183) [] [.ipt 1 [[.ipt 2 [[cL c,mI d]] 0 0]] 0 0]),(7,iA (length a:Int)),(8,iA z)]) (λz=>[]) (λb=>[]) (λb=>[]) (pG f181 iA) (Xd []) ?_ ?_
 .rintro i r h;refine A ?_;refine ze ?_;apply Xa h y<;>intro e h
  .refine zd<|ze<|zh<|A ?_;obtain ⟨j,l,m,n,h⟩:=bs2 h;refine A ?_;apply Xa h y<;>intro f h
   .refine A ?_;refine zy ?_;cases h;exact ⟨_,y,_,y,Xb []⟩
   .refine zd<|A ?_;cases h;exact ⟨_,y,zl []⟩
  .refine zs ?_;cases h;exact ⟨y,_,y,zl []⟩
 .rintro ⟨⟩ rfl;refine zm<|A ?_
  exact RT0⟩
def zaA(a:T1)(b:List za)(c:T2):Option (Bool):=
  (zcT a b c).bind λd=>some (decide (0≤d))
theorem zd4(a:T1)(b:List za)(c:T2){r:Bool}(h:zaA a b c=some r):Xm prog 99 [tL a,.fn (.func 183) [] [.ipt 1 [[.ipt 2 [[cL b,mI c]] 0 0]] 0 0]] (bA r):=by
 refine zi func99 y kz y y<|A ?_;obtain ⟨d,e,h⟩:=bs h;refine A ?_;exact RT0
instance (a:T1)(b:List za)(c:T2):PF prog 99 [tL a,.fn (.func 183) [] [.ipt 1 [[.ipt 2 [[cL b,mI c]] 0 0]] 0 0]] (zaA a b c) bA:=⟨λ_=>zd4 a b c⟩
def zps:Option (Bool):=
  some true
def zlo(a:Int)(b:T1):zL (T1×Int) (Unit) (Bool):=
  some (.inl (b,(i64.wrap (a+1))))
def zhg(a:Int)(b:T1):zL (T1×Int) (T1) (Bool):=
  some (.inl (b,(i64.wrap (a+1))))
def Ey(d:T1)(a:T1)(b:Int):zL (T1×Int) (T1) (Bool):=
  cond (decide (b<((length d):Int))) ((idx d b).bind λc=>(cond (!(c == [])) ((zR a c).bind λe=>some (!e)) (some false)).bind λf=>cond f ((Xx 16 a [c]).bind λi=>zhg b i) (zhg b a)) (some (.inr (.inl a)))
def Bd(j:List za)(l:T2)(m:za)(a:T1)(c:Int):zL (T1×Int) (Unit) (Bool):=
  cond (decide (c<((length a):Int))) ((idx a c).bind λd=>cond (d == m.Name) (some (.inr (.inr false))) ((idx a c).bind λe=>(Hg j l e).bind λf=>(Ow f).bind λi=>(zp (λz=>Ey i z.1 z.2) (a,0)).bind λo=>zH o (λb=>zlo c b) (λr=>some (.inr (.inr r))))) (some (.inr (.inl ())))
def O2(c:List za)(d:T2)(a:za):Option (Bool):=
  (Hg c d a.Super).bind λe=>(cond e.Interface (some true) ((zaA a.Impl c d).bind λf=>some f)).bind λi=>cond i (some false) ((Ow a).bind λj=>(zp (λz=>Bd c d a z.1 z.2) (j,0)).bind λo=>zH o (λb=>zps) some)
theorem zlp(e:List za)(i:T2)(c:za){r:Bool}(h:O2 e i c=some r):Xm prog 103 [.ipt 2 [[cL e,mI i]] 0 0,.agg (zf c)] (bA r):=by
 refine zi func103 y kz y y<|A ?_;refine ze ?_;obtain ⟨v4,q1,O,n,h⟩:=bs2 h;refine A ?_;refine ZK (x:=O) (j:=5) 4 y y y y y gpn (λm=>by replace n:=bF m n;obtain ⟨v5,P,n⟩:=bs n;obtain rfl:=sm n;exact g y m<|fa ti y y y<|g y m<|ld ti y y<|g y m<|mf y y<|g y m<|pcs (zd4 c.Impl e i P) y y (.cons (si y) (.cons (Zt t ⟨(XO y ⟨(si y),t⟩),t⟩) .nil)) XD<|zo (eg [15,16,17,18] 4 y y y y)) (λhb=>(sm (bT hb n)).symm)<|zo ?_;apply Xa h y<;>intro G h
 .refine A ?_;exact RT0
 .refine zd ?_;obtain ⟨H,Q,h⟩:=bs h;refine A ?_;refine u<|sx [] (zlY c Q)<|zx (env0:=[(2,.mpt 0 0 0),(3,.mpt 1 0 0),(21,.msl 2 0 (length H))]) (st0:=[some (1,[[.ipt 2 [[cL e,mI i]] 0 0]]),some (6,[(zf c)]),sT H]) (zl [0,1,2])<|A ?_;refine ze<|A ?_;obtain ⟨o,ho,h⟩:=bs h;refine lpB ho (λz=>[(2,.mpt 0 0 0),(3,.mpt 1 0 0),(5,.msl 2 0 (length z.1)),(6,iA z.2)]) (λz=>[some (1,[[.ipt 2 [[cL e,mI i]] 0 0]]),some (6,[(zf c)]),sT z.1]) (λb=>[]) (λb=>[]) (pG f103 bA) (Xd [0,1,2]) ?_ ?_
  .rintro ⟨q,p⟩ r h;refine ze<|A ?_;apply Xa h y<;>intro C h
   .refine zd<|ze<|zh<|ze ?_;obtain ⟨R,S,h⟩:=bs h;refine rdA [(2,_),(3,_),(5,_),(6,_),(34,_)] [some (1,[[.ipt 2 [[cL e,mI i]] 0 0]]),some (6,[(zf c)]),sT q] [] [0,1,2,3,4,5,6] [(34,_),(33,_),(32,_),(31,_),(30,_),(29,_),(28,_)] 0 (Xk (z:=Xd [0,1,2])) ?_;apply Xa h y<;>intro D h
    .refine A ?_;refine zy ?_;cases h;exact ⟨_,y,_,y,Xb []⟩
    .refine zd ?_;obtain ⟨T,U,I,V,a,J,h⟩:=bs3 h;refine rdA [(2,_),(3,_),(5,_),(6,_),(41,_),(42,_),(43,_)] [some (1,[[.ipt 2 [[cL e,mI i]] 0 0]]),some (6,[(zf c)]),sT q,sT a] [6] [0,1,2,3,4,5,8] [(43,_),(40,_),(39,_),(38,_),(37,_),(36,_),(35,_)] 1 (Xj (z:=by exact ⟨(λ_ _=>⟨_,y,y,sx [] (zlY I J)<|⟨(.msl 3 0 (length a)),[7],[(42,_),(41,_)],y,y,y,y,Xk (z:=Xd [0,1,2,3])⟩⟩),t⟩)) ?_;obtain ⟨o,ho,h⟩:=bs h;refine lpS ho (λz=>[(2,.mpt 0 0 0),(3,.mpt 1 0 0),(5,.msl 2 0 (length z.1)),(6,iA p),(41,.msl 3 0 (length a)),(42,iA ((length a):Int)),(43,iA z.2)]) (λz=>[some (1,[[.ipt 2 [[cL e,mI i]] 0 0]]),some (6,[(zf c)]),sT z.1,sT a]) (λb=>[(2,.mpt 0 0 0),(3,.mpt 1 0 0),(5,.msl 2 0 (length b)),(6,iA p)]) (λb=>[some (1,[[.ipt 2 [[cL e,mI i]] 0 0]]),some (6,[(zf c)]),sT b]) (pG f103 bA) (Xd [0,1,2,3]) ?_ ?_ ?_
     .rintro ⟨s,v⟩ r h;refine A ?_;refine ze ?_;apply Xa h y<;>intro E h
      .refine zd ?_;refine Xz (X:=T1) (λz=>[(2,.mpt 0 0 0),(3,.mpt 1 0 0),(5,.msl 2 0 (length z)),(6,iA p),(41,.msl 3 0 (length a)),(42,iA ((length a):Int)),(43,iA v)]) (λz=>[some (1,[[.ipt 2 [[cL e,mI i]] 0 0]]),some (6,[(zf c)]),sT z,sT a]) (λz=>zhg v z=some r) ?_ ?_
       .refine zh ?_;obtain ⟨B,W,h⟩:=bs h;refine A ?_;obtain ⟨K,l,h⟩:=bs h;refine A ?_;refine X1 (x:=K) (j:=2) 4 y y y y y gpn (λd=>by replace l:=bT d l;obtain ⟨Y,L,l⟩:=bs l;obtain rfl:=sm l;exact g y d<|mv y<|g y d<|mv y<|g y d<|pcs (E3 s B L) y y (.cons (X9 y (λ_=>y)) (.cons (si y) .nil)) XD<|g y d<|nt y<|zo (eg [50,51,52,53] 4 y y y y)) (λhb=>(sm (bF hb l)).symm)<|zo ?_;apply Xa h y<;>intro F h
        .obtain ⟨M,N,h⟩:=bs h;refine A ?_;refine u<|apM 5 ti y ti y y (by decide) ti y y y y (roX (f:=Xe) (z:=[B]) y y) (λ_=>y) y N<|A ?_;exact (⟨M,h,zl [0,1,5,3]⟩)
        .refine zd ?_;exact ⟨s,h,zl [0,1,2,3]⟩
       .rintro Z h;refine A ?_;cases h;exact ⟨_,y,zl [0,1,2,3]⟩
      .refine zs ?_;cases h;exact ⟨y,_,y,zl [0,1,2]⟩
     .rintro v49 rfl;refine zm<|A ?_;cases h;exact ⟨_,y,zl [0,1,2]⟩
     .rintro r' rfl env st hp;cases h;exact ⟨_,y,hp⟩
   .refine zs ?_;cases h;exact ⟨y,_,y,zl []⟩
  .rintro ⟨⟩ rfl;refine zm<|A ?_;exact RT0
instance (a:List za)(b:T2)(c:za):PF prog 103 [.ipt 2 [[cL a,mI b]] 0 0,.agg (zf c)] (O2 a b c) bA:=⟨λ_=>zlp a b c⟩
def zwk(a:List za)(b:T2):Option ((Option zJ)×Int):=
  some ((some (zJ.mk a b)),0)
def OI(b:List za)(c:List za)(d:T2)(a:Int):zL (Int) (Unit) ((Option zJ)×Int):=
  cond (decide (a<(length b:Int))) ((idx b a).bind λe=>(O2 c d e).bind λf=>cond (!f) (some (.inr (.inr (none,1)))) (some (.inl (i64.wrap (a+1))))) (some (.inr (.inl ())))
def zrG(d:List za)(a:List za)(c:T2):Option ((Option zJ)×Int):=
  (zp (λz=>OI d a c z) 0).bind λo=>zH o (λb=>zwk a c) some
def OJ(b:List za)(c:List za)(d:T2)(a:Int):zL (Int) (Unit) ((Option zJ)×Int):=
  cond (decide (a<(length b:Int))) ((idx b a).bind λe=>(Ow e).bind λf=>(zaz f c d).bind λi=>cond i (some (.inr (.inr (none,4)))) (some (.inl (i64.wrap (a+1))))) (some (.inr (.inl ())))
def zrF(d:List za)(a:List za)(c:T2):Option ((Option zJ)×Int):=
  (zp (λz=>OJ d a c z) 0).bind λo=>zH o (λb=>zrG d a c) some
def GM(e:List za)(b:List za)(c:T2)(d:Int):zL ((List za)×T2×Int) ((List za)×T2) ((Option zJ)×Int):=
  cond (decide (d<(length e:Int))) ((idx e d).bind λa=>(cond (Option.isSome (Za a.Name c)) (some true) ((zpl a).bind λf=>some (!f))).bind λi=>cond i (some (.inr (.inr (none,1)))) ((Xx 112 b [a]).bind λj=>some (.inl (j,(ZM a.Name ((length b):Int) c),(i64.wrap (d+1)))))) (some (.inr (.inl (b,c))))
def zrE(a:List za)(c:(List za))(d:T2):Option ((Option zJ)×Int):=
  (zp (λz=>GM a z.1 z.2.1 z.2.2) (c,d,0)).bind λo=>zH o (λb=>zrF a b.1 b.2) some
def zrH(b:(List za))(c:T2)(a:Int):zL (T2×Int) (T2) ((Option zJ)×Int):=
  cond (decide (a<((length b):Int))) ((idx b a).bind λd=>some (.inl ((ZM d.Name a c),(i64.wrap (a+1))))) (some (.inr (.inl c)))
def DH(a:List za):Option ((Option zJ)×Int):=
  cond (decide (16<(length a:Int))) (some (none,3)) ((zqa).bind λc=>(zp (λz=>zrH c z.1 z.2) ([],0)).bind λo=>zH o (λb=>zrE a c b) some)
theorem zoN(c:List za){r:(Option zJ)×Int}(h:DH c=some r):Xm prog 22 [cL c] (.tup [XB 2 Zu r.1,iA r.2]):=by
 refine zi func22 y kz y (zxy (Z5 (Zs (λ_=>y)) (y))) ?_;refine A ?_;refine ze<|A ?_;apply Xa h y<;>intro H h
 .refine A ?_;exact RT0
 .refine zd ?_;obtain ⟨j,T,h⟩:=bs h;refine rg y<|u<|sx [] (ztK T)<|zx (env0:=[(0,cL c),(18,.msl 0 0 (length j))]) (st0:=[some (6,map zf j)]) (zl [0])<|u<|mmk (e:=3) 1 y y<|A ?_;refine ze<|A ?_;obtain ⟨o,ho,h⟩:=bs h;refine lpB ho (λz=>[(0,cL c),(4,.mpt 0 0 0),(25,.msl 2 0 (length j)),(26,iA ((length j):Int)),(27,iA z.2)]) (λz=>[some (1,[[.mpt 1 0 0]]),some (2,[[.msl 2 0 (length j),.mmp 3]]),some (6,map zf j),some (2,map (rKV (λx=>iA x)) z.1)]) (λb=>[(0,cL c),(4,.mpt 0 0 0)]) (λb=>[some (1,[[.mpt 1 0 0]]),some (2,[[.msl 2 0 (length j),.mmp 3]]),some (6,map zf j),some (2,map (rKV (λx=>iA x)) b)]) (pG f22 (λr=>.tup [XB 2 Zu r.1,iA r.2])) (Xd [3,2,0,1]) ?_ ?_
  .rintro ⟨I,J⟩ r h;refine A ?_;refine ze ?_;apply Xa h y<;>intro K h
   .refine zd<|ze<|zh ?_;obtain ⟨L,q6,h⟩:=bs h;refine A ?_;refine XA [(0,_),(4,_),(25,_),(26,_),(27,_)] [some (1,[[.mpt 1 0 0]]),some (2,[[.msl 2 0 (length j),.mmp 3]]),some (6,map zf j),some (2,map (rKV (λx=>iA x)) (ZM L.Name J I))] [7] [0,1,2,3,4,5,6] [(38,_),(37,_),(36,_),(35,_),(34,_),(33,_),(32,_)] 1 (Xj (z:=by exact ⟨(λ_ _=>⟨_,y,y,mup (v:=J) (g:=(λx=>iA x)) (l:=I) (s:=L.Name) y y y y y y<|⟨.any,[],[],y,y,y,t,Xk (z:=Xd [0,1,2,3])⟩⟩),t⟩)) ?_;refine A ?_;cases h;exact ⟨_,y,zl [0,1,2,3]⟩
   .refine zs ?_;cases h;exact ⟨y,_,y,zl [0,1,2,3]⟩
  .rintro v9 rfl;refine zm<|ze<|A ?_;obtain ⟨o,ho,h⟩:=bs h;refine lpB ho (λz=>[(0,cL c),(4,.mpt 0 0 0),(40,cL c),(41,iA (length c:Int)),(42,iA z.2.2)]) (λz=>[some (1,[[.mpt 1 0 0]]),some (2,[[.msl 2 0 (length z.1),.mmp 3]]),some (6,map zf z.1),some (2,map (rKV (λx=>iA x)) z.2.1)]) (λb=>[(0,cL c),(4,.mpt 0 0 0)]) (λb=>[some (1,[[.mpt 1 0 0]]),some (2,[[.msl 2 0 (length b.1),.mmp 3]]),some (6,map zf b.1),some (2,map (rKV (λx=>iA x)) b.2)]) (pG f22 (λr=>.tup [XB 2 Zu r.1,iA r.2])) (Xd [0,1,2,3]) ?_ ?_
   .rintro ⟨d,n,U⟩ r h;refine A ?_;refine ze ?_;apply Xa h y<;>intro B h
    .refine zd<|ze<|zh ?_;obtain ⟨m,V,h⟩:=bs h;refine A ?_;refine ze ?_;refine rdA [(0,_),(4,_),(8,_),(10,_),(40,_),(41,_),(42,_)] [some (1,[[.mpt 1 0 0]]),some (2,[[.msl 2 0 (length d),.mmp 3]]),some (6,map zf d),some (2,map (rKV (λx=>iA x)) n),some (6,[(zf m)])] [] [0,1,2,3,4,5,6,7,8,9,10,11] [(10,_),(9,_),(55,_),(54,_),(46,_),(53,_),(52,_),(51,_),(50,_),(49,_),(48,_),(47,_)] 0 (Xk ⟨peC,peC,peC,peC,peC,peC,(by exact pb y (zHw (g:=(λx=>iA x)) (z:=0) (l:=n) y ti y y y y<|w)),peC,peC,peC,peC,peC,t⟩ (Xd [0,1,2,3,4])) ?_;obtain ⟨W,X,h⟩:=bs h;refine A ?_;apply Xa h y<;>intro C h
     .refine A ?_;refine zy ?_;cases h;exact ⟨_,y,_,y,Xb []⟩
     .refine zd ?_;refine rdA [(0,_),(4,_),(8,_),(40,_),(41,_),(42,_)] [some (1,[[.mpt 1 0 0]]),some (2,[[.msl 2 0 (length d),.mmp 3]]),some (6,map zf d),some (2,map (rKV (λx=>iA x)) (ZM m.Name ((length d):Int) n)),some (6,[(zf m)])] [11] [0,1,2,3,4,5,6,7,8,9,10] [(72,_),(71,_),(70,_),(69,_),(68,_),(67,_),(66,_),(65,_),(64,_),(63,_),(62,_)] 1 (Xj (z:=by exact ⟨(λ_ _=>⟨_,y,y,mup (v:=((length d):Int)) (g:=(λx=>iA x)) (l:=n) (s:=m.Name) y y y y y y<|⟨.any,[],[],y,y,y,t,Xk (z:=Xd [0,1,2,3,4])⟩⟩),t⟩)) ?_;obtain ⟨p,M,h⟩:=bs h;refine XA [(0,_),(4,_),(40,_),(41,_),(42,_)] [some (1,[[.mpt 1 0 0]]),some (2,[[.msl 2 0 (length p),.mmp 3]]),some (6,map zf p),some (2,map (rKV (λx=>iA x)) (ZM m.Name ((length d):Int) n))] [6,7,10] [0,1,2,3,4,5] [(78,_),(77,_),(76,_),(75,_),(74,_),(73,_)] 3 (Xj (z:=by exact ⟨(λ_ _=>⟨_,y,y,bl 5 ti y ti y (by decide) (by decide) y y y<|⟨(.msl 5 0 1),[],[(79,_)],y,y,y,y,Xj (z:=by exact ⟨nv,(λ_ _=>⟨_,y,y,apM 6 ti y ti y y (by decide) ti y y y y (roX (f:=zf) (z:=[m]) y y) (λ_=>y) y M<|⟨(.msl 6 0 (length p)),[8,9],[(82,_),(81,_),(80,_)],y,y,y,y,Xj (z:=by exact ⟨nv,nv,(λ_ _=>⟨_,y,y,sto ti y y y<|⟨.any,[],[],y,y,y,t,Xk (z:=Xd [0,1,6,3])⟩⟩),t⟩)⟩⟩),nw,t⟩)⟩⟩),nw,nw,t⟩)) ?_;refine A ?_;cases h;exact ⟨_,y,zl [0,1,2,3]⟩
    .refine zs ?_;cases h;exact ⟨y,_,y,zl [0,1,2,3]⟩
   .rintro ⟨a,i⟩ rfl;refine zm<|ze<|A ?_;obtain ⟨o,ho,h⟩:=bs h;refine lpB ho (λz=>[(0,cL c),(4,.mpt 0 0 0),(84,cL c),(85,iA (length c:Int)),(86,iA z)]) (λz=>[some (1,[[.mpt 1 0 0]]),some (2,[[.msl 2 0 (length a),.mmp 3]]),some (6,map zf a),some (2,map (rKV (λx=>iA x)) i)]) (λb=>[(0,cL c),(4,.mpt 0 0 0)]) (λb=>[some (1,[[.mpt 1 0 0]]),some (2,[[.msl 2 0 (length a),.mmp 3]]),some (6,map zf a),some (2,map (rKV (λx=>iA x)) i)]) (pG f22 (λr=>.tup [XB 2 Zu r.1,iA r.2])) (Xd [0,1,2,3]) ?_ ?_
    .rintro N r h;refine A ?_;refine ze ?_;apply Xa h y<;>intro D h
     .refine zd<|ze<|zh ?_;obtain ⟨O,Y,h⟩:=bs h;refine A ?_;obtain ⟨q,P,Z,Q,h⟩:=bs2 h;refine rg y<|u<|ld ti y y<|u<|sx [] (zlY O P)<|zx (env0:=[(0,cL c),(4,.mpt 0 0 0),(84,cL c),(85,iA (length c:Int)),(86,iA N),(91,.msl 4 0 (length q))]) (st0:=[some (1,[[.mpt 1 0 0]]),some (2,[[.msl 2 0 (length a),.mmp 3]]),some (6,map zf a),some (2,map (rKV (λx=>iA x)) i),sT q]) (zl [0,1,2,3,5])<|u<|mf y y<|u<|pcs (zd3 q a i Q) y y (.cons (X9 y (λ_=>y)) (.cons (Zt t ⟨(XO y ⟨(XO y ⟨(X9 y (λ_=>y)),(zBj y (λ_=>y)),t⟩),t⟩),t⟩) .nil)) XD<|zo ?_;apply Xa h y<;>intro E h
      .refine A ?_;refine zy ?_;cases h;exact ⟨_,y,_,y,Xb []⟩
      .refine zd<|A ?_;cases h;exact ⟨_,y,zl [0,1,2,3]⟩
     .refine zs ?_;cases h;exact ⟨y,_,y,zl [0,1,2,3]⟩
    .rintro ⟨⟩ rfl;refine zm<|ze<|A ?_;obtain ⟨o,ho,h⟩:=bs h;refine lpB ho (λz=>[(4,.mpt 0 0 0),(95,cL c),(96,iA (length c:Int)),(97,iA z)]) (λz=>[some (1,[[.mpt 1 0 0]]),some (2,[[.msl 2 0 (length a),.mmp 3]]),some (6,map zf a),some (2,map (rKV (λx=>iA x)) i)]) (λb=>[(4,.mpt 0 0 0)]) (λb=>[some (1,[[.mpt 1 0 0]]),some (2,[[.msl 2 0 (length a),.mmp 3]]),some (6,map zf a),some (2,map (rKV (λx=>iA x)) i)]) (pG f22 (λr=>.tup [XB 2 Zu r.1,iA r.2])) (Xd [0,1,2,3]) ?_ ?_
     .rintro v37 r h;refine A ?_;refine ze ?_;apply Xa h y<;>intro F h
      .refine zd<|ze<|zh ?_;obtain ⟨R,q36,h⟩:=bs h;refine A ?_;obtain ⟨v39,S,h⟩:=bs h;refine A ?_;refine u<|pcs (zlp a i R S) y y (.cons (XO y ⟨(X9 y (λ_=>y)),(zBj y (λ_=>y)),t⟩) (.cons (si y) .nil)) XD<|A ?_;apply Xa h y<;>intro G h
       .refine A ?_;refine zy ?_;cases h;exact ⟨_,y,_,y,Xb []⟩
       .refine zd<|A ?_;cases h;exact ⟨_,y,zl [0,1,2,3]⟩
      .refine zs ?_;cases h;exact ⟨y,_,y,zl [0,1,2,3]⟩
     .rintro ⟨⟩ rfl;refine zm<|A ?_;refine zy ?_;cases h;exact ⟨_,y,[],Gu ⟨(rsP y y ⟨(K8 y y (λ_=>y)),(zBf y y (λ_=>y)),t⟩ y),(ci y),t⟩,y,t,y,k⟩
instance (a:List za):PF prog 22 [cL a] (DH a) (λr=>(.tup [XB 2 Zu r.1,iA r.2])):=⟨λ_=>zoN a⟩
def zsu(x:zj):Prop:=(wS) x.Name/\(wS) x.Type_/\(wT) x.Static
theorem zyF{n:Nat}{avs:List AV}(h:Zn prog (n+2) 42 avs):∃x:zj,avs=zv x/\zsu x:=by
 obtain ⟨parts,rfl,hl,hg⟩:=gdF underlying42 h
 match parts,hl with
 | [p0,p1,p2],_ =>
  obtain ⟨x0,rfl,w0⟩:=gdS underlying9 (hg 0 _ p0 rfl rfl);obtain ⟨x1,rfl,w1⟩:=gdS underlying9 (hg 1 _ p1 rfl rfl);obtain ⟨x2,rfl,w2⟩:=gdB underlying4 (hg 2 _ p2 rfl rfl);exact ⟨⟨x0,x1,x2⟩,rfl,w0,w1,w2⟩
def B7(x:zr):Prop:=(wI .i64) x.Op/\(wI .i64) x.A/\(wS) x.C/\(wS) x.M
theorem zCt{n:Nat}{avs:List AV}(h:Zn prog (n+2) 40 avs):∃x:zr,avs=zn x/\B7 x:=by
 obtain ⟨parts,rfl,hl,hg⟩:=gdF underlying40 h
 match parts,hl with
 | [p0,p1,p2,p3],_ =>
  obtain ⟨x0,rfl,w0⟩:=gdI underlying3 (hg 0 _ p0 rfl rfl);obtain ⟨x1,rfl,w1⟩:=gdI underlying3 (hg 1 _ p1 rfl rfl);obtain ⟨x2,rfl,w2⟩:=gdS underlying9 (hg 2 _ p2 rfl rfl);obtain ⟨x3,rfl,w3⟩:=gdS underlying9 (hg 3 _ p3 rfl rfl);exact ⟨⟨x0,x1,x2,x3⟩,rfl,w0,w1,w2,w3⟩
def B6(x:zS):Prop:=(wI .i64) x.At/\(wL (wS)) x.Locals/\(wL (wS)) x.Stack
theorem zCu{n:Nat}{avs:List AV}(h:Zn prog (n+3) 80 avs):∃x:zS,avs=zA x/\B6 x:=by
 obtain ⟨parts,rfl,hl,hg⟩:=gdF underlying80 h
 match parts,hl with
 | [p0,p1,p2],_ =>
  obtain ⟨x0,rfl,w0⟩:=gdI underlying3 (hg 0 _ p0 rfl rfl);obtain ⟨x1,rfl,w1⟩:=gdL (k:=1) underlying22 (by kernel_rfl) (λh=>gdS underlying9 h) (hg 1 _ p1 rfl rfl);obtain ⟨x2,rfl,w2⟩:=gdL (k:=1) underlying22 (by kernel_rfl) (λh=>gdS underlying9 h) (hg 2 _ p2 rfl rfl);exact ⟨⟨x0,x1,x2⟩,rfl,w0,w1,w2⟩
def zuv(x:zT):Prop:=(wI .i64) x.From/\(wI .i64) x.To/\(wI .i64) x.At/\(wS) x.C
theorem zAj{n:Nat}{avs:List AV}(h:Zn prog (n+2) 88 avs):∃x:zT,avs=zY x/\zuv x:=by
 obtain ⟨parts,rfl,hl,hg⟩:=gdF underlying88 h
 match parts,hl with
 | [p0,p1,p2,p3],_ =>
  obtain ⟨x0,rfl,w0⟩:=gdI underlying3 (hg 0 _ p0 rfl rfl);obtain ⟨x1,rfl,w1⟩:=gdI underlying3 (hg 1 _ p1 rfl rfl);obtain ⟨x2,rfl,w2⟩:=gdI underlying3 (hg 2 _ p2 rfl rfl);obtain ⟨x3,rfl,w3⟩:=gdS underlying9 (hg 3 _ p3 rfl rfl);exact ⟨⟨x0,x1,x2,x3⟩,rfl,w0,w1,w2,w3⟩
def Oy(x:zb):Prop:=(wS) x.Name/\(wL (wS)) x.Params/\(wS) x.Ret/\(wT) x.Static/\(wT) x.Abstract/\(wI .i64) x.Locals/\(wI .i64) x.Stack/\(wL (B7)) x.Code/\(wL (B6)) x.Maps/\(wL (zuv)) x.Traps
theorem zwj{n:Nat}{avs:List AV}(h:Zn prog (n+5) 38 avs):∃x:zb,avs=zc x/\Oy x:=by
 obtain ⟨parts,rfl,hl,hg⟩:=gdF underlying38 h
 match parts,hl with
 | [p0,p1,p2,p3,p4,p5,p6,p7,p8,p9],_ =>
  obtain ⟨x0,rfl,w0⟩:=gdS underlying9 (hg 0 _ p0 rfl rfl);obtain ⟨x1,rfl,w1⟩:=gdL (k:=1) underlying22 (by kernel_rfl) (λh=>gdS underlying9 h) (hg 1 _ p1 rfl rfl);obtain ⟨x2,rfl,w2⟩:=gdS underlying9 (hg 2 _ p2 rfl rfl);obtain ⟨x3,rfl,w3⟩:=gdB underlying4 (hg 3 _ p3 rfl rfl);obtain ⟨x4,rfl,w4⟩:=gdB underlying4 (hg 4 _ p4 rfl rfl);obtain ⟨x5,rfl,w5⟩:=gdI underlying3 (hg 5 _ p5 rfl rfl);obtain ⟨x6,rfl,w6⟩:=gdI underlying3 (hg 6 _ p6 rfl rfl);obtain ⟨x7,rfl,w7⟩:=gdL (k:=4) underlying34 (by kernel_rfl) (λh=>zCt h) (hg 7 _ p7 rfl rfl);obtain ⟨x8,rfl,w8⟩:=gdL (k:=3) underlying35 (by kernel_rfl) (λh=>zCu h) (hg 8 _ p8 rfl rfl);obtain ⟨x9,rfl,w9⟩:=gdL (k:=4) underlying36 (by kernel_rfl) (λh=>zAj h) (hg 9 _ p9 rfl rfl);exact ⟨⟨x0,x1,x2,x3,x4,x5,x6,x7,x8,x9⟩,rfl,w0,w1,w2,w3,w4,w5,w6,w7,w8,w9⟩
def Ui(x:za):Prop:=(wS) x.Name/\(wS) x.Super/\(wT) x.Interface/\(wL (wS)) x.Impl/\(wL (zsu)) x.Fields/\(wL (Oy)) x.Methods
theorem zyD{n:Nat}{avs:List AV}(h:Zn prog (n+7) 26 avs):∃x:za,avs=zf x/\Ui x:=by
 obtain ⟨parts,rfl,hl,hg⟩:=gdF underlying26 h
 match parts,hl with
 | [p0,p1,p2,p3,p4,p5],_ =>
  obtain ⟨x0,rfl,w0⟩:=gdS underlying9 (hg 0 _ p0 rfl rfl);obtain ⟨x1,rfl,w1⟩:=gdS underlying9 (hg 1 _ p1 rfl rfl);obtain ⟨x2,rfl,w2⟩:=gdB underlying4 (hg 2 _ p2 rfl rfl);obtain ⟨x3,rfl,w3⟩:=gdL (k:=1) underlying22 (by kernel_rfl) (λh=>gdS underlying9 h) (hg 3 _ p3 rfl rfl);obtain ⟨x4,rfl,w4⟩:=gdL (k:=3) underlying23 (by kernel_rfl) (λh=>zyF h) (hg 4 _ p4 rfl rfl);obtain ⟨x5,rfl,w5⟩:=gdL (k:=10) underlying24 (by kernel_rfl) (λh=>zwj h) (hg 5 _ p5 rfl rfl);exact ⟨⟨x0,x1,x2,x3,x4,x5⟩,rfl,w0,w1,w2,w3,w4,w5⟩
structure zB where
  L:List za
def U6(x:zB):List AV:=[cL x.L]
def zuk(a:List za):Option ((List za)):=
  some a
def zmj(c:List za)(d:Int)(e:T0)(a:T0):zL ((List za)×Int) ((List za)) ((List za)):=
  (Xx 112 c ([(za.mk e a false [] [] [])])).bind λb=>some (.inl (b,(i64.wrap (d+1))))
def zmi(b:List za)(a:Int)(c:T0)(d:T0):zL ((List za)×Int) ((List za)) ((List za)):=
  cond (a == 1) (zmj b a c [79,98,106,101,99,116]) (zmj b a c d)
def zul(b:List za)(a:Int):zL ((List za)×Int) ((List za)) ((List za)):=
  cond (decide (a<((length (Km)):Int))) ((idx (Km) a).bind λc=>cond (a == 0) (zmi b a c []) (zmi b a c [84,104,114,111,119,110])) (some (.inr (.inl b)))
def zqn:Option ((List za)):=
  (zp (λz=>zul z.1 z.2) ([],0)).bind λo=>zH o (λb=>zuk b) some
theorem zum{r:(List za)}(h:zqn=some r):SC prog 110 [] [] (.msl 0 0 (length r)) [.many 6 (map zf r)]:=by
 refine ⟨⟨Xw (sz:=6) (λ_=>y),t⟩,zZ func110 y kz y ?_⟩;refine A ?_;refine rg y<|u<|sx [] (zui y)<|zx (env0:=[(5,.msl 0 0 (length (Km)))]) (st0:=[sT (Km)]) (zl [0])<|A ?_;refine A ?_;refine ze<|A ?_;obtain ⟨o,ho,h⟩:=bs h;refine lpB ho (λz=>[(1,.msl 0 0 (length (Km))),(2,.msl 1 0 (length z.1)),(3,iA z.2)]) (λz=>[sT (Km),some (6,map zf z.1)]) (λb=>[(2,.msl 0 0 (length b))]) (λb=>[some (6,map zf b)]) (pF f110 (λr=>.msl 0 0 (length r)) λr=>[some (6,map zf r)]) ⟨[0,.fresh 6],cv y (.msl y)<|cv y (.nilown y)<|ce y y<|cn,y,⟨⟨_,y,Zb (λ_=>y)⟩,w,t⟩,y,k⟩ ?_ ?_
 .rintro ⟨a,d⟩ r h;refine ze<|A ?_;apply Xa h y<;>intro f h
  .refine zd<|ze<|zh ?_;obtain ⟨c,q,h⟩:=bs h;refine A ?_;refine Xz (X:=T0) (λz=>[(1,.msl 0 0 (length (Km))),(2,.msl 1 0 (length a)),(3,iA d),(4,.mpt 2 0 0)]) (λz=>[sT (Km),some (6,map zf a),some (6,[[sA c,sA z,bA false,nS,nS,nS]])]) (λz=>zmi a d c z=some r) ?_ ?_
   .refine A ?_;apply Xa h y<;>intro i h
    .refine A ?_;exact (⟨[],h,zl [0,1,2]⟩)
    .refine zd ?_;exact ⟨[84,104,114,111,119,110],h,zl [0,1,2]⟩
   .rintro j h;refine Xz (X:=T0) (λz=>[(1,.msl 0 0 (length (Km))),(2,.msl 1 0 (length a)),(3,iA d),(4,.mpt 2 0 0)]) (λz=>[sT (Km),some (6,map zf a),some (6,[[sA c,sA z,bA false,nS,nS,nS]])]) (λz=>zmj a d c z=some r) ?_ ?_
    .refine A ?_;apply Xa h y<;>intro l h
     .refine A ?_;exact (⟨[79,98,106,101,99,116],h,zl [0,1,2]⟩)
     .refine zd ?_;exact ⟨j,h,zl [0,1,2]⟩
    .rintro e h;obtain ⟨n,m,h⟩:=bs h;refine A ?_;refine zx (env0:=[(1,.msl 0 0 (length (Km))),(3,iA d),(23,.msl 1 0 (length a)),(25,.msl 2 0 (length ([(za.mk c e false [] [] [])])))]) (st0:=[sT (Km),some (6,map zf a),some (6,map zf ([(za.mk c e false [] [] [])]))]) (zl [0,1,3])<|u<|apM 3 ti y ti y y (by decide) ti y y y y (roM y) (λ_=>y) y m<|A ?_;refine A ?_;cases h;exact ⟨_,y,zl [0,3]⟩
  .refine zs ?_;cases h;exact ⟨y,_,y,zl [1]⟩
 .rintro p rfl;refine zm<|A ?_;exact RT1
def znz:Option (Int):=
  some (-1)
def zis(b:List za)(c:T0)(a:Int):zL (Int) (Unit) (Int):=
  cond (decide (a<(length b:Int))) ((idx b a).bind λd=>cond (d.Name == c) (some (.inr (.inr a))) (some (.inl (i64.wrap (a+1))))) (some (.inr (.inl ())))
def zX(a:List za)(c:T0):Option (Int):=
  (zp (λz=>zis a c z) 0).bind λo=>zH o (λb=>znz) some
theorem D6(a:List za)(c:T0){r:Int}(h:zX a c=some r):Xm prog 56 [.ipt 1 [[cL a]] 0 0,sA c] (iA r):=by
 refine zi func56 y kz y y<|A ?_;refine ze<|A ?_;obtain ⟨o,ho,h⟩:=bs h;refine lpB ho (λz=>[(0,.ipt 1 [[cL a]] 0 0),(1,sA c),(5,iA z)]) (λz=>[]) (λb=>[]) (λb=>[]) (pG f56 iA) (Xd []) ?_ ?_
 .rintro f r h;refine ze<|A ?_;apply Xa h y<;>intro d h
  .refine zd<|ze<|zh ?_;obtain ⟨i,j,h⟩:=bs h;refine A ?_;apply Xa h y<;>intro e h
   .refine A ?_;refine zy ?_;cases h;exact ⟨_,y,_,y,Xb []⟩
   .refine zd<|A ?_;cases h;exact ⟨_,y,zl []⟩
  .refine zs ?_;cases h;exact ⟨y,_,y,zl []⟩
 .rintro ⟨⟩ rfl;refine zm<|A ?_;exact RT0
instance (a:List za)(b:T0):PF prog 56 [.ipt 1 [[cL a]] 0 0,sA b] (zX a b) iA:=⟨λ_=>D6 a b⟩
def zo5(c:Int)(a:List Bool):Option (Bool):=
  (idx a c).bind λb=>some b
def zks(a:List Bool)(b:Bool):zL ((List Bool)×Bool×Bool) ((List Bool)) (Bool):=
  some (.inl (a,b,false))
def zgu(a:Int)(b:List Bool)(c:Bool):zL ((List Bool)×Bool×Int) ((List Bool)×Bool) (Bool):=
  some (.inl (b,c,(i64.wrap (a+1))))
def zgv(a:Int)(b:List Bool)(c:Bool):zL ((List Bool)×Bool×Int) ((List Bool)×Bool) (Bool):=
  zgu a b c
def zgt(a:Int)(b:List Bool)(c:Bool):zL ((List Bool)×Bool×Int) ((List Bool)×Bool) (Bool):=
  some (.inl (b,c,(i64.wrap (a+1))))
def EB(l:List za)(d:T1)(a:List Bool)(e:Bool)(b:Int):zL ((List Bool)×Bool×Int) ((List Bool)×Bool) (Bool):=
  cond (decide (b<((length d):Int))) ((idx d b).bind λf=>(zX l f).bind λc=>(cond (decide (0≤c)) ((idx a c).bind λi=>some (!i)) (some false)).bind λj=>cond j ((idx a c).bind λm=>zgt b (List.set a (Int.toNat c) true) true) (zgt b a e)) (some (.inr (.inl (a,e))))
def Bi(e:List za)(n:Int)(m:Bool)(c:List Bool)(d:Bool)(a:Int):zL ((List Bool)×Bool×Int) ((List Bool)×Bool) (Bool):=
  cond (decide (a<(length e:Int))) ((idx c a).bind λf=>cond ((!f)&&(!(m&&(a == n)))) (zgu a c d) ((idx e a).bind λi=>(idx e a).bind λj=>(Xx 16 [i.Super] j.Impl).bind λl=>(zp (λz=>EB e l z.1 z.2.1 z.2.2) (c,d,0)).bind λo=>zH o (λb=>zgv a b.1 b.2) (λr=>some (.inr (.inr r))))) (some (.inr (.inl (c,d))))
def Bh(e:List za)(f:Int)(a:List Bool)(c:Bool)(d:Bool):zL ((List Bool)×Bool×Bool) ((List Bool)) (Bool):=
  cond c ((zp (λz=>Bi e f d z.1 z.2.1 z.2.2) (a,false,0)).bind λo=>zH o (λb=>zks b.1 b.2) (λr=>some (.inr (.inr r)))) (some (.inr (.inl a)))
def zha(a:List za)(c:Int):Option (Bool):=
  (mkP 1 (length a:Int)).bind λd=>(zp (λz=>Bh a c z.1 z.2.1 z.2.2) ((List.replicate d false),true,true)).bind λo=>zH o (λb=>zo5 c b) some
theorem zkY(c:List za)(e:Int){r:Bool}(h:zha c e=some r):Xm prog 112 [.ipt 1 [[cL c]] 0 0,iA e] (bA r):=by
 refine zi func112 y kz y y<|A ?_;obtain ⟨v3,M,h⟩:=bs h;refine A ?_;refine u<|mks (f:=rB) (z:=false) 0 ti y ti y y y y y y M<|A ?_;refine ze<|A ?_;obtain ⟨o,ho,h⟩:=bs h;refine lpB ho (λz=>[(0,.ipt 1 [[cL c]] 0 0),(1,iA e),(5,.msl 0 0 (length z.1)),(6,bA z.2.1),(7,bA z.2.2)]) (λz=>[some (1,map rB z.1)]) (λb=>[(1,iA e),(5,.msl 0 0 (length b))]) (λb=>[some (1,map rB b)]) (pG f112 bA) (Xd [0]) ?_ ?_
 .rintro ⟨v71,v72,i⟩ r h;refine ze<|A ?_;apply Xa h y<;>intro C h
  .refine zd<|ze<|zh<|A ?_;refine A ?_;obtain ⟨o,ho,h⟩:=bs h;refine lpS ho (λz=>[(0,.ipt 1 [[cL c]] 0 0),(1,iA e),(5,.msl 0 0 (length z.1)),(6,bA z.2.1),(7,bA i),(8,iA z.2.2)]) (λz=>[some (1,map rB z.1)]) (λb=>[(0,.ipt 1 [[cL c]] 0 0),(1,iA e),(5,.msl 0 0 (length b.1)),(6,bA b.2)]) (λb=>[some (1,map rB b.1)]) (pG f112 bA) (Xd [0]) ?_ ?_ ?_
   .rintro ⟨m,p,a⟩ r h;refine ze<|A ?_;apply Xa h y<;>intro D h
    .refine zd ?_;refine Xz (X:=(List Bool)×Bool) (λz=>[(0,.ipt 1 [[cL c]] 0 0),(1,iA e),(5,.msl 0 0 (length z.1)),(6,bA z.2),(7,bA i),(8,iA a)]) (λz=>[some (1,map rB z.1)]) (λz=>zgu a z.1 z.2=some r) ?_ ?_
     .refine zh<|ze ?_;obtain ⟨N,q74,h⟩:=bs h;refine A ?_;apply Xa h y<;>intro E h
      .refine zs ?_;exact ⟨⟨m,p⟩,h,zl [0]⟩
      .refine zd ?_;obtain ⟨q,n,F,j,d,K,h⟩:=bs3 h;refine rdA [(0,.ipt 1 [[cL c]] 0 0),(1,iA e),(5,.msl 0 0 (length m)),(6,bA p),(7,bA i),(8,iA a),(9,.msl 1 0 (length d))] [some (1,map rB m),sT d] [8,17] [16,15,14,13,12,11,10,9,7,6,5,4,3,2,1,0] [(58,tL F.Impl),(57,.ipt 6 (map zf c) (Int.toNat a) 3),(56,.ipt 6 (map zf c) (Int.toNat a) 0),(55,iA a),(54,cL c),(53,.ipt 1 [[cL c]] 0 0),(52,.ipt 1 [[cL c]] 0 0),(51,.ipt 1 [[cL c]] 0 0),(49,sA q.Super),(48,.ipt 6 (map zf c) (Int.toNat a) 1),(47,.ipt 6 (map zf c) (Int.toNat a) 0),(46,iA a),(45,cL c),(44,.ipt 1 [[cL c]] 0 0),(43,.ipt 1 [[cL c]] 0 0),(42,.ipt 1 [[cL c]] 0 0)] 2 (X5 ⟨(pb y (ldI ti y (zz j).2.2 y w)),(pb y (fa ti y y y w)),(pb y (ixI ti y ti y y y j w)),pe,(pb y (ld ti y y w)),(pb y (fa ti y y y w)),pe,pe,(pb y (ldI ti y (zz n).2.2 y w)),(pb y (fa ti y y y w)),(pb y (ixI ti y ti y y y n w)),pe,(pb y (ld ti y y w)),(pb y (fa ti y y y w)),pe,pe,t⟩ ⟨(λ_ _=>⟨_,y,y,bl 1 ti y ti y (by decide) (by decide) y y y<|⟨(.msl 1 0 1),[],[(50,.msl 1 0 1)],y,y,kz,y,X5 ⟨(pb y (ldI ti y (zz j).2.2 y w)),(pb y (fa ti y y y w)),(pb y (ixI ti y ti y y y j w)),pe,(pb y (ld ti y y w)),(pb y (fa ti y y y w)),pe,pe,pe,(pb y (fa ti y y y w)),(pb y (ixI ti y ti y y y n w)),pe,(pb y (ld ti y y w)),(pb y (fa ti y y y w)),pe,pe,t⟩ ⟨nv,(λ_ _=>⟨_,y,y,apM (l:=[q.Super]) (f:=Xe) 2 ti y ti y y (by decide) ti y y y y roI (λ_=>y) y K<|⟨(.msl 2 0 (length d)),[18],[(9,.msl 2 0 (length d)),(59,.msl 2 0 (length d))],y,y,kz,y,ZC ⟨pe,pe,(pb y (fa ti y y y w)),(pb y (ixI ti y ti y y y j w)),pe,(pb y (ld ti y y w)),(pb y (fa ti y y y w)),pe,pe,pe,(pb y (fa ti y y y w)),(pb y (ixI ti y ti y y y n w)),pe,(pb y (ld ti y y w)),(pb y (fa ti y y y w)),pe,pe,t⟩ (zl [0,2])⟩⟩),t⟩⟩⟩),nw,t⟩) ?_;refine A ?_;obtain ⟨o,ho,h⟩:=bs h;refine lpS ho (λz=>[(0,.ipt 1 [[cL c]] 0 0),(1,iA e),(5,.msl 0 0 (length z.1)),(6,bA z.2.1),(7,bA i),(8,iA a),(9,.msl 1 0 (length d)),(10,iA z.2.2)]) (λz=>[some (1,map rB z.1),sT d]) (λb=>[(0,.ipt 1 [[cL c]] 0 0),(1,iA e),(5,.msl 0 0 (length b.1)),(6,bA b.2),(7,bA i),(8,iA a)]) (λb=>[some (1,map rB b.1)]) (pG f112 bA) (Xd [0,1]) ?_ ?_ ?_
       .rintro ⟨s,G,v⟩ r h;refine ze<|A ?_;apply Xa h y<;>intro H h
        .refine zd ?_;refine Xz (X:=(List Bool)×Bool) (λz=>[(0,.ipt 1 [[cL c]] 0 0),(1,iA e),(5,.msl 0 0 (length z.1)),(6,bA z.2),(7,bA i),(8,iA a),(9,.msl 1 0 (length d)),(10,iA v)]) (λz=>[some (1,map rB z.1),sT d]) (λz=>zgt v z.1 z.2=some r) ?_ ?_
         .refine zh ?_;obtain ⟨O,q90,I,q91,h⟩:=bs2 h;refine A ?_;obtain ⟨P,q94,h⟩:=bs h;refine A ?_;apply Xa h y<;>intro J h
          .obtain ⟨Q,L,h⟩:=bs h;refine A ?_;refine u<|zGu (c':=true) ti y y (zz L).2.2 y y y y y<|A ?_;exact (⟨⟨(List.set s (Int.toNat I) true),true⟩,h,[0,1],ce y y<|ce y y<|cv y (zF8 (by simp) y)<|ce y y<|ce y y<|ce y y<|cv y (.msl y)<|ce y y<|cn,y,⟨⟨_,y,Zb (λ_=>y)⟩,⟨_,y,Zb (λ_=>y)⟩,t⟩,y,k⟩)
          .refine zd ?_;exact ⟨⟨s,G⟩,h,zl [0,1]⟩
         .rintro ⟨R,S⟩ h;refine A ?_;cases h;exact ⟨_,y,zl [0,1]⟩
        .refine zs ?_;cases h;exact ⟨y,_,y,zl [0]⟩
       .rintro ⟨x,B⟩ rfl;replace h:zgv a x B=some r:=h;unfold zgv at h;refine zm ?_;exact ⟨⟨x,B⟩,h,zl [0]⟩
       .rintro r' rfl env st hp;cases h;exact ⟨_,y,hp⟩
     .rintro ⟨T,U⟩ h;refine A ?_;cases h;exact ⟨_,y,zl [0]⟩
    .refine zs ?_;cases h;exact ⟨y,_,y,zl [0]⟩
   .rintro ⟨V,W⟩ rfl;refine zm<|A ?_;cases h;exact ⟨_,y,zl [0]⟩
   .rintro r' rfl env st hp;cases h;exact ⟨_,y,hp⟩
  .refine zs ?_;cases h;exact ⟨y,_,y,zl [0]⟩
 .rintro Y rfl;refine zm ?_;obtain ⟨Z,q97,h⟩:=bs h;refine A ?_;exact RT0
instance (a:List za)(b:Int):PF prog 112 [.ipt 1 [[cL a]] 0 0,iA b] (zha a b) bA:=⟨λ_=>zkY a b⟩
def zvC(a:List za):Option ((Option zB)×Int):=
  some ((some (zB.mk a)),0)
def zqN(a:Int)(b:Bool):zL (Int) (Unit) ((Option zB)×Int):=
  cond b (some (.inr (.inr (none,1)))) (some (.inl (i64.wrap (a+1))))
def HU(b:List za)(c:za)(d:Bool)(a:Int):zL (Bool×Int) (Bool) ((Option zB)×Int):=
  cond (decide (a<(length c.Impl:Int))) (cond d (some (.inl (true,(i64.wrap (a+1))))) ((idx c.Impl a).bind λe=>(zX b e).bind λf=>(idx b f).bind λi=>some (.inl ((!i.Interface),(i64.wrap (a+1)))))) (some (.inr (.inl d)))
def zk2(a:List za)(c:Int)(d:za)(e:Bool):zL (Int) (Unit) ((Option zB)×Int):=
  (zp (λz=>HU a d z.1 z.2) (e,0)).bind λo=>zH o (λb=>zqN c b) (λr=>some (.inr (.inr r)))
def OC(a:List za)(b:Int):zL (Int) (Unit) ((Option zB)×Int):=
  cond (decide (b<((length a):Int))) ((idx a b).bind λc=>(zX a c.Super).bind λd=>(idx a d).bind λe=>cond e.Interface (zk2 a b c true) ((zha a b).bind λf=>zk2 a b c f)) (some (.inr (.inl ())))
def zsb(a:List za):Option ((Option zB)×Int):=
  (zp (λz=>OC a z) 1).bind λo=>zH o (λb=>zvC a) some
def zsa(a:Int):zL (Int) (Unit) ((Option zB)×Int):=
  some (.inl (i64.wrap (a+1)))
def OF(c:List za)(b:za)(a:Int):zL (Int) (Unit) ((Option zB)×Int):=
  cond (decide (a<(length b.Impl:Int))) ((idx b.Impl a).bind λd=>(zX c d).bind λe=>cond (decide (e<0)) (some (.inr (.inr (none,4)))) (some (.inl (i64.wrap (a+1))))) (some (.inr (.inl ())))
def OE(a:List za)(c:Int):zL (Int) (Unit) ((Option zB)×Int):=
  cond (decide (c<((length a):Int))) ((idx a c).bind λd=>(zX a d.Super).bind λe=>cond (decide (e<0)) (some (.inr (.inr (none,4)))) ((zp (λz=>OF a d z) 0).bind λo=>zH o (λb=>zsa c) (λr=>some (.inr (.inr r))))) (some (.inr (.inl ())))
def zr9(a:List za):Option ((Option zB)×Int):=
  (zp (λz=>OE a z) 1).bind λo=>zH o (λb=>zsb a) some
def HR(c:List za)(b:List za)(a:Int):zL ((List za)×Int) ((List za)) ((Option zB)×Int):=
  cond (decide (a<(length c:Int))) ((idx c a).bind λd=>(zjR d).bind λe=>(cond (!e) (some true) ((idx c a).bind λf=>(zX b f.Name).bind λi=>some (decide (0≤i)))).bind λj=>cond j (some (.inr (.inr (none,1)))) ((idx c a).bind λl=>(Xx 112 b [l]).bind λm=>some (.inl (m,(i64.wrap (a+1)))))) (some (.inr (.inl b)))
def IC(a:List za):Option ((Option zB)×Int):=
  cond (decide (16<(length a:Int))) (some (none,3)) ((zqn).bind λc=>(zp (λz=>HR a z.1 z.2) (c,0)).bind λo=>zH o (λb=>zr9 b) some)
instance (p:List za):PF prog 27 [cL p] (IC p) (λr=>(.tup [XB 1 U6 r.1,iA r.2])):=⟨λr h=>by
 refine zi func27 y kz y (zxy (Z5 (Zs (λ_=>y)) (y))) ?_;refine A ?_;refine ze<|A ?_;apply Xa h y<;>intro N h
 .refine A ?_;exact RT0
 .refine zd ?_;obtain ⟨O,q2,h⟩:=bs h;refine rg y<|u<|sx [] (zum q2)<|zx (env0:=[(0,cL p),(16,.msl 0 0 (length O))]) (st0:=[some (6,map zf O)]) (zl [0])<|A ?_;refine ze<|A ?_;obtain ⟨o,ho,h⟩:=bs h;refine lpB ho (λz=>[(0,cL p),(4,.mpt 0 0 0),(5,iA z.2)]) (λz=>[some (1,[[.msl 1 0 (length z.1)]]),some (6,map zf z.1)]) (λb=>[(4,.mpt 0 0 0)]) (λb=>[some (1,[[.msl 1 0 (length b)]]),some (6,map zf b)]) (pG f27 (λr=>.tup [XB 1 U6 r.1,iA r.2])) (Xd [1,0]) ?_ ?_
  .rintro ⟨P,v13⟩ r h;refine ze<|A ?_;apply Xa h y<;>intro E h
   .refine zd<|ze<|zh<|ze ?_;obtain ⟨v14,q14,v15,q15,Q,d,h⟩:=bs3 h;refine A ?_;refine ZK (x:=Q) (j:=6) 8 y y y y y gpn (λc=>by replace d:=bF c d;obtain ⟨R,q,d⟩:=bs d;obtain ⟨v17,S,d⟩:=bs d;obtain rfl:=sm d;exact g y c<|mv y<|g y c<|mv y<|g y c<|mv y<|g y c<|ixI ti y ti y y y q<|g y c<|fa ti y y y<|g y c<|ldI ti y (zz q).2.2 y<|g y c<|pcs (D6 P R.Name S) y y (.cons (XO y ⟨(X9 y (λ_=>y)),t⟩) (.cons (si y) .nil)) XD<|g y c<|geq ti y y<|zo (eg [32,33,34,35,36,37,38,39] 8 y y y y)) (λhb=>(sm (bT hb d)).symm)<|zo ?_;apply Xa h y<;>intro F h
    .refine A ?_;refine zy ?_;cases h;exact ⟨_,y,_,y,Xb []⟩
    .refine zd ?_;obtain ⟨T,q21,n,U,h⟩:=bs2 h;refine XA [(0,_),(4,_),(5,_)] [some (1,[[.msl 1 0 (length n)]]),some (6,map zf n)] [9,10,13] [0,1,2,3,4,5,6,7,8] [(49,_),(48,_),(47,_),(46,_),(45,_),(44,_),(43,_),(42,_),(41,_)] 3 (Xj (z:=by exact ⟨(λ_ _=>⟨_,y,y,bl 2 ti y ti y (by decide) (by decide) y y y<|⟨(.msl 2 0 1),[],[(50,_)],y,y,y,y,Xj (z:=by exact ⟨nv,(λ_ _=>⟨_,y,y,apM 3 ti y ti y y (by decide) ti y y y y (roX (f:=zf) (z:=[T]) y y) (λ_=>y) y U<|⟨(.msl 3 0 (length n)),[11,12],[(53,_),(52,_),(51,_)],y,y,y,y,Xj (z:=by exact ⟨nv,nv,(λ_ _=>⟨_,y,y,sto ti y y y<|⟨.any,[],[],y,y,y,t,Xk (z:=Xd [0,3])⟩⟩),t⟩)⟩⟩),nw,t⟩)⟩⟩),nw,nw,t⟩)) ?_;refine A ?_;cases h;exact ⟨_,y,zl [0,1]⟩
   .refine zs ?_;cases h;exact ⟨y,_,y,zl [0,1]⟩
  .rintro a rfl;refine zm<|ze<|A ?_;obtain ⟨o,ho,h⟩:=bs h;refine lpB ho (λz=>[(4,.mpt 0 0 0),(6,iA z)]) (λz=>[some (1,[[.msl 1 0 (length a)]]),some (6,map zf a)]) (λb=>[(4,.mpt 0 0 0)]) (λb=>[some (1,[[.msl 1 0 (length a)]]),some (6,map zf a)]) (pG f27 (λr=>.tup [XB 1 U6 r.1,iA r.2])) (Xd [0,1]) ?_ ?_
   .rintro s r h;refine ze<|A ?_;apply Xa h y<;>intro G h
    .refine zd<|ze<|zh ?_;obtain ⟨v,q36,h⟩:=bs h;refine A ?_;refine ze ?_;obtain ⟨v33,V,h⟩:=bs h;refine A ?_;refine u<|pcs (D6 a v.Super V) y y (.cons (XO y ⟨(X9 y (λ_=>y)),t⟩) (.cons (si y) .nil)) XD<|A ?_;apply Xa h y<;>intro H h
     .refine A ?_;refine zy ?_;cases h;exact ⟨_,y,_,y,Xb []⟩
     .refine zd<|A ?_;obtain ⟨o,ho,h⟩:=bs h;refine lpS ho (λz=>[(4,.mpt 0 0 0),(6,iA s),(7,.mpt 2 0 0),(8,iA z)]) (λz=>[some (1,[[.msl 1 0 (length a)]]),some (6,map zf a),some (6,[(zf v)])]) (λb=>[(4,.mpt 0 0 0),(6,iA s)]) (λb=>[some (1,[[.msl 1 0 (length a)]]),some (6,map zf a)]) (pG f27 (λr=>.tup [XB 1 U6 r.1,iA r.2])) (Xd [0,1,2]) ?_ ?_ ?_
      .rintro v37 r h;refine ze<|A ?_;apply Xa h y<;>intro I h
       .refine zd<|ze<|zh ?_;obtain ⟨W,q44,v39,Y,h⟩:=bs2 h;refine A ?_;refine u<|pcs (D6 a W Y) y y (.cons (XO y ⟨(X9 y (λ_=>y)),t⟩) (.cons (si y) .nil)) XD<|A ?_;apply Xa h y<;>intro J h
        .refine A ?_;refine zy ?_;cases h;exact ⟨_,y,_,y,Xb []⟩
        .refine zd<|A ?_;cases h;exact ⟨_,y,zl [0,1,2]⟩
       .refine zs ?_;cases h;exact ⟨y,_,y,zl [0,1]⟩
      .rintro ⟨⟩ rfl;refine zm<|A ?_;cases h;exact ⟨_,y,zl [0,1]⟩
      .rintro r' rfl env st hp;cases h;exact ⟨_,y,hp⟩
    .refine zs ?_;cases h;exact ⟨y,_,y,zl [0,1]⟩
   .rintro ⟨⟩ rfl;refine zm<|ze<|A ?_;obtain ⟨o,ho,h⟩:=bs h;refine lpB ho (λz=>[(4,.mpt 0 0 0),(9,iA z)]) (λz=>[some (1,[[.msl 1 0 (length a)]]),some (6,map zf a)]) (λb=>[(4,.mpt 0 0 0)]) (λb=>[some (1,[[.msl 1 0 (length a)]]),some (6,map zf a)]) (pG f27 (λr=>.tup [XB 1 U6 r.1,iA r.2])) (Xd [0,1]) ?_ ?_
    .rintro m r h;refine ze<|A ?_;apply Xa h y<;>intro K h
     .refine zd<|ze<|zh ?_;obtain ⟨e,q65,h⟩:=bs h;refine A ?_;refine Xz (X:=Bool) (λz=>[(4,.mpt 0 0 0),(9,iA m),(10,.mpt 2 0 0),(11,bA z)]) (λz=>[some (1,[[.msl 1 0 (length a)]]),some (6,map zf a),some (6,[(zf e)])]) (λz=>zk2 a m e z=some r) ?_ ?_
      .obtain ⟨v59,B,C,q67,h⟩:=bs2 h
       rcases bb C.Interface with i |i
       .replace h:=bT i h;exact rdQ [] [0,1,2,3,4,5,6,7,8,9,10,11,12,13,14,15,16] [(11,_),(121,_),(120,_),(119,_),(118,_),(117,_),(116,_),(115,_),(114,_),(113,_),(112,_),(111,_),(110,_),(109,_),(108,_),(107,_),(106,_)] 0 (Xk ⟨peC,peC,peC,peC,peC,peC,peC,(by exact pb y (pcs (D6 a e.Super B) y y (.cons (XO y ⟨(X9 y (λ_=>y)),t⟩) (.cons (si y) .nil)) XD<|w)),peC,peC,peC,peC,peC,peC,peC,peC,peC,t⟩ (by exact ⟨true,h,Xd [0,1,2]⟩))
       .replace h:=bF i h;obtain ⟨Z,q69,h⟩:=bs h;exact rdQ [] [0,1,2,3,4,5,6,7,8,9,10,11,12,13,14,15,16] [(11,_),(121,_),(120,_),(119,_),(118,_),(117,_),(116,_),(115,_),(114,_),(113,_),(112,_),(111,_),(110,_),(109,_),(108,_),(107,_),(106,_)] 0 (Xk ⟨peC,peC,peC,peC,peC,peC,peC,(by exact pb y (pcs (D6 a e.Super B) y y (.cons (XO y ⟨(X9 y (λ_=>y)),t⟩) (.cons (si y) .nil)) XD<|w)),peC,peC,peC,peC,peC,peC,(by exact λ_=>pag (b:=C.Interface) y y y y i y (pcs (zkY a m q69) y y (.cons (XO y ⟨(X9 y (λ_=>y)),t⟩) (.cons (si y) .nil)) XD<|w)),peC,peC,t⟩ (by exact ⟨Z,h,Xd [0,1,2]⟩))
      .rintro v62 h;refine ze<|A ?_;obtain ⟨o,ho,h⟩:=bs h;refine lpS ho (λz=>[(4,.mpt 0 0 0),(9,iA m),(10,.mpt 2 0 0),(11,bA z.1),(12,iA z.2)]) (λz=>[some (1,[[.msl 1 0 (length a)]]),some (6,map zf a),some (6,[(zf e)])]) (λb=>[(4,.mpt 0 0 0),(9,iA m),(11,bA b)]) (λb=>[some (1,[[.msl 1 0 (length a)]]),some (6,map zf a)]) (pG f27 (λr=>.tup [XB 1 U6 r.1,iA r.2])) (Xd [0,1,2]) ?_ ?_ ?_
       .rintro ⟨D,v69⟩ r h;refine ze<|A ?_;apply Xa h y<;>intro L h
        .refine zd<|ze<|zh ?_
         rcases bb D with l |l
         .replace h:=bT l h;refine XA [(4,_),(9,_),(10,_),(11,_),(12,_)] [some (1,[[.msl 1 0 (length a)]]),some (6,map zf a),some (6,[(zf e)])] [] [0,1,2,3,4,5,6,7,8,9,10,11,12,13,14,15,16,17,18] [(11,_),(146,_),(145,_),(144,_),(143,_),(142,_),(141,_),(140,_),(139,_),(138,_),(137,_),(136,_),(135,_),(134,_),(133,_),(132,_),(131,_),(130,_),(129,_)] 0 (Xk (z:=Xd [0,1,2])) ?_;refine A ?_;cases h;exact ⟨_,y,zl [0,1,2]⟩
         .replace h:=bF l h;obtain ⟨v70,q77,v71,q78,v72,q79,h⟩:=bs3 h;refine XA [(4,_),(9,_),(10,_),(11,_),(12,_)] [some (1,[[.msl 1 0 (length a)]]),some (6,map zf a),some (6,[(zf e)])] [] [0,1,2,3,4,5,6,7,8,9,10,11,12,13,14,15,16,17,18] [(11,_),(146,_),(145,_),(144,_),(143,_),(142,_),(141,_),(140,_),(139,_),(138,_),(137,_),(136,_),(135,_),(134,_),(133,_),(132,_),(131,_),(130,_),(129,_)] 0 (Xk ⟨peC,peC,peC,peC,peC,peC,peC,peC,peC,peC,peC,peC,(by exact λ_=>pag (b:=D) y y y y l y (pcs (D6 a v70 q78) y y (.cons (XO y ⟨(X9 y (λ_=>y)),t⟩) (.cons (si y) .nil)) XD<|w)),peC,peC,peC,peC,peC,peC,t⟩ (Xd [0,1,2])) ?_;refine A ?_;cases h;exact ⟨_,y,zl [0,1,2]⟩
        .refine zs ?_;cases h;exact ⟨y,_,y,zl [0,1]⟩
       .rintro v73 rfl;refine zm<|A ?_;apply Xa h y<;>intro M h
        .refine A ?_;refine zy ?_;cases h;exact ⟨_,y,_,y,Xb []⟩
        .refine zd<|A ?_;cases h;exact ⟨_,y,zl [0,1]⟩
       .rintro r' rfl env st hp;cases h;exact ⟨_,y,hp⟩
     .refine zs ?_;cases h;exact ⟨y,_,y,zl [0,1]⟩
    .rintro ⟨⟩ rfl;refine zm<|A ?_;refine zy ?_;cases h
     exact ⟨_,y,[],Gu ⟨(rsP y y ⟨(K8 y y (λ_=>y)),t⟩ y),(ci y),t⟩,y,t,y,k⟩⟩

end
end Go.Proofs.YthmnlfenkhmmhaaGreat
