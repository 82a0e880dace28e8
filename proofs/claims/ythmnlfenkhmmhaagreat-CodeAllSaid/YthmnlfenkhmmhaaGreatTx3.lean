/- CodeAll holds. Part 3 of 9. -/
import Derived.Test.YthmnlfenkhmmhaaGreatTx2
namespace Go.Proofs.YthmnlfenkhmmhaaGreat
noncomputable section
open List (length map)
open IntKind (i64)
open Go.Proofs.Tryz
set_option linter.unusedVariables false
set_option linter.unusedSectionVars false
set_option linter.unusedSimpArgs false
set_option maxRecDepth 100000
set_option maxHeartbeats 4000000
variable {β α:Type}{av:AV}{VU Fa:Array Edge}{fs:Array Field}{VS:Array Oper}{VX:Array Value}{r:Bool}{VN VC env:Ev}{K:Ev->St->Prop}{Q:Exit->Ev->St->Prop}{V5 args:Vt}{ps before:List MemPlace}{ds:List Nat}{all:List Oper}{vs cs:List Value}{nb0 sz c d i base j dp id n:Nat}{x:Operand}{gp gu:Option (Nat×Bool)}{m:Option Bool}{a:Option α}{P:Program}{p q:Prop}{VJ st:St}{pos V3:String}{v:Value}{W w':World}{f:α->Vt}{b:α->Option β}
structure Zz(q:Prop):Prop where
 z:q
inductive ME:Vt->Vt->Prop
 |nil:ME [] []
 |cons {x:AV} {l l':Vt}:ME l l'->ME (x::l) (x::l')
theorem ME.eq{l l':Vt}(h:ME l l'):l=l':=by
 induction h with
 |nil=>rfl
 |cons _ ih=>rw[ih]
section
variable {ty:TypeId}
theorem ldR{t:TypeId}{ti:TI}{p:AV}{r:Vt}(ht:Xk P t=some ti)(hx:ev env x=some p)(hr:GV st p=some (r,0))(hv:OT ti r 0=some (.agg r))(k:K ((d,.agg r)::env) st):F8 P ⟨some d,.load t x,ty,pos,VU,gu⟩ env st K:=ld ht hx ((uo hr).trans hv) k
theorem ldJ{t:TypeId}{ti:TI}{l:List α}{c:α}(ht:Xk P t=some ti)(hx:ev env x=some (.ipt sz (l.map f) i 0))(h:l[i]?=some c)(hv:OT ti (f c) 0=some (.agg (f c)))(k:K ((d,.agg (f c))::env) st):F8 P ⟨some d,.load t x,ty,pos,VU,gu⟩ env st K:=Lt ht hx h hv k
theorem ldQ{t:TypeId}{ti:TI}{b:Nat}{l:List α}{c:α}(ht:Xk P t=some ti)(hx:ev env x=some (.mpt b i 0))(hb:st[b]?=some (some (sz,l.map f)))(h:l[i]?=some c)(hv:OT ti (f c) 0=some (.agg (f c)))(k:K ((d,.agg (f c))::env) st):F8 P ⟨some d,.load t x,ty,pos,VU,gu⟩ env st K:=RT ht hx hb h hv k
theorem gLd{t:TypeId}(h:F8 P ⟨some d,.load t x,ty,pos,VU,gu⟩ env st K):F8 P ⟨some d,.load t x,ty,pos,VU,gu⟩ env st K:=h
theorem r4{o:BinOp}{t u':TypeId}{y:Operand}(h:F8 P ⟨some d,.binOp o t x y u',ty,pos,VU,gu⟩ env st K):F8 P ⟨some d,.binOp o t x y u',ty,pos,VU,gu⟩ env st K:=h
theorem rZ{c:Call}(h:F8 P ⟨some d,.call c,ty,pos,VU,gu⟩ env st K):F8 P ⟨some d,.call c,ty,pos,VU,gu⟩ env st K:=h
theorem gPk{c y:Operand}(h:F8 P ⟨some d,.pick c x y,ty,pos,VU,gu⟩ env st K):F8 P ⟨some d,.pick c x y,ty,pos,VU,gu⟩ env st K:=h
theorem gIx{t:TypeId}{y:Operand}(h:F8 P ⟨some d,.indexAddr t x y,ty,pos,VU,gu⟩ env st K):F8 P ⟨some d,.indexAddr t x y,ty,pos,VU,gu⟩ env st K:=h
end
class PF(P:Program)(f:FuncId)(args:Vt){R:outParam Type}(m:outParam (Option R))(enc:outParam (R->AV)):Prop where
 ok:∀r,m=some r->Xn P f args (enc r)
abbrev VF(f:FuncId)(a:List AV){R:Type}(m:Option R)(e:R->AV):Prop:=PF prog f a m e
theorem PF.of{f:FuncId}{R:Type}{x:R}{enc:R->AV}(h:∀r,x=r->Xn P f args (enc r)):PF P f args (some x) enc:=⟨λr e=>h r (Option.some.inj e)⟩
theorem pcI{ty:TypeId}{c:Call}{g:FuncId}{V6:Vt}{R:Type}{m:Option R}{enc:R->AV}{r:R}(hc:ZW (.call c)=true)(hg:KG env (.call c)=some (g,args))(he:ME args V6)(hi:Zv V6=true)(pf:PF P g V6 m enc)(q:m=some r)(k:K ((d,enc r)::env) st):F8 P ⟨some d,.call c,ty,pos,VU,gu⟩ env st K:=by have e:=he.eq;subst e;exact pc (pf.ok r q) hc hg hi k
theorem nA(z:p:=by first|exact(rfl:_=0)|exact(rfl:_=1)|exact(rfl:_=2)|exact(rfl:_=3)|exact(rfl:_=4)|exact(rfl:_=5)|exact(rfl:_=6)|exact(rfl:_=7)|exact(rfl:_=8)):p:=z
theorem nB(z:p:=by first|exact(rfl:_=1)|exact(rfl:_=2)|exact(rfl:_=3)|exact(rfl:_=4)|exact(rfl:_=5)|exact(rfl:_=6)|exact(rfl:_=7)|exact(rfl:_=8)|exact(rfl:_=9)|exact(rfl:_=10)|exact(rfl:_=11)|exact(rfl:_=12)|exact(rfl:_=13)|exact(rfl:_=14)|exact(rfl:_=15)|exact(rfl:_=16)):p:=z
theorem wx(z:q)(h:Zz q->p:=by(intro z;(first|((with_reducible apply mv);exact rfl)|((with_reducible apply fa);exact ti;exact rfl;exact rfl;exact rfl)|((with_reducible apply gLd);(first|((with_reducible apply ldR);exact ti;exact rfl;exact rfl;exact rfl)|((with_reducible apply ldJ);exact ti;exact rfl;exact(zT (by assumption)).2.2;exact rfl)|((with_reducible apply ldQ);exact ti;exact rfl;exact rfl;exact(zT (by assumption)).2.2;exact rfl)|((with_reducible apply ld);exact ti;exact rfl;exact rfl)|((with_reducible apply Lt);exact ti;exact rfl;exact(zT (by assumption)).2.2;exact rfl)|((with_reducible apply RT);exact ti;exact rfl;exact rfl;exact(zT (by assumption)).2.2;exact rfl)))|((with_reducible apply Lw);exact rfl)|((with_reducible apply r4);(first|((with_reducible apply eql);exact ti;exact rfl;exact rfl)|((with_reducible apply lss);exact ti;exact rfl;exact rfl)|((with_reducible apply geq);exact ti;exact rfl;exact rfl)|((with_reducible apply seq);exact ti;exact rfl;exact rfl)|((with_reducible apply add);exact ti;exact rfl;exact rfl)|((with_reducible apply leq);exact ti;exact rfl;exact rfl)|((with_reducible apply MI);exact ti;exact rfl;exact rfl)|((with_reducible apply gtr);exact ti;exact rfl;exact rfl)|((with_reducible apply neq);exact ti;exact rfl;exact rfl)|((with_reducible apply sub);exact ti;exact rfl;exact rfl)|((with_reducible apply mul);exact ti;exact rfl;exact rfl)|((with_reducible apply beq);exact ti;exact rfl;exact rfl;exact rfl)|((with_reducible apply bne);exact ti;exact rfl;exact rfl;exact rfl)|((with_reducible apply slt);exact ti;exact rfl;exact rfl)|((with_reducible apply quo);exact ti;exact rfl;exact rfl;exact(by assumption))|((with_reducible apply rem);exact ti;exact rfl;exact rfl;exact(by assumption))|((with_reducible apply DF);exact ti;exact rfl;exact rfl;exact(by assumption))|((with_reducible apply shl);exact ti;exact rfl;exact rfl;exact(by assumption))|((with_reducible apply shr);exact ti;exact rfl;exact rfl;exact(by assumption))|((with_reducible apply Mt);exact ti;exact rfl;exact rfl;exact rfl;exact rfl;exact rfl;exact rfl)|((with_reducible apply xt);exact ti;exact rfl;exact rfl;exact rfl;exact rfl;exact rfl;exact rfl)))|((with_reducible apply rZ);(first|((with_reducible apply Mu);exact ti;exact rfl;exact rfl)|((with_reducible apply fO);exact ti;exact rfl;exact rfl)|((with_reducible apply fP);exact ti;exact rfl;exact rfl;exact rfl)|((with_reducible apply lnN);exact ti;exact rfl;exact rfl)|((with_reducible apply pcI);exact rfl;exact rfl;(repeat (first|exact ME.nil|apply ME.cons));exact rfl;exact inferInstance;(first|with_reducible exact rfl|assumption))))|((with_reducible apply nc);exact rfl;exact rfl)|((with_reducible apply ex);exact rfl;exact rfl)|((with_reducible apply nt);exact rfl)|((with_reducible apply La);exact ti;exact rfl;exact rfl;exact rfl)|((with_reducible apply gIx);(first|((with_reducible apply Lp);exact ti;exact rfl;exact ti;exact rfl;exact rfl;exact rfl;exact(by assumption))|((with_reducible apply Ns);exact ti;exact rfl;exact ti;exact rfl;exact rfl;exact rfl;exact rfl;exact(by assumption))))|((with_reducible apply ixS);exact ti;exact rfl;exact rfl;exact rfl;exact(by assumption))|((with_reducible apply bd);exact ti;exact rfl;exact rfl;exact rfl)|((with_reducible apply mf);exact rfl;exact rfl)|((with_reducible apply fdV);exact rfl;exact rfl)|((with_reducible apply al);exact ti;refine nA)|((with_reducible apply bx);exact rfl;exact rfl;refine nB;refine nA)|((with_reducible apply bl);exact ti;exact rfl;exact ti;refine nB;decide;decide;exact rfl;exact rfl;refine nA)|((with_reducible apply ng);exact rfl)|((with_reducible apply gPk);(first|((with_reducible apply pk (b:=true));exact rfl;exact rfl)|((with_reducible apply pk (b:=false));exact rfl;exact rfl)|((with_reducible apply fM);exact rfl;exact(by assumption);exact rfl))));exact z.1)):p:=h ⟨z⟩
def xj(w:Bool):List Oper->Option Nat
 |[]=>none
 |o::_=>match o.guard with|some (j,x)=>(match x==w with|true=>some j|false=>none)|none=>none
inductive L1:List Nat->Ev->Ev->Prop
 |z (e:Ev):L1 [] e e
 |s {a:Nat} {x:AV} {ds:List Nat} {e' e:Ev}:L1 ds e' e->L1 (a::ds) ((a,x)::e') e
theorem L1.look'{e' e:Ev}(h:L1 ds e' e){t:Nat}{v:AV}(hl:look e t=some v):t∉ds->look e' t=some v:=by
 induction h with
 |z e=>exact λ_=>hl
 |@s a x ds e' e h ih =>
  intro hn;have h1:=ih hl (λhm=>hn (Jl _ hm));have h2:a≠t:=λe=>hn (e▸List.mem_cons_self);simpa[look,h2]using h1
theorem L1.look{ds:List Nat}{e' e:Ev}(h:L1 ds e' e)(hk:ZH ds e=true):∀t v,look e t=some v->look e' t=some v:=λt v hl=>h.look' hl (GJ hk hl)
inductive Ml:List Oper->List Oper->List Oper->Prop
 |z (l:List Oper):Ml [] l l
 |s {o:Oper} {a l r:List Oper}:Ml a l r->Ml (o::a) (o::l) r
theorem Ml.eq{a l r:List Oper}(h:Ml a l r):l.take a.length=a/\l.drop a.length=r:=by
 induction h with
 |z l=>exact⟨YC,YC⟩
 |s _ ih=>exact⟨by simp[ih.1],by simp[ih.2]⟩
section
variable {l1 l2 lk:List Oper}
theorem egB{y:Operand}{b v:Bool}(hb:b=true)(h1:L1 ds VN env)(h2:ZH ds env=true)(h4:ev VN y=some (.lit (.bool v))):GO env st y (b&&v) VN st:=⟨rfl,h1.look h2,by rw[hb];exact h4⟩
theorem egC{y:Operand}{b v:Bool}(hb:b=false)(h1:L1 ds VN env)(h2:ZH ds env=true)(h4:ev VN y=some (.lit (.bool v))):GO env st y (b||v) VN st:=⟨rfl,h1.look h2,by rw[hb];exact h4⟩
theorem hAA(h:p:=by(intro hb;refine A ?_;apply egB hb;(repeat (first|exact L1.z _|apply L1.s));exact rfl;exact rfl)):p:=h
theorem hOA(h:p:=by(intro hb;refine A ?_;apply egC hb;(repeat (first|exact L1.z _|apply L1.s));exact rfl;exact rfl)):p:=h
theorem aA{y:Operand}{Fl:TypeId}{b v:Bool}{l:List Oper}(hj0:xj true l1=some j)(hj:(all[j]?).bind (·.dst)=some c)(hs:Ml lk l1 (⟨some dp,.pick (.tmp c) y (.const (.bool false)),Fl,V3,Fa,gp⟩::l))(hc:look env c=some (.lit (.bool b)))(hg:Hf all j true [] lk=true)(hk:ZH (Kb lk) env=true)(FA:∀VN:Ev,(∀t v,look env t=some v->look VN t=some v)->ZQ all VN ⟨some dp,.pick (.tmp c) y (.const (.bool false)),Fl,V3,Fa,gp⟩=some true)(hT:b=true->SR P n nb0 all lk ((⟨some dp,.pick (.tmp c) y (.const (.bool false)),Fl,V3,Fa,gp⟩::l)++l2) (GO env st y (b&&v)) env st)(h:SR P n nb0 all l l2 K ((dp,.lit (.bool (b&&v)))::env) st):SR P n nb0 all l1 l2 K env st:=XV lk.length hs.eq.2 hj hc (hs.eq.1.symm▸hg) (hs.eq.1.symm▸hk) FA (hs.eq.1.symm▸hs.eq.2.symm▸hT) Uu h
theorem oA{y:Operand}{Fl:TypeId}{b v:Bool}{l:List Oper}(hj0:xj false l1=some j)(hj:(all[j]?).bind (·.dst)=some c)(hs:Ml lk l1 (⟨some dp,.pick (.tmp c) (.const (.bool true)) y,Fl,V3,Fa,gp⟩::l))(hc:look env c=some (.lit (.bool b)))(hg:Hf all j false [] lk=true)(hk:ZH (Kb lk) env=true)(FA:∀VN:Ev,(∀t v,look env t=some v->look VN t=some v)->ZQ all VN ⟨some dp,.pick (.tmp c) (.const (.bool true)) y,Fl,V3,Fa,gp⟩=some true)(hF:b=false->SR P n nb0 all lk ((⟨some dp,.pick (.tmp c) (.const (.bool true)) y,Fl,V3,Fa,gp⟩::l)++l2) (GO env st y (b||v)) env st)(h:SR P n nb0 all l l2 K ((dp,.lit (.bool (b||v)))::env) st):SR P n nb0 all l1 l2 K env st:=Uj lk.length hs.eq.2 hj hc (hs.eq.1.symm▸hg) (hs.eq.1.symm▸hk) FA (hs.eq.1.symm▸hs.eq.2.symm▸hF) Mq h
end
section
variable {l1 l2 lk:List Oper}
theorem egD{y:Operand}{e x:Bool}(he:e=x)(h1:L1 ds VN env)(h2:ZH ds env=true)(h4:ev VN y=some (.lit (.bool e))):GO env st y x VN st:=⟨rfl,h1.look h2,by rw[<-he];exact h4⟩
def R1(a p:Prop):Prop:=a->p
theorem bI{m:Option α}{k:α->Option β}{r:β}(f:∀x,m=some x->R1 (k x=some r) p):R1 (m.bind k=some r) p:=λh=>by
 obtain⟨x,h1,h2⟩:=bs h;exact f x h1 h2
theorem sI{a r:β}(f:a=r->p):R1 (some a=some r) p:=λh=>f (sm h)
theorem fQ(h:p:=by(intro hb;(repeat ((with_reducible apply bI);intro _ _));(with_reducible apply sI);intro hq;refine A ?_;apply egD hq;(repeat (first|exact L1.z _|apply L1.s));exact rfl;exact rfl)):p:=h
theorem aQ{y:Operand}{Fl:TypeId}{b x:Bool}{l:List Oper}(hj0:xj true l1=some j)(hj:(all[j]?).bind (·.dst)=some c)(hc:look env c=some (.lit (.bool b)))(q:cond b m (some false)=some x)(hs:Ml lk l1 (⟨some dp,.pick (.tmp c) y (.const (.bool false)),Fl,V3,Fa,gp⟩::l))(hg:Hf all j true [] lk=true)(hk:ZH (Kb lk) env=true)(FA:∀VN:Ev,(∀t v,look env t=some v->look VN t=some v)->ZQ all VN ⟨some dp,.pick (.tmp c) y (.const (.bool false)),Fl,V3,Fa,gp⟩=some true)(hT:b=true->R1 (m=some x) (SR P n nb0 all lk ((⟨some dp,.pick (.tmp c) y (.const (.bool false)),Fl,V3,Fa,gp⟩::l)++l2) (GO env st y x) env st))(h:SR P n nb0 all l l2 K ((dp,.lit (.bool x))::env) st):SR P n nb0 all l1 l2 K env st:=XV lk.length hs.eq.2 hj hc (hs.eq.1.symm▸hg) (hs.eq.1.symm▸hk) FA (hs.eq.1.symm▸hs.eq.2.symm▸λe=>hT e (bT e q)) (λe=>(sm (bF e q)).symm) h
theorem oQ{y:Operand}{Fl:TypeId}{b x:Bool}{l:List Oper}(hj0:xj false l1=some j)(hj:(all[j]?).bind (·.dst)=some c)(hc:look env c=some (.lit (.bool b)))(q:cond b (some true) m=some x)(hs:Ml lk l1 (⟨some dp,.pick (.tmp c) (.const (.bool true)) y,Fl,V3,Fa,gp⟩::l))(hg:Hf all j false [] lk=true)(hk:ZH (Kb lk) env=true)(FA:∀VN:Ev,(∀t v,look env t=some v->look VN t=some v)->ZQ all VN ⟨some dp,.pick (.tmp c) (.const (.bool true)) y,Fl,V3,Fa,gp⟩=some true)(hF:b=false->R1 (m=some x) (SR P n nb0 all lk ((⟨some dp,.pick (.tmp c) (.const (.bool true)) y,Fl,V3,Fa,gp⟩::l)++l2) (GO env st y x) env st))(h:SR P n nb0 all l l2 K ((dp,.lit (.bool x))::env) st):SR P n nb0 all l1 l2 K env st:=Uj lk.length hs.eq.2 hj hc (hs.eq.1.symm▸hg) (hs.eq.1.symm▸hk) FA (hs.eq.1.symm▸hs.eq.2.symm▸λe=>hF e (bF e q)) (λe=>(sm (bT e q)).symm) h
end
theorem xp(z:p:=by repeat (first|exact Ml.z _|apply Ml.s)):p:=z
theorem xr(z:p:=by first|exact Lr|exact MA rfl rfl (by assumption)):p:=z
theorem A(z:q)(h:Zz q->p:=by(intro z;(first|(apply rg;exact rfl)|(apply rl;exact rfl)|skip);(repeat (first|((first|(with_reducible apply u)|((with_reducible apply g);exact rfl;(first|assumption|exact rfl)));refine wx ?_)|(apply aQ;exact rfl;exact rfl;exact rfl;assumption;refine xp;exact rfl;exact rfl;refine xr;exact fQ)|(apply oQ;exact rfl;exact rfl;exact rfl;assumption;refine xp;exact rfl;exact rfl;refine xr;exact fQ)|(apply aA;exact rfl;exact rfl;refine xp;exact rfl;exact rfl;exact rfl;refine xr;exact hAA)|(apply oA;exact rfl;exact rfl;refine xp;exact rfl;exact rfl;exact rfl;refine xr;exact hOA)));(first|exact zx z.1|exact z.1))):p:=h ⟨z⟩
theorem sg{L:Xv}{l:Nat}(h:X6 L l=some l):Rs st L (.mpt l i j) (.mpt l i j):=.mpt h
theorem sf{L:Xv}{l:Nat}(h:X6 L l=some l):Rs st L (.msl l i n) (.msl l i n):=.msl h
theorem rC(z:p:=by repeat' (first|exact True.intro|exact cn|exact ci rfl|exact sg rfl|exact sf rfl|exact .msl rfl|exact .mpt rfl|exact .nil|exact XL λ_=>rfl|refine cv rfl ?_ ?_|exact Gu rfl rfl λ_=>rfl|refine yR rfl rfl ?_|exact ci (Zo λ_=>rfl)|exact .mmp rfl|refine RE rfl ?_|refine XN ?_|refine C4 ?_|refine⟨_,rfl,?_⟩|refine And.intro ?_ ?_|refine RM ?_|refine dx ?_|exact rfl)):p:=z
theorem z6(L:Xv)(h1:Uo st L VC env:=by refine rC)(h2:UQ L=true:=by exact rfl)(h3:Kd st L L VJ:=by refine rC)(h4:Hh nb0 L=true:=by exact rfl)(h5:nb0<=VJ.length:=by exact QE rfl):LN nb0 VC VJ env st:=⟨L,h1,h2,h3,h4,h5⟩
section
variable {F:Ev} {ss p en:List Nat}
theorem F1{G:Prop}(h:G->UU P all VC F st i:=by first|exact nz|(intro _;refine pa rfl rfl rfl rfl ?_;refine wx ?_;exact⟨rfl,rfl⟩)|exact λ_=>fN rfl rfl rfl rfl rfl|(intro _;refine ww rfl rfl rfl rfl ?_ rfl;(first|exact rfl|assumption))|(intro _;refine Le rfl rfl rfl rfl ?_ rfl ?_;(first|exact rfl|assumption);refine wx ?_;exact⟨rfl,rfl⟩)):G->UU P all VC F st i:=h
theorem Xd(h1:U8 P all VC F st p en:=by repeat' (first|exact True.intro|refine And.intro ?_ ?_|refine F1))(z:DW P all ss VC K n p en F st ss)(h2:Kw all ss p en=true:=by kernel_rfl)(h3:Un p ss=false:=by exact rfl):DT P all ss VC K (n+1) p en F st:=wD h1 h2 h3 z
theorem Xg(h1:U8 P all VC F st p en:=by repeat' (first|exact True.intro|refine And.intro ?_ ?_|refine F1))(z:K (F++KJ (K7 all) VC) st)(h2:Kw all ss p en=true:=by kernel_rfl)(h3:Un p ss=true:=by exact rfl):DT P all ss VC K 0 p en F st:=wE h1 h2 h3 z
end
theorem LU(ss en:List Nat)(F:Ev)(k:Nat)(h:DT P VS.toList ss env (Q .normal) k [] en F st)(hm:P.follows .mixedOrders=true:=by kernel_rfl)(VW:H3 n VS.toList=true:=by kernel_rfl)(FO:Hn VS.size ss=true:=by exact rfl)(Fx:Kc VS.toList en (Za F)=true:=by kernel_rfl):
  SW P n nb0 (.region id VS true) Q env st:=GH ss en F k hm VW FO Fx h
theorem Xa{c:Operand}{x y:Code}{b:Bool}{m1 m2 r:α}(h:cond b m1 m2=r)(hc:ev env c=some (.lit (.bool b)))(ht:b=true->m1=r->SW P n nb0 x Q env st)(hf:b=false->m2=r->SW P n nb0 y Q env st):SW P n nb0 (.cond c x y) Q env st:=UC hc (λe=>ht e (bT e h)) (λe=>hf e (bF e h))
theorem Kl{Fv:AV}(L:Xv)(h1:Rs st L Fv av:=by refine rC)(h2:UQ L=true:=by exact rfl)(h3:Kd st L L VJ:=by refine rC)(h4:Hh nb0 L=true:=by exact rfl)(h5:nb0<=VJ.length:=by exact QE rfl):RJ nb0 Fv VJ av st:=⟨L,h1,h2,h3,h4,h5⟩
theorem F4(z:p:=by(apply zA;obtain rfl:=sm h;exact⟨_,rfl,Kl []⟩)):p:=z
theorem Lz(z:p:=by(cases h;exact⟨_,rfl,Xb [0]⟩)):p:=z
theorem LB(z:p:=by(cases h;exact⟨_,rfl,zl []⟩)):p:=z
theorem LC(z:p:=by(cases h;exact⟨_,rfl,zl [0]⟩)):p:=z
theorem LH(z:p:=by(cases h;exact⟨_,rfl,zl [0,1]⟩)):p:=z
theorem Mh(z:p:=by(cases h;exact⟨_,rfl,zl [0,1,2]⟩)):p:=z
theorem Ll(z:p:=by(apply zr;cases h;exact⟨rfl,_,rfl,zl []⟩)):p:=z
theorem Lv(z:p:=by(apply zr;cases h;exact⟨rfl,_,rfl,zl [0]⟩)):p:=z
theorem LW(z:p:=by(apply zr;cases h;exact⟨rfl,_,rfl,zl [0,1]⟩)):p:=z
theorem Mg(z:p:=by(apply zr;cases h;exact⟨rfl,_,rfl,zl [0,1,2,3]⟩)):p:=z
theorem LP(z:p:=by(apply zA;obtain rfl:=sm h;exact⟨_,rfl,Kl [0]⟩)):p:=z
theorem RT2(z:p:=by(apply zA;obtain rfl:=sm h;exact⟨_,rfl,Kl [0,1]⟩)):p:=z
theorem MP(z:p:=by(apply zA;obtain rfl:=sm h;exact⟨_,rfl,Kl [0,1,2]⟩)):p:=z
theorem Nw(z:p:=by(apply zA;obtain rfl:=sm h;exact⟨_,rfl,Kl [0,1,2,3]⟩)):p:=z
theorem Nv(z:p:=by(apply zA;obtain rfl:=sm h;exact⟨_,rfl,Kl [0,1,2,3,4]⟩)):p:=z
theorem RZ(z:p:=by(apply zA;obtain rfl:=sm h;exact⟨_,rfl,Kl [0,1,2,3,4,5]⟩)):p:=z
theorem F6{γ:Type}{k:α->β->Option γ}{r:γ}(h:(a.bind λx=>(b x).bind (k x))=some r):∃x,a=some x/\∃y,b x=some y/\k x y=some r:=by obtain⟨x,h1,h⟩:=bs h;obtain⟨y,h2,h⟩:=bs h;exact⟨x,h1,y,h2,h⟩
theorem LA{γ δ:Type}{c:α->β->Option γ}{k:α->β->γ->Option δ}{r:δ}(h:(a.bind λx=>(b x).bind λy=>(c x y).bind (k x y))=some r):∃x,a=some x/\∃y,b x=some y/\∃z,c x y=some z/\k x y z=some r:=by obtain⟨x,h1,h⟩:=bs h;exact⟨x,h1,F6 h⟩
theorem Me{γ δ ε:Type}{c:α->β->Option γ}{d:α->β->γ->Option δ}{k:α->β->γ->δ->Option ε}{r:ε}(h:(a.bind λx=>(b x).bind λy=>(c x y).bind λz=>(d x y z).bind (k x y z))=some r):∃x,a=some x/\∃y,b x=some y/\∃z,c x y=some z/\∃u,d x y z=some u/\k x y z u=some r:=by obtain⟨x,h1,h⟩:=bs h;exact⟨x,h1,LA h⟩
abbrev pG{R:Type}(fn:Func)(e:R->AV):R->Ev->St->Prop:=λr env st=>Uy prog fn 0 (e r) [] env st
abbrev pF{R:Type}(fn:Func)(e:R->AV)(s:R->St):R->Ev->St->Prop:=λr env st=>Uy prog fn 0 (e r) (s r) env st
section
variable {c y:Code} {X B R:Type} {body:X->Option (Sum X (Sum B R))} {z0:X} {o:Sum B R}
theorem Nr(ho:zk body z0=some o)(E:X->Ev)(S:X->St)(E':B->Ev)(S':B->St)(post:R->Ev->St->Prop)(hc:LN nb0 (E z0) (S z0) env st)(Fb:∀z r,body z=some r->SW P n nb0 c (LQ id nb0 E S E' S' post r) (E z) (S z))
  (hb:∀b,o=.inl b->SW P n nb0 y Q (E' b) (S' b)) (hr:∀r,o=.inr r->∀env st,post r env st->Q .ret env st:=by(rintro r' rfl env st hp;obtain rfl:=sm h;exact hp)):SW P n nb0 (.seq (.block id (.loop c)) y) Q env st:=rQ E S E' S' post ho hc Fb hb hr
theorem LG(ho:zk body z0=some o)(E:X->Ev)(S:X->St)(E':B->Ev)(S':B->St)(post:R->Ev->St->Prop)(hc:LN nb0 (E z0) (S z0) env st)(Fb:∀z r,body z=some r->SW P n nb0 c (LQ id nb0 E S E' S' post r) (E z) (S z))(hb:∀b,o=.inl b->OW n nb0 (Q .normal) (E' b) (S' b))(hr:∀r,o=.inr r->∀env st,post r env st->Q .ret env st):SW P n nb0 (.block id (.loop c)) Q env st:=qK E S E' S' post ho hc Fb hb hr
theorem F7(ho:zk body z0=some o)(E:X->Ev)(S:X->St)(E':B->Ev)(S':B->St)(post:R->Ev->St->Prop)(hc:LN nb0 (E z0) (S z0) env st)(Fb:∀z r,body z=some r->SW P n nb0 c (LQ id nb0 E S E' S' post r) (E z) (S z))(hb:∀b,o=.inl b->OW n nb0 (Q .normal) (E' b) (S' b))(hr:∀r,o=.inr r->∀env st,post r env st->Q .ret env st:=by(rintro r' rfl env st hp;obtain rfl:=sm h;exact hp)):SW P n nb0 (.block id (.loop c)) Q env st:=qK E S E' S' post ho hc Fb hb hr
end
abbrev nS:AV:=.lit (.slice none 0 0)
abbrev tL(l:List (List UInt8)):AV:=.isl 1 (List.map Xe l)
abbrev mI(l:List (List UInt8×Int)):AV:=.imp (List.map (F5 (λx=>iA x)) l)
abbrev sT(l:List (List UInt8)):Option (Nat×List (Vt)):=some (1,List.map Xe l)
section
open Go.ChangeShapes Go.WideShapes Go.ChangeAt Go.RowKit Go.WideMaps Go.WideElems
open Go.ChangeMaps (open_string shut_string)
theorem Zb.below{w:World}(h:Zb w w'):Below w.heap.size w w':=⟨h.os,h.tape,h.output,h.size,h.heap⟩
theorem Tryz.ownNot:ownKnob prog.godebug=none:=by kernel_rfl
theorem Tryz.laidOut:laidOutB prog=true:=by kernel_rfl
section
variable {H:Type} {enc:TypeId×Value->H}
theorem bz(hl:laidOutB P=true){W W':World}(hg:Zb W W'){sp:Nat->Bool}:∀{ts:List TypeId} {vs:List Value} {ds:List (DataW H)} {ps:List MemPlace},
  ts.all (λt=>P.readableRec t&&decide (t<P.types.size))=true->DataW.TrodAll enc P W 0 (λ_=>true) true ts vs ds ps->(∀p∈ps,p.block<W.heap.size)->(∀p∈ps,sp p.block=true)->DataW.TrodAll enc P W' 0 sp true ts vs ds ps
 |[],[],[],ps,_,h,_,_=>h
 |t::ts,v::vs,d::ds,ps,ht,h,hlt,hs=>by
  obtain⟨p,q,h1,h2,rfl⟩:=h;simp only[Yt,Qd,YJ]at ht
  exact⟨p,q,WideElems.Trod_stays hl ht.1.1 ht.1.2 h1 (λx hx=>hg.below.same (hlt x (by simp[hx]))) (λx hx=>hs x (by simp[hx])),
   bz hl hg ht.2 h2 (λx hx=>hlt x (by simp[hx])) (λx hx=>hs x (by simp[hx])),rfl⟩
 |[],_::_,_,_,_,h,_,_=>h.elim
 |[],[],_::_,_,_,h,_,_=>h.elim
 |_::_,[],_,_,_,h,_,_=>h.elim
 |_::_,_::_,[],_,_,h,_,_=>h.elim
theorem zFL{f:Func}{s:ChangeSpec}{apart fresh handsOn again:Bool}{W':World}{args:Array Value}{ds gs:List (DataW H)}{tb:TypeId}(hl:laidOutB P=true)(hW:DataW.Whole enc P f.params.toList s.vars apart W args.toList ds gs before)(hg:Zb W W')(hts:f.params.toList.all (λt=>P.readableRec t&&decide (t<P.types.size))=true)(hvars:s.vars=[])(hr:f.resultTypes=#[tb])(hb:P.underlying tb=some .bool)(hfn:s.fn H (ds++gs)={ results:=[.lit (.bool true)],args:=ds}):s.post enc P f apart fresh handsOn again W args (.bool true) W':=by
 have hlt:=hW.lt;have hW':=hW;obtain⟨p,q,hA,hV,hpq,hz,hn⟩:=hW';rw[hvars]at hV;obtain⟨rfl,rfl⟩:=trodVars_none hV;simp only[Qy]at hpq;subst hpq;have hargs:∀sp:Nat->Bool,(∀x∈before,sp x.block=true)->DataW.TrodAll enc P W' 0 sp true f.params.toList args.toList ds before:=λsp hsp=>bz hl hg hts hA hlt hsp
 have hres:∀(b:Nat) (sp:Nat->Bool) (hd:Bool),DataW.TrodAll enc P W' b sp hd f.resultTypes.toList ((Value.bool true).resultList f.resultTypes.size) [.lit (.bool true)] []:=λb sp hd=>by
  rw[hr];exact trodAll_mk1 (shut_bool hb true)
 have hvs:∀sp:Nat->Bool,DataW.TrodVars enc P W' sp s.vars ([]:List (DataW H)) []:=λsp=>by rw[hvars];rfl
 refine⟨ds,[],before,[],before,[],hW,by rw[hfn];exact hres _ _ _,by rw[hfn];exact hargs _ (λx hx=>by simpa using hlt x hx),by rw[hfn];exact hvs _,hg.below.frame _,λ_=>⟨?_,_,_,([]++before)++[],⟨[]++before,[],trodAll_append (hargs _ (λ_ _=>rfl)) (hres _ _ _),hvs _,rfl,?_,?_⟩,?_⟩⟩;.exact ok_one hr rfl (okWide_bool_mk hb _)
 .intro b off hp
  have hp':MemPlace.cell b off∈before:=by simpa using hp
  rw[hg.below.frozen (p:=⟨b,off,none⟩) (hlt _ hp')];exact hz b off hp'
 .intro ha;simpa using hn ha
 intro x hx _;simpa using hx
theorem Xn.truly{f:FuncId}(h:Xn P f args (.lit (.bool true)))(hv:Nt (λB=>B<W.heap.size) W args VX):Calls P f VX W λe w'=>e=.returned (.bool true)/\Zb W w':=
 (h.2 _ W VX (λ_ h=>h) hv).mono λe w' ⟨v,he,hg,hvi⟩=>by
  cases hvi;exact⟨he,hg⟩
theorem zKF{A w}:Nt A w [] #[]:=⟨rfl,λi h=>by simp at h⟩
theorem zyx{A w}{c:AV}{cs:Vt}(h:VI A w c v)(t:Nt A w cs vs.toArray):Nt A w (c::cs) (v::vs).toArray:=by
 obtain⟨h1,h2⟩:=t;refine⟨by simpa using h1,λi hi=>?_⟩
 cases i with
 |zero=>simpa using h
 |succ i =>
  have:=h2 i (by simpa using hi);simpa[Array.getD]using this
end
end
section
open Go.ChangeShapes Go.WideShapes Go.ChangeAt Go.RowKit Go.WideMaps Go.WideElems
def ND(P:Program):Nat->List Field->Option Nat
 |o,[]=>some o
 |o,f::r=>if f.offset=o then ND P (o+P.cellsOf f.type) r else none
def NA(P:Program):Nat->TypeId->Bool
 |0,_=>false
 |n+1,t =>
  match P.underlying t with
  |some .bool=>true
  |some (.int _)=>true
  |some .string=>true
  |some (.slice e)=>Nat.blt 0 (P.cellsOf e)&&NA P n e
  |some (.struct fs)=>(ND P 0 fs.toList==some (P.cellsOf t))&&fs.toList.all λf=>NA P n f.type
  |_=>false
def ZF(P:Program):Nat->TypeId->Vt->Prop
 |0,_,_=>False
 |n+1,t,V5 =>
  match P.underlying t with
  |some .bool=>∃b,V5=[.lit (.bool b)]
  |some (.int k)=>∃m,V5=[.lit (.int k m)]/\(Lit.int k m).wf=true
  |some .string=>∃s:List UInt8,V5=[.lit (.string (B s))]/\s.length<=9223372036854775807
  |some (.slice e)=>∃els,V5=[.isl (P.cellsOf e) els]/\els.length<=9223372036854775807/\∀r∈els,ZF P n e r
  |some (.struct fs)=>∃parts:List (Vt),V5=parts.flatten/\parts.length=fs.size/\∀(i:Nat) f p,fs[i]?=some f->parts[i]?=some p->ZF P n f.type p
  |_=>False
section
variable {H:Type} {enc:TypeId×Value->H}
abbrev Hr(W:World)(V5:Vt)(cs:List Value):Prop:=V5.length=cs.length/\∀(i:Nat) av v,V5[i]?=some av->cs[i]?=some v->VI (λB=>B<W.heap.size) W av v
theorem lg{a b:Vt}{ds:List Value}(h:Hr W a cs)(k:Hr W b ds):Hr W (a++b) (cs++ds):=by
 refine⟨by simp[h.1,k.1],λi av v h1 h2=>?_⟩;by_cases hi:i<a.length;.rw[Qs hi]at h1;rw[Qs (by rw[<-h.1];exact hi)]at h2;exact h.2 i av v h1 h2
 rw[Qt YA]at h1;rw[Qt (by rw[<-h.1];omega),<-h.1]at h2;exact k.2 _ av v h1 h2
theorem Ep(h:VI (λB=>B<W.heap.size) W av v):Hr W [av] [v]:=
 ⟨rfl,λi a u h1 h2=>by
  cases i with
  |zero=>cases h1;cases h2;exact h
  |succ i=>simp at h1⟩
theorem zEx{w:World}{a:Addr}(h:w.cells? base a n=some cs):cs.length=n/\∀j,j<n->w.cell? (a.add j)=cs[j]?:=by
 unfold World.cells? at h;split at h
 .have key:∀(l:List Nat) (r:List Value),l.mapM (λi=>w.cell? (a.add i))=some r->r.length=l.length/\∀(j:Nat) x,l[j]?=some x->w.cell? (a.add x)=r[j]?:=by
   intro l
   induction l with
   |nil=>intro r hr;simp at hr;subst hr;exact⟨rfl,λj x hx=>by simp at hx⟩
   |cons y l ih =>
    intro r hr;simp only[List.mapM_cons,Option.bind_eq_bind,Option.pure_def]at hr
    cases h1:w.cell? (a.add y)with
    |none=>simp[h1]at hr
    |some b =>
     cases h2:l.mapM (λi=>w.cell? (a.add i))with
     |none=>simp[h1,h2]at hr
     |some r' =>
      simp[h1,h2]at hr;subst hr;obtain⟨k1,k2⟩:=ih r' h2;refine⟨by simp[k1],λj x hx=>?_⟩
      cases j with
      |zero=>simp at hx;subst hx;simpa using h1
      |succ j=>simpa using k2 j x (by simpa using hx)
  obtain⟨h1,h2⟩:=key _ _ h;refine⟨by simpa using h1,λj hj=>h2 j j (by simp[hj])⟩
 cases h
theorem xD:∀(n Fq:Nat) (t:TypeId) (cs:List Value) (x:DataW H×List MemPlace),NA P n t=true->DataW.trod enc P W 0 (λ_=>true) true Fq t cs=some x->(∀p∈x.2,p.block<W.heap.size)->∃V5,ZF P n t V5/\Hr W V5 cs
 |0,_,_,_,_,h,_,_=>by cases h
 |n+1,Fq,t,cs,x,hp,hx,hlt=>by
  have hmax:maxLen=9223372036854775807:=by unfold maxLen;decide
  unfold NA at hp;unfold ZF
  cases hu:P.underlying t with
  |none=>rw[hu]at hp;cases hp
  |some d =>
   rw[hu]at hp
   cases d with
   |bool =>
    obtain⟨b,rfl,_⟩:=DataW.trod_bool hu hx;exact⟨_,⟨b,rfl⟩,Ep (.lit _)⟩
   |int k =>
    obtain⟨m,rfl,_,hw⟩:=DataW.trod_int hu hx;exact⟨_,⟨m,rfl,hw⟩,Ep (.lit _)⟩
   |string =>
    obtain⟨s,rfl,_,hl⟩:=DataW.trod_string hu hx;exact⟨_,⟨s.data.toList,rfl,by rw[<-hmax];exact hl⟩,Ep (.lit _)⟩
   |slice e =>
    simp only[Qd]at hp;have hk:0<P.cellsOf e:=QE hp.1
    rcases DataW.trod_slice hu hx with ⟨rfl,rfl⟩|⟨a,len,cap,elems,Fi,n',rfl,rfl,rfl,hb,hl,hm,VR,hel,hsp,hns⟩
    .exact⟨_,⟨[],rfl,YC,λr hr=>by cases hr⟩,Ep (.inil _ _ _)⟩
    rcases Jr len with h0|h0
    .subst h0;exact⟨_,⟨[],rfl,YC,λr hr=>by cases hr⟩,Ep (.inil _ _ _)⟩
    have Fz:∀i,∃r,i<len->ZF P n e r/\r.length=P.cellsOf e/\∃cl:List Value,cl.length=P.cellsOf e/\(∀j,j<P.cellsOf e->W.cell? ((a.add (i*P.cellsOf e)).add j)=cl[j]?)/\Hr W r cl:=λi=>by
     by_cases hi:i<len
     .have h1:=hel i hi;have h2:elems[i]?=some elems[i]:=Qe YA;rw[h2]at h1
      cases hc:W.cells? 0 (a.add (i*P.cellsOf e)) (P.cellsOf e)with
      |none=>rw[hc]at h1;cases h1
      |some cl =>
       rw[hc]at h1;obtain⟨k1,k2⟩:=zEx hc
       obtain⟨r,g1,g2⟩:=xD n n' e cl elems[i] hp.2 h1 (λp hpp=>hlt p (by
        simp only[Qp,J8]
        exact .inr ⟨elems[i],.inl (Qj _),hpp⟩))
       exact⟨r,λ_=>⟨g1,by rw[g2.1,k1],cl,k1,k2,g2⟩⟩
     exact⟨[],λh=>absurd h hi⟩
    obtain⟨f,hf⟩:=Classical.axiomOfChoice Fz
    have hspot:a.spot=none:=by
     obtain⟨_,_,cl,k1,k2,_⟩:=hf 0 h0;have h2:=k2 0 hk;rw[Qe YA]at h2;simp only[Nat.zero_mul,Addr.add,YQ]at h2
     cases hs:a.spot with
     |none=>rfl
     |some q =>
      rw[World.cell?]at h2;split at h2;.rw[hs]at h2;simp at h2
      cases h2
    obtain⟨B,o,p⟩:=a;simp only at hspot;subst hspot
    have hB:B<W.heap.size:=hlt (.cell B (o+0)) (by
     refine Qp.2 (.inl (QP.2 ⟨0,Jz.2 ?_,rfl⟩))
     exact Nat.mul_pos YA hk)
    have hadd:∀i j,(((⟨B,o,none⟩:Addr).add (i*P.cellsOf e)).add j)=⟨B,o+i*P.cellsOf e+j,none⟩:=λi j=>by rw[HD,HD]
    refine⟨_,⟨(List.range len).map f,rfl,by simp;omega,λr hr=>?_⟩,Ep ?_⟩;.obtain⟨i,hi,rfl⟩:=QP.1 hr;exact(hf i (Jz.1 hi)).1
    .have hl2:((List.range len).map f).length=len:=by simp
     have:=VI.isl (A:=λB=>B<W.heap.size) (w:=W) (P.cellsOf e) ((List.range len).map f) B o cap (λi j=>(W.cell? ⟨B,o+i*P.cellsOf e+j,none⟩).getD undef) hB (by rw[hl2];exact hl)
      (λi hi=>by simp at hi;simpa using(hf i hi).2.1)
      (λi j hi hj=>by
       rw[hl2]at hi;obtain⟨_,_,cl,k1,k2,_⟩:=hf i hi;have:=k2 j hj;rw[hadd,Qe YA]at this
       rw[this];rfl)
      (λi hi j hj=>by
       have VZ:i<len:=by rw[hl2]at hi;exact hi
       obtain⟨_,g,cl,k1,k2,g2⟩:=hf i VZ
       have e1:((List.range len).map f)[i]=f i:=YC
       have hj':j<(f i).length:=by rw[e1]at hj;exact hj
       have h3:=k2 j YA;rw[hadd]at h3;show VI _ W _ ((W.cell? _).getD undef);rw[h3,Qe YA];have h4:=g2.2 j (f i)[j] cl[j] (Qe hj') (Qe YA)
       have e2:((List.range len).map f)[i][j]=(f i)[j]:=YC
       rw[e2]
       exact h4)
     rw[hl2]at this;exact this
   |struct fs =>
    simp only[Qd,YN,Qr]at hp;obtain⟨xs,n',rfl,rfl,hcl,hxl,hfs⟩:=DataW.trod_struct hu hx;have hfs':∀(i:Nat) (f:Field),fs.toList[i]?=some f->DataW.trod enc P W 0 (λ_=>true) true n' f.type ((cs.drop f.offset).take (P.cellsOf f.type))=xs[i]?:=λi f h=>hfs i f (by simpa using h)
    have key:∀(l:List Field) (k o e:Nat),fs.toList.drop k=l->ND P o l=some e->∃parts:List (Vt),parts.length=l.length/\(∀(i:Nat) f p,l[i]?=some f->parts[i]?=some p->ZF P n f.type p)/\Hr W parts.flatten ((cs.drop o).take (e-o))/\o<=e:=by
     intro l
     induction l with
     |nil =>
      intro k o e _ hl;simp only[ND,Option.some.injEq]at hl;subst hl;exact⟨[],rfl,λi f p h=>by simp at h,⟨YC,λi av v h=>by simp at h⟩,Qg _⟩
     |cons f l ih =>
      intro k o e hd hl;unfold ND at hl;split at hl
      .rename_i hoff
       have hk:fs.toList[k]?=some f:=by
        have:(fs.toList.drop k)[0]?=some f:=by rw[hd];rfl
        simpa using this
       have hd':fs.toList.drop (k+1)=l:=by
        have:=congrArg List.tail hd;simpa[List.tail_drop]using this
       obtain⟨parts,p1,p2,p3,p4⟩:=ih (k+1) _ e hd' hl;have hr:=hfs' k f hk
       have hkl:k<xs.length:=by
        have:=(Qb.1 hk).1;simp at this;omega
       rw[Qe hkl,hoff]at hr;obtain⟨r,g1,g2⟩:=xD n n' f.type _ xs[k] (hp.2 f (Qc hk)) hr (λp hpp=>hlt p (J8.2 ⟨xs[k],Qj _,hpp⟩));refine⟨r::parts,by simp[p1],λi f' p h1 h2=>?_,?_,YA⟩
       .cases i with
        |zero=>simp at h1 h2;subst h1 h2;exact g1
        |succ i=>exact p2 i f' p (by simpa using h1) (by simpa using h2)
       have e1:(cs.drop o).take (e-o)=(cs.drop o).take (P.cellsOf f.type)++(cs.drop (o+P.cellsOf f.type)).take (e-(o+P.cellsOf f.type)):=by
        have:e-o=P.cellsOf f.type+(e-(o+P.cellsOf f.type)):=YA
        rw[this,List.take_add,List.drop_drop]
       rw[e1,List.flatten_cons];exact lg g2 p3
      cases hl
    obtain⟨parts,p1,p2,p3,_⟩:=key fs.toList 0 0 _ rfl hp.1;refine⟨parts.flatten,⟨parts,rfl,by simpa using p1,λi f p h1 h2=>p2 i f p (by simpa using h1) h2⟩,?_⟩
    rwa [Yj,Nat.sub_zero,JF YA]at p3
   |_=>cases hp
theorem zx9{t:TypeId}{d:DataW H}(hp:NA P n t=true)(h:DataW.Trod enc P W 0 (λ_=>true) true t v d ps)(hlt:∀p∈ps,p.block<W.heap.size):∃V5,ZF P n t V5/\Hr W V5 v.cells.toList:=by obtain⟨Fq,hf⟩:=h;exact xD n Fq t _ _ hp hf hlt
end
section
variable {t:TypeId}
abbrev wI(k:IntKind)(x:Int):Prop:=(Lit.int k x).wf=true
abbrev wS(s:List UInt8):Prop:=s.length<=9223372036854775807
abbrev wT(_:α):Prop:=True
abbrev wL(w:α->Prop)(l:List α):Prop:=l.length<=9223372036854775807/\∀y∈l,w y
theorem gdB(hu:P.underlying t=some .bool)(h:ZF P (n+1) t V5):∃x:Bool,V5=rB x/\wT x:=by unfold ZF at h;rw[hu]at h;obtain⟨b,rfl⟩:=h;exact⟨b,rfl,trivial⟩
theorem MB{k:IntKind}(hu:P.underlying t=some (.int k))(h:ZF P (n+1) t V5):∃x:Int,V5=rI k x/\wI k x:=by unfold ZF at h;rw[hu]at h;obtain⟨m,rfl,hw⟩:=h;exact⟨m,rfl,hw⟩
theorem L6(hu:P.underlying t=some .string)(h:ZF P (n+1) t V5):∃x:List UInt8,V5=Xe x/\wS x:=by unfold ZF at h;rw[hu]at h;obtain⟨s,rfl,hw⟩:=h;exact⟨s,rfl,hw⟩
theorem gdL{e:TypeId}{k:Nat}{w:α->Prop}(hu:P.underlying t=some (.slice e))(hc:P.cellsOf e=k)(he:∀{r},ZF P n e r->∃x:α,r=f x/\w x)(h:ZF P (n+1) t V5):∃x:List α,V5=rL k f x/\wL w x:=by
 unfold ZF at h;rw[hu]at h;obtain⟨els,rfl,hl,hg⟩:=h;subst hc
 have key:∀els:List (Vt),(∀r∈els,ZF P n e r)->∃x:List α,els=x.map f/\∀y∈x,w y:=by
  intro els
  induction els with
  |nil=>intro _;exact⟨[],rfl,λy hy=>by cases hy⟩
  |cons r els ih =>
   intro h;obtain⟨x,rfl,hx⟩:=he (h r YC);obtain⟨xs,rfl,hxs⟩:=ih λr hr=>h r (by simp[hr])
   exact⟨x::xs,rfl,λy hy=>by
    rcases Qu.1 hy with rfl|hy
    .exact hx
    exact hxs y hy⟩
 obtain⟨x,rfl,hx⟩:=key els hg;exact⟨x,rfl,by simpa using hl,hx⟩
theorem ML(hu:P.underlying t=some (.struct fs))(h:ZF P (n+1) t V5):∃parts:List (Vt),V5=parts.flatten/\parts.length=fs.size/\∀(i:Nat) f p,fs[i]?=some f->parts[i]?=some p->ZF P n f.type p:=by unfold ZF at h;rw[hu]at h;exact h
theorem zEn(h:Hr W [av] v.cells.toList)(hv:v.cells.toList=[v]):VI (λB=>B<W.heap.size) W av v:=by rw[hv]at h;exact h.2 0 av v rfl rfl
theorem zJq{cs:Array Value}(h:Hr W V5 (Value.agg cs).cells.toList):VI (λB=>B<W.heap.size) W (.agg V5) (.agg cs):=by
 have h1:(Value.agg cs).cells.toList=cs.toList:=rfl;rw[h1]at h;refine .agg _ _ (by simpa using h.1.symm) λi hi=>?_
 have VZ:i<cs.size:=by have:=h.1;simp at this;omega
 have:=h.2 i V5[i] cs[i] (Qe hi) (by simp[VZ]);simpa[Qi,VZ]using this
theorem zx3{r:Reach}(hu:P.underlying t=some (.struct fs))(h:Value.okWide P W r base t v):∃cs,v=.agg cs:=by unfold Value.okWide at h;rw[hu]at h;obtain⟨cs,h1,_⟩:=h;exact⟨cs,h1⟩
end
end
theorem rz:VD 355 [] (.lit (.bool true)):=Hz [] 90 (by kernel_rfl) (λg h=>by cases h) (by kernel_rfl)
theorem ry:VD 232 [] (.lit (.bool true)):=Hz [355] 90 (by kernel_rfl) (My rz) (by kernel_rfl)
theorem rx:VD 69 [] (.lit (.bool true)):=Hz [232] 90 (by kernel_rfl) (My ry) (by kernel_rfl)
theorem rv:VD 364 [] (.lit (.bool true)):=Hz [69] 90 (by kernel_rfl) (My rx) (by kernel_rfl)
theorem mi:VD 331 [] (.lit (.bool true)):=Hz [364] 90 (by kernel_rfl) (My rv) (by kernel_rfl)
theorem ru:VD 254 [] (.lit (.bool true)):=Hz [331] 90 (by kernel_rfl) (My mi) (by kernel_rfl)
theorem ej:VD 179 [] (.lit (.bool true)):=Hz [254] 90 (by kernel_rfl) (My ru) (by kernel_rfl)
theorem lT(_:true=r):VD 179 [] (bA true):=ej
theorem rt:VD 95 [] (.lit (.bool true)):=Hz [179] 90 (by kernel_rfl) (My ej) (by kernel_rfl)
theorem mh:VD 191 [] (.lit (.bool true)):=Hz [95] 90 (by kernel_rfl) (My rt) (by kernel_rfl)
theorem lS(_:true=r):VD 191 [] (bA true):=mh
end
end Go.Proofs.YthmnlfenkhmmhaaGreat
namespace Go.Proofs
open Go.Shelf
def Tryz.lays190_ren:Go.Shelf.Ren:=⟨fun|190=>338|125=>369|258=>368|128=>390|129=>391|302=>381|303=>382|304=>383|305=>384|306=>385|307=>386|308=>387|309=>388|310=>389|333=>392|329=>393|330=>394|334=>395|335=>396|336=>397|344=>398|n=>n,fun|31=>22|9=>9|3=>3|46=>211|0=>0|51=>319|53=>210|4=>4|183=>313|182=>312|131=>157|5=>5|218=>321|222=>325|228=>327|229=>248|n=>n,fun|n=>n⟩
theorem Tryz.lays190:Go.Proofs.Lays.n190 prog Tryz.lays190_ren:={
 mixed:=by kernel_rfl
 f125:=func369.trans (congrArg some (by kernel_rfl))
 f128:=func390.trans (congrArg some (by kernel_rfl))
 f129:=func391.trans (congrArg some (by kernel_rfl))
 f190:=func338.trans (congrArg some (by kernel_rfl))
 f258:=func368.trans (congrArg some (by kernel_rfl))
 f302:=func381.trans (congrArg some (by kernel_rfl))
 f303:=func382.trans (congrArg some (by kernel_rfl))
 f304:=func383.trans (congrArg some (by kernel_rfl))
 f305:=func384.trans (congrArg some (by kernel_rfl))
 f306:=func385.trans (congrArg some (by kernel_rfl))
 f307:=func386.trans (congrArg some (by kernel_rfl))
 f308:=func387.trans (congrArg some (by kernel_rfl))
 f309:=func388.trans (congrArg some (by kernel_rfl))
 f310:=func389.trans (congrArg some (by kernel_rfl))
 f329:=func393.trans (congrArg some (by kernel_rfl))
 f330:=func394.trans (congrArg some (by kernel_rfl))
 f333:=func392.trans (congrArg some (by kernel_rfl))
 f334:=func395.trans (congrArg some (by kernel_rfl))
 f335:=func396.trans (congrArg some (by kernel_rfl))
 f336:=func397.trans (congrArg some (by kernel_rfl))
 f344:=func398.trans (congrArg some (by kernel_rfl))
 t0:=underlying0
 a0:=isAgg0
 z0:=sizeOf0
 v0:=zeroValue0
 t3:=underlying3
 a3:=isAgg3
 z3:=sizeOf3
 v3:=zeroValue3
 t4:=underlying4
 a4:=isAgg4
 z4:=sizeOf4
 v4:=zeroValue4
 t5:=underlying5
 a5:=isAgg5
 z5:=sizeOf5
 v5:=zeroValue5
 t9:=underlying9
 a9:=isAgg9
 z9:=sizeOf9
 v9:=zeroValue9
 t31:=underlying22
 a31:=isAgg22
 z31:=sizeOf22
 v31:=zeroValue22
 t46:=underlying211
 a46:=isAgg211
 z46:=sizeOf211
 v46:=zeroValue211
 t51:=underlying319
 a51:=isAgg319
 z51:=sizeOf319
 v51:=zeroValue319
 t53:=underlying210
 a53:=isAgg210
 z53:=sizeOf210
 v53:=zeroValue210
 t131:=underlying157
 a131:=isAgg157
 z131:=sizeOf157
 v131:=zeroValue157
 t182:=underlying312
 a182:=isAgg312
 z182:=sizeOf312
 v182:=zeroValue312
 t183:=underlying313
 a183:=isAgg313
 z183:=sizeOf313
 v183:=zeroValue313
 t218:=underlying321
 a218:=isAgg321
 z218:=sizeOf321
 v218:=zeroValue321
 t222:=underlying325
 a222:=isAgg325
 z222:=sizeOf325
 v222:=zeroValue325
 t228:=underlying327
 a228:=isAgg327
 z228:=sizeOf327
 v228:=zeroValue327
 t229:=underlying248
 a229:=isAgg248
 z229:=sizeOf248
 v229:=zeroValue248}
end Go.Proofs
namespace Go.Proofs.YthmnlfenkhmmhaaGreat
noncomputable section
open List (length map)
open IntKind (i64)
open Go.Proofs.Tryz
set_option linter.unusedVariables false
set_option linter.unusedSectionVars false
set_option linter.unusedSimpArgs false
set_option maxRecDepth 100000
set_option maxHeartbeats 4000000
section
open Go.Sort Go.RowKit
theorem R.redo{A:Nat->Prop}{m:BM}{w w':World}{st:St}(hR:R A m w st){l k:Nat}{els VM:List (Vt)}(hl:st[l]?=some (some (k,els))){b:LT}(hb:m l=some b)(hh:b.has=true)(hm:b.mp=false) (V1:w.heap.size<=w'.heap.size) (FG:w'.os=w.os) (FF:w'.tape=w.tape) (V9:w'.output=w.output) (Fs:∀B,B<w.heap.size->B≠b.B->w'.heap[B]?=w.heap[B]?) (VR:VM.length=els.length) (V7:∀off,off<b.top->∃v,w'.cell? ⟨b.B,off,none⟩=some v) (Ft:∀off,off<b.top->fz w' ⟨b.B,off,none⟩=false) (hw:∀i (h:i<VM.length),VM[i].length=b.k) (hv:∀i (h:i<VM.length) j (h':j<VM[i].length),∃v,w'.cell? ⟨b.B,b.o+i*b.k+j,none⟩=some v/\V A m st.length w VM[i][j] v):R A m w' (st.set l (some (k,VM)))/\Xs A m st.length w A m st.length w':=by
 obtain⟨hbk,VW,_⟩:=hR.at hb hl;replace VW:=VW hh
 have hS:Xs A m st.length w A m st.length w':=
  ⟨Qg _,V1,λ_ h=>h,λ_ h=>.inl h,λ_ _=>.inl rfl,λl b h hh=>.inr ⟨l,b,h,hh,rfl⟩,λB hB ho=>Fs B hB (λe=>ho l b hb hh e.symm),FG,FF,V9⟩
 have hV:∀av v,V A m st.length w av v->V A m st.length w' av v:=λav v h=>h.step hR hS;have hlt:l<st.length:=hR.lt hb;refine⟨⟨λB hB=>Q1 (hR.aLow B hB) V1,hR.aOwn,hR.inj,λl' b' h=>?_,λl' k' els1 he=>?_⟩,hS⟩
 .obtain⟨els1,he⟩:=hR.live l' b' h;by_cases e:l'=l;.subst e;have:b'=b:=Option.some.inj (h.symm.trans hb);subst this;exact⟨VM,by simp[hlt,hbk]⟩
  exact⟨els1,by rw[QH (Ne.symm e)];exact he⟩
 rw[Jg];by_cases e:l'=l;.subst e;rw[QM hlt]at he;simp at he;obtain⟨rfl,rfl⟩:=he;refine⟨b,hb,hbk,λ_=>Be.blk ⟨Q1 VW.low V1,V7,Ft,by rw[VR];exact VW.fit hm,hw,λi hi j hj=>?_⟩ hm,λh=>by rw[hh]at h;cases h⟩;obtain⟨v,h1,h2⟩:=hv i hi j hj;exact⟨v,h1,hV _ _ h2⟩
 rw[QH (Ne.symm e)]at he;obtain⟨b',h1,h2,h3,h4⟩:=hR.blk l' k' els1 he;refine⟨b',h1,h2,λhh'=>(h3 hh').keep V1 (Fs _ (h3 hh').low (λe'=>e (hR.inj l' l b' b h1 hb hh' hh e'))) hV,h4⟩
def K5(s:List UInt8):List (List UInt8)->List (List UInt8)
 |[]=>[s]
 |x::r=>if s<=x then s::x::r else x::K5 s r
def D4:List (List UInt8)->List (List UInt8)
 |[]=>[]
 |x::r=>K5 x (D4 r)
theorem Pa(s:List UInt8):∀l,(K5 s l).Perm (s::l)
 |[]=>.refl _
 |x::r=>by
  unfold K5;split;.exact .refl _
  exact(List.Perm.cons x (Pa s r)).trans (List.Perm.swap s x r)
theorem BE:∀l,(D4 l).Perm l
 |[]=>.refl _
 |x::r=>(Pa x (D4 r)).trans (List.Perm.cons x (BE r))
theorem qQ(a b:List UInt8):a<=b\/b<=a:=List.le_total a b
theorem uX(s:List UInt8):∀{l:List (List UInt8)},l.Pairwise (·<=·)->(K5 s l).Pairwise (·<=·)
 |[],_=>by simp[K5]
 |x::r,h=>by
  obtain⟨h1,h2⟩:=Yl.1 h;unfold K5;split
  .rename_i hs;refine Yl.2 ⟨λy hy=>?_,h⟩
   rcases Qu.1 hy with rfl|hy
   .exact hs
   exact List.le_trans hs (h1 y hy)
  rename_i hs;refine Yl.2 ⟨λy hy=>?_,uX s h2⟩
  rcases Qu.1 ((Pa s r).mem_iff.1 hy)with rfl|hy
  .exact(qQ y x).resolve_left hs
  exact h1 y hy
theorem kD:∀l:List (List UInt8),(D4 l).Pairwise (·<=·)
 |[]=>List.Pairwise.nil
 |x::r=>uX x (kD r)
theorem zFb(l:List (List UInt8)):(l.mergeSort λx y=>decide (x<=y))=D4 l:=by
 have h1:(l.mergeSort λx y=>decide (x<=y)).Pairwise (·<=·):=by
  have:=List.pairwise_mergeSort (le:=λx y:List UInt8=>decide (x<=y)) (λa b c h1 h2=>YH (List.le_trans (YO h1) (YO h2))) (λa b=>by
   rcases qQ a b with h|h
   .simp[h]
   simp[h]) l
  exact this.imp λh=>YO h
 exact Yu (λa b _ _ h1 h2=>List.le_antisymm h1 h2) h1 (kD l) ((List.mergeSort_perm l _).trans (BE l).symm)
def Nh(l:List (List UInt8)):Option (List (List UInt8)):=if l.length<4611686018427387904 then some (D4 l)else none
theorem zF6{l r:List (List UInt8)}(h:Nh l=some r):r.length=l.length:=by
 unfold Nh at h;split at h;.cases h;exact(BE _).length_eq
 cases h
theorem cO{w w':World}{b:Nat}(h:∀c e fr,w.heap[b]?=some (.cells c e fr)->∃c',w'.heap[b]?=some (.cells c' e fr))(hc:∃c e fr,w.heap[b]?=some (.cells c e fr))(off:Nat):fz w' ⟨b,off,none⟩=fz w ⟨b,off,none⟩:=by obtain⟨c,e,fr,h1⟩:=hc;obtain⟨c',h2⟩:=h c e fr h1;simp only[fz,h1,h2]
theorem cu{l:List (List UInt8)}{r:List (List UInt8)}(h:Nh l=some r):VE 338 [.msl 0 0 (List.length l)] [.many 1 (List.map Xe l)] (.tup []) [.many 1 (List.map Xe r)]:=by
 unfold Nh at h;split at h
 case isFalse=>cases h
 rename_i V8;cases h;refine⟨⟨Xo (sz:=1) (λ_=>rfl),trivial⟩,?_⟩
 cases l with
 |nil =>
  exact wl (kn:=[]) (by kernel_rfl) (λg h=>by cases h) 40 _ _ _ _ _ (by kernel_rfl)
 |cons x l =>
  generalize hl:x::l=ss at *
  have hne:0<ss.length:=by rw[<-hl];simp
  refine⟨⟨_,func338,by kernel_rfl,by kernel_rfl⟩,λA m w VX hR hv=>?_⟩;have h0:V A m 1 w (.msl 0 0 ss.length) (VX.getD 0 undef):=hv.2 0 (by simp);obtain⟨hlt,a,n',cap,hval,hb⟩:=h0.msl_inv;obtain⟨b,h1,h2,h3,h4⟩:=hR.blk 0 1 (List.map Xe ss) rfl;obtain⟨rfl,Fd,hc⟩:=hb b h1
  rcases hc with rfl|⟨hh,hm,rfl,Fc⟩
  .omega
  have VW:=(h3 hh).cells hm
  have hvals:VX=#[.slice (some ⟨b.B,b.o,none⟩) ss.length cap]:=by
   have h5:VX.size=1:=hv.1;obtain⟨u,rfl⟩:=J0.1 h5;have:u=.slice (some ⟨b.B,b.o+0*b.k,none⟩) ss.length cap:=hval;rw[this];simp
  subst hvals;rw[h2]at Fc
  have hcell:∀j (hj:j<ss.length),w.cell? ⟨b.B,b.o+j,none⟩=some (.string (B ss[j])):=λj hj=>by
   obtain⟨v,h5,h6⟩:=VW.val j (by simpa using hj) 0 (by simp[Xe]);rw[h2]at h5
   have e1:(List.map Xe ss)[j]'(by simpa using hj)=[.lit (.string (B ss[j]))]:=by simp[Xe]
   have h7:V A m 1 w (.lit (.string (B ss[j]))) v:=by
    have:((List.map Xe ss)[j]'(by simpa using hj))[0]'(by simp[Xe])=.lit (.string (B ss[j])):=by simp[Xe]
    rw[<-this];exact h6
   rw[h7.lit_inv]at h5;simpa using h5
  have hH:Holds encStr w b.B b.o ss.toArray:=λj hj=>by
   have hj':j<ss.length:=by simpa using hj
   refine⟨?_,SN (VW.free _ (by omega))⟩;rw[hcell j hj'];congr 1;simp[encStr,hj']
  refine(Any.slices_Sort_string Tryz.lays190 b.B b.o cap ss w hH VW.low V8).mono λe w' ⟨he,n,os,hw'⟩=>?_;rw[zFb]at hw';generalize hso:D4 ss=so at hw' ⊢
  have hsl:so.length=ss.length:=by rw[<-hso];exact(BE _).length_eq
  have hsa:so.toArray.size=ss.toArray.size:=by simp[hsl]
  have FQ:=VW.low
  have Fy:∀B,B<w.heap.size->B≠b.B->w'.heap[B]?=w.heap[B]?:=λB hB hne=>by
   rw[hw',heap_grow_old _ _ (by simpa using hB)];show((Go.Sort.ahead w n).heap.modify b.B _)[B]?=_;rw[Jb,YM (Ne.symm hne)];rfl
  have F0:∀a:Addr,a.block=b.B->w'.cell? a=(putRow encStr w b.B b.o so.toArray).cell? a:=λa ha=>by
   rw[hw',cell?_grow _ _ _ (by rw[ha];simpa using FQ)];rfl
  have Fm:∀j (hj:j<so.length),w'.cell? ⟨b.B,b.o+j,none⟩=some (.string (B so[j])):=λj hj=>by
   rw[F0 _ rfl,cell?_putRow encStr w b.B b.o ss.toArray so.toArray hH hsa j (by simpa using hj)];simp[encStr,hj]
  have hobj:∃c e fr,w.heap[b.B]?=some (.cells c e fr):=by
   obtain⟨v,h5⟩:=VW.there b.o (by omega);unfold World.cell? at h5;split at h5;.rename_i c e fr hq;exact⟨c,e,_,hq⟩
   cases h5
  have hred:=hR.redo (w':=w') (l:=0) (k:=1) (els:=List.map Xe ss) (VM:=List.map Xe so) rfl h1 hh hm (by rw[hw'];simp) (by rw[hw'];rfl) (by rw[hw'];rfl) (by rw[hw'];rfl) Fy (by simp[hsl])
   (λoff ho=>by
    rw[F0 _ rfl];by_cases hin2:b.o<=off/\off<b.o+so.length;.have:=Fm (off-b.o) (by omega);rw[F0 _ rfl,show b.o+(off-b.o)=off by omega]at this;exact⟨_,this⟩
    rw[cell?_putRow_other _ _ _ _ _ _ (by right;simp;omega)]
    exact VW.there off ho)
   (λoff ho=>by
    rw[cO (w:=w) (λc e fr hq=>?_) hobj];.exact VW.free off ho
    refine⟨putCells encStr b.o so.toArray c,?_⟩;rw[hw',heap_grow_old _ _ (by simpa using FQ)];show((Go.Sort.ahead w n).heap.modify b.B _)[b.B]?=_;rw[Jb,YK rfl];show(w.heap[b.B]?).map _=_
    rw[hq];rfl)
   (λi hi=>by rw[h2];simp[Xe])
   (λi hi j hj=>by
    have VZ:i<so.length:=by simpa using hi
    have hj0:j=0:=by simp[Xe]at hj;exact hj
    subst hj0;refine⟨.string (B so[i]),by rw[h2,Nat.mul_one,Je];exact Fm i VZ,?_⟩
    have:(List.map Xe so)[i][0]'hj=.lit (.string (B so[i])):=by simp[Xe]
    rw[this];exact .imm (.lit _))
  exact⟨.tuple #[],A,m,_,.tup [],he,hred.1,hred.2,.imm (.tup _ _ rfl λi hi=>by cases hi),rfl,rfl⟩
end
variable {f r:Bool}{E i:Int}{n b c a e:T0}{d:T1}{N:UInt8}
structure zp where
  Op:Int
  A:Int
  C:T0
  M:T0
abbrev Vw:=List zp
def zs(x:zp):Vt:=[iA x.Op,iA x.A,sA x.C,sA x.M]
def Kg(a:UInt8):Bool:=((decide (97<=(a.toNat:Int)))&&(decide ((a.toNat:Int)<=122)))
instance :VF 237 [.lit (.int .u8 (N.toNat:Int))] (some (Kg N)) bA:=.of λr h=>by
 refine zi func237 y kz y y ?_;unfold Kg at h;refine A ?_;refine A ?_;apply zA;obtain rfl:=h;exact⟨_,y,Xb []⟩
def KT(a:UInt8):Bool:=((decide (65<=(a.toNat:Int)))&&(decide ((a.toNat:Int)<=90)))
instance :VF 249 [.lit (.int .u8 (N.toNat:Int))] (some (KT N)) bA:=.of λr h=>by
 refine zi func249 y kz y y ?_;unfold KT at h;refine A ?_;refine A ?_;apply zA;obtain rfl:=h;exact⟨_,y,Xb []⟩
def Wg(a:UInt8):Bool:=((decide (48<=(a.toNat:Int)))&&(decide ((a.toNat:Int)<=57)))
instance :VF 322 [.lit (.int .u8 (N.toNat:Int))] (some (Wg N)) bA:=.of λr h=>by
 refine zi func322 y kz y y ?_;unfold Wg at h;refine A ?_;refine A ?_;apply zA;obtain rfl:=h;exact⟨_,y,Xb []⟩
def la(a:T0):Option (Bool):=some ((!(a==[]))&&(decide ((length a:Int)<=8)))
def E5(b:T0)(a:Int):zL (Int) (Unit) (Bool):=cond (decide (a<(length b:Int))) ((idx b a).bind λi=>(cond (!(Kg i)) ((idx b a).bind λc=>some (!(KT c))) (some false)).bind λd=>(cond d ((idx b a).bind λe=>some (!(Wg e))) (some false)).bind λf=>cond f (some (.inr (.inr false))) (some (.inl (i64.wrap (a+1))))) (some (.inr (.inl ())))
def N9(a:T0):Option (Bool):=(zk (λz=>E5 a z) 0).bind λo=>zE o (λb=>la a) some
instance :VF 236 [sA a] (N9 a) bA:=⟨λr h=>by
 refine zi func236 y kz y y<|A ?_;refine ze<|A ?_;obtain⟨o,ho,h⟩:=bs h;refine F7 ho (λz=>[(0,sA a),(5,iA (length a:Int)),(6,iA z)]) (λz=>[]) (λb=>[(0,sA a)]) (λb=>[]) (pG f236 bA) (z6 []) ?_ ?_
 .rintro m r h;refine A ?_;apply ze;apply Xa h y<;>intro c h
  .refine zc<|ze<|zg<|A ?_;obtain⟨n,e,f,i,j,l,h⟩:=LA h;refine A ?_;apply Xa h y<;>intro d h
   .refine A ?_;apply zA;cases h;exact⟨_,y,_,y,Xb []⟩
   refine zc<|A ?_;exact LB
  exact Ll
 rintro⟨⟩ rfl;refine zm<|A ?_
 exact F4⟩
def Do(a:T0):Option (Bool):=(N9 a).bind λb=>(cond (b&&(decide (1<(length a:Int)))) ((idx a 0).bind λc=>some (KT c)) (some false)).bind λd=>some d
instance :VF 158 [sA b] (Do b) bA:=⟨λr h=>by
 refine zi func158 y kz y y<|A ?_;obtain⟨a,c,d,e,h⟩:=F6 h;refine A ?_
 exact F4⟩
def Et(a:T0):Option (Bool):=(cond (a==[36,105,110,105,116]) (some true) ((N9 a).bind λb=>(cond b ((idx a 0).bind λc=>some (Kg c)) (some false)).bind λd=>some d)).bind λe=>some e
instance :VF 152 [sA b] (Et b) bA:=⟨λr h=>by
 refine zi func152 y kz y y<|A ?_;obtain⟨a,c,h⟩:=bs h;refine A ?_
 exact F4⟩
def gN(b:T0)(a:T0):Option (Bool):=(cond (decide ((length a:Int)<=(length b:Int))) ((XR b 0 (length a:Int)).bind λc=>some (c==a)) (some false)).bind λd=>some d
instance :VF 168 [sA e,sA n] (gN e n) bA:=⟨λr h=>by
 refine zi func168 y kz y y<|A ?_;obtain⟨i,d,h⟩:=bs h;refine A ?_;refine XV (x:=i) (j:=5) 6 y y y y y Lr (λc=>by replace d:=bT c d;obtain⟨l,f,d⟩:=bs d;obtain rfl:=sm d;exact g y c<|mv y<|g y c<|mv y<|g y c<|fO ti y y<|g y c<|Mm (a:=0) (b:=(length n:Int)) ti y y y (H8 y f) f<|g y c<|mv y<|g y c<|seq ti y y<|zx (eg [11,12,13,14,15,16] 6 y y y y)) (λhb=>(sm (bF hb d)).symm)<|A ?_
 exact F4⟩
def gM(a:T0)(b:T0):Option (T0):=(gN a b).bind λc=>cond c ((XR a (length b:Int) (length a:Int)).bind λd=>some d) (some a)
instance :VF 323 [sA c,sA n] (gM c n) sA:=⟨λr h=>by
 refine zi func323 y kz y y<|A ?_;apply ze;obtain⟨f,i,h⟩:=bs h;refine A ?_;apply Xa h y<;>intro d h
 .obtain⟨j,e,h⟩:=bs h;refine A ?_;refine u<|Mm (a:=(length n:Int)) (b:=(length c:Int)) ti y y (Gc y e) y e<|A ?_;exact F4
 refine zc<|A ?_
 exact F4⟩
def PT(a:T0)(b:T0):Option (T0):=(gM a b).bind λc=>some c
instance :VF 238 [sA b,sA n] (PT b n) sA:=⟨λr h=>by
 refine zi func238 y kz y y<|A ?_;obtain⟨a,c,h⟩:=bs h;refine A ?_
 exact F4⟩
def HA(b:T0):Option (Bool):=(PT b [91]).bind λc=>(PT c [91]).bind λa=>(cond (a==[73]) (some true) ((Do a).bind λd=>some d)).bind λe=>some e
instance :VF 153 [sA b] (HA b) bA:=⟨λr h=>by
 refine zi func153 y kz y y<|A ?_;obtain⟨a,c,d,e,h⟩:=F6 h;refine A ?_;obtain⟨f,i,h⟩:=bs h;refine A ?_
 exact F4⟩
def Dh(a:T0):Option (Bool):=(cond (!(a==[73])) ((HA a).bind λb=>some b) (some false)).bind λc=>some c
instance :VF 107 [sA b] (Dh b) bA:=⟨λr h=>by
 refine zi func107 y kz y y<|A ?_;obtain⟨a,c,h⟩:=bs h;refine A ?_
 exact F4⟩
def Gj(a:Int)(b:Int)(c:Int):Bool:=((decide (b<=a))&&(decide (a<=c)))
instance (V:Int):VF 288 [iA i,iA E,iA V] (some (Gj i E V)) bA:=.of λr h=>by
 refine zi func288 y kz y y ?_;unfold Gj at h;refine A ?_;refine A ?_;apply zA;obtain rfl:=h;exact⟨_,y,Xb []⟩
def Bp(a:Int):Bool:=(Gj a 1 61)
instance :VF 360 [iA i] (some (Bp i)) bA:=.of λr h=>by
 refine zi func360 y kz y y ?_;unfold Bp at h;refine A ?_;refine A ?_;apply zA;obtain rfl:=h;exact⟨_,y,Xb []⟩
def Ur(a:Int):Bool:=(Gj a 20 36)
instance :VF 201 [iA i] (some (Ur i)) bA:=.of λr h=>by
 refine zi func201 y kz y y ?_;unfold Ur at h;refine A ?_;refine A ?_;apply zA;obtain rfl:=h;exact⟨_,y,Xb []⟩
def Dd(a:Int)(b:Int):Bool:=cond (a==1) ((Gj b (-2147483648) 2147483647)) (cond ((a==3)||(a==4)) ((Gj b 0 15)) (cond (Ur a) ((Gj b 0 99)) ((b==0))))
instance :VF 361 [iA i,iA E] (some (Dd i E)) bA:=.of λr h=>by
 refine zi func361 y kz y y<|A ?_;refine ze<|zg<|A ?_;apply Xa h y<;>intro a h
 .refine A ?_;apply zA;obtain rfl:=h;exact⟨_,y,Xb []⟩
 refine A ?_;apply Xa h y<;>intro b h;.refine A ?_;apply zA;obtain rfl:=h;exact⟨_,y,Xb []⟩
 refine A ?_;apply Xa h y<;>intro c h;.refine A ?_;apply zA;obtain rfl:=h;exact⟨_,y,Xb []⟩
 refine zc<|A ?_;apply zA;obtain rfl:=h;exact⟨_,y,Xb []⟩
def GC(a:Int):Bool:=(((a==50)||(a==56))||(a==57))
instance :VF 380 [iA i] (some (GC i)) bA:=.of λr h=>by
 refine zi func380 y kz y y ?_;unfold GC at h;refine A ?_;refine A ?_;apply zA;obtain rfl:=h;exact⟨_,y,Xb []⟩
def W5(a:Int):Bool:=(Gj a 38 45)
instance :VF 373 [iA i] (some (W5 i)) bA:=.of λr h=>by
 refine zi func373 y kz y y ?_;unfold W5 at h;refine A ?_;refine A ?_;apply zA;obtain rfl:=h;exact⟨_,y,Xb []⟩
def DH(a:Int):Bool:=(((a==37)||(W5 a))||(GC a))
instance :VF 372 [iA i] (some (DH i)) bA:=.of λr h=>by
 refine zi func372 y kz y y ?_;unfold DH at h;refine A ?_;refine A ?_;apply zA;obtain rfl:=h;exact⟨_,y,Xb []⟩
def Se(b:Int)(a:T0):Option (Bool):=cond (GC b) ((Dh a).bind λc=>some c) (cond (DH b) ((Do a).bind λd=>some d) (some (a==[])))
instance :VF 362 [iA i,sA b] (Se i b) bA:=⟨λr h=>by
 refine zi func362 y kz y y<|A ?_;refine ze<|zg<|A ?_;apply Xa h y<;>intro a h
 .obtain⟨d,e,h⟩:=bs h;refine A ?_;exact F4
 refine A ?_;apply Xa h y<;>intro c h;.obtain⟨f,j,h⟩:=bs h;refine A ?_;exact F4
 refine zc<|A ?_
 exact F4⟩
def Sd(b:Int)(a:T0):Option (Bool):=cond (W5 b) ((Et a).bind λc=>some (c&&(!(a==[36,105,110,105,116])))) (some (a==[]))
instance :VF 363 [iA i,sA b] (Sd i b) bA:=⟨λr h=>by
 refine zi func363 y kz y y<|A ?_;refine ze<|A ?_;apply Xa h y<;>intro a h
 .obtain⟨c,d,h⟩:=bs h;refine A ?_;exact F4
 refine zc<|A ?_
 exact F4⟩
def C7(a:zp):Option (Bool):=(cond ((Bp a.Op)&&(Dd a.Op a.A)) ((Se a.Op a.C).bind λb=>some b) (some false)).bind λc=>(cond c ((Sd a.Op a.M).bind λd=>some d) (some false)).bind λe=>some e
instance (B:zp):VF 326 [.agg (zs B)] (C7 B) bA:=⟨λr h=>by
 refine zi func326 y kz y y<|A ?_;obtain⟨a,b,c,d,h⟩:=F6 h;refine A ?_
 exact F4⟩
def Pf(a:UInt8):Bool:=((decide (65<=(a.toNat:Int)))&&(decide ((a.toNat:Int)<=90)))
instance :VF 265 [.lit (.int .u8 (N.toNat:Int))] (some (Pf N)) bA:=.of λr h=>by
 refine zi func265 y kz y y ?_;unfold Pf at h;refine A ?_;refine A ?_;apply zA;obtain rfl:=h;exact⟨_,y,Xb []⟩
def Pj(a:UInt8):Bool:=((decide (97<=(a.toNat:Int)))&&(decide ((a.toNat:Int)<=122)))
instance :VF 266 [.lit (.int .u8 (N.toNat:Int))] (some (Pj N)) bA:=.of λr h=>by
 refine zi func266 y kz y y ?_;unfold Pj at h;refine A ?_;refine A ?_;apply zA;obtain rfl:=h;exact⟨_,y,Xb []⟩
def Pg(a:UInt8):Bool:=((decide (48<=(a.toNat:Int)))&&(decide ((a.toNat:Int)<=57)))
instance :VF 267 [.lit (.int .u8 (N.toNat:Int))] (some (Pg N)) bA:=.of λr h=>by
 refine zi func267 y kz y y ?_;unfold Pg at h;refine A ?_;refine A ?_;apply zA;obtain rfl:=h;exact⟨_,y,Xb []⟩
def lF(a:T0):Option (Bool):=some ((decide (2<=(length a:Int)))&&(decide ((length a:Int)<=8)))
def Dt(b:T0)(a:Int):zL (Int) (Unit) (Bool):=cond (decide (a<(length b:Int))) ((idx b a).bind λc=>(cond (!(Pf c)) ((cond (a==0) (some true) ((idx b a).bind λd=>(cond (!(Pj d)) ((idx b a).bind λe=>some (!(Pg e))) (some false)).bind λf=>some f)).bind λi=>some i) (some false)).bind λj=>cond j (some (.inr (.inr false))) (some (.inl (i64.wrap (a+1))))) (some (.inr (.inl ())))
def Dl(a:T0):Option (Bool):=(zk (λz=>Dt a z) 0).bind λo=>zE o (λb=>lF a) some
instance :VF 185 [sA a] (Dl a) bA:=⟨λr h=>by
 refine zi func185 y kz y y<|A ?_;refine ze<|A ?_;obtain⟨o,ho,h⟩:=bs h;refine F7 ho (λz=>[(0,sA a),(3,iA z)]) (λz=>[]) (λb=>[(0,sA a)]) (λb=>[]) (pG f185 bA) (z6 []) ?_ ?_
 .rintro l r h;refine ze<|A ?_;apply Xa h y<;>intro c h
  .refine zc<|ze<|zg ?_;obtain⟨e,f,i,j,h⟩:=F6 h;refine A ?_;apply Xa h y<;>intro d h
   .refine A ?_;apply zA;cases h;exact⟨_,y,_,y,Xb []⟩
   refine zc<|A ?_;exact LB
  exact Ll
 rintro⟨⟩ rfl;refine zm<|A ?_
 exact F4⟩
def Wd(a:Int):Bool:=((decide (20<=a))&&(decide (a<=36)))
theorem o7(i:Int)(h:Wd i=r):VD 336 [iA i] (bA r):=by refine zi func336 y kz y y ?_;unfold Wd at h;refine A ?_;refine A ?_;apply zA;obtain rfl:=h;exact⟨_,y,Xb []⟩
instance :VF 336 [iA i] (some (Wd i)) bA:=.of λ_=>o7 i
def TU(a:Bool):Bool×Int×Bool:=cond a ((false,2,false)) ((false,0,false))
def Px(a:Int)(b:Bool):Bool×Int×Bool:=cond b ((true,0,false)) (cond (a==37) ((false,1,false)) (cond ((decide (38<=a))&&(decide (a<=45))) ((false,1,true)) (cond (a==50) (TU (a==50)) (cond (a==56) (TU (a==56)) (TU (a==57))))))
def HI(a:Int):Bool×Int×Bool:=cond (a==1) (Px a (a==1)) (cond (a==3) (Px a (a==3)) (cond (a==4) (Px a (a==4)) (Px a (Wd a))))
instance :VF 365 [iA i] (some (HI i)) (λr=>(.tup [bA r.1,iA r.2.1,bA r.2.2])):=.of λr h=>by
 refine zi func365 y kz y y<|A ?_;refine ze<|zg ?_;refine zY (X:=Bool) (λz=>[(0,iA i),(5,bA z)]) (λz=>[]) (λz=>Px i z=r) ?_ ?_
 .refine A ?_;apply Xa h y<;>intro b h;.apply zc;exact⟨(i==1),h,zl []⟩
  refine A ?_;apply Xa h y<;>intro c h;.apply zc;exact⟨(i==3),h,zl []⟩
  refine A ?_;apply Xa h y<;>intro d h;.apply zc;exact⟨(i==4),h,zl []⟩
  refine A ?_;exact(⟨(Wd i),h,zl []⟩)
 rintro n h;apply Xa h y<;>intro e h;.refine A ?_;apply zA;obtain rfl:=h;exact⟨_,y,Xb []⟩
 refine A ?_;apply Xa h y<;>intro f h;.refine A ?_;apply zA;obtain rfl:=h;exact⟨_,y,Xb []⟩
 refine A ?_;apply Xa h y<;>intro j h;.refine A ?_;apply zA;obtain rfl:=h;exact⟨_,y,Xb []⟩
 refine zY (X:=Bool) (λz=>[(24,bA z)]) (λz=>[]) (λz=>TU z=r) ?_ ?_
 .refine A ?_;apply Xa h y<;>intro l h;.apply zc;exact⟨(i==50),h,zl []⟩
  refine A ?_;apply Xa h y<;>intro m h;.apply zc;exact⟨(i==56),h,zl []⟩
  refine A ?_;exact(⟨(i==57),h,zl []⟩)
 rintro o h;apply Xa h y<;>intro a h;.refine A ?_;apply zA;obtain rfl:=h;exact⟨_,y,Xb []⟩
 refine zc<|A ?_;apply zA;obtain rfl:=h;exact⟨_,y,Xb []⟩
def Pi(b:Int)(a:Int):Bool:=cond (b==1) (((decide ((-2147483648)<=a))&&(decide (a<2147483648)))) (cond (Wd b) (((decide (0<=a))&&(decide (a<100)))) (((decide (0<=a))&&(decide (a<16)))))
instance :VF 366 [iA i,iA E] (some (Pi i E)) bA:=.of λr h=>by
 refine zi func366 y kz y y<|A ?_;refine ze<|zg<|A ?_;apply Xa h y<;>intro a h
 .refine A ?_;apply zA;obtain rfl:=h;exact⟨_,y,Xb []⟩
 refine A ?_;apply Xa h y<;>intro b h;.refine A ?_;apply zA;obtain rfl:=h;exact⟨_,y,Xb []⟩
 refine zc<|A ?_;apply zA;obtain rfl:=h;exact⟨_,y,Xb []⟩
def u5(a:T0):Option (Bool):=(cond (a==[73]) (some true) ((Dl a).bind λb=>some b)).bind λc=>some c
def EV(a:T0)(b:Int):zL (T0×Int) (T0) (Bool):=(cond ((decide (b<2))&&(decide (0<(length a:Int)))) ((idx a 0).bind λe=>some ((e.toNat:Int)==91)) (some false)).bind λc=>cond c ((XR a 1 (length a:Int)).bind λd=>some (.inl (d,(i64.wrap (b+1))))) (some (.inr (.inl a)))
def Gz(a:T0):Option (Bool):=(zk (λz=>EV z.1 z.2) (a,0)).bind λo=>zE o (λb=>u5 b) some
instance :VF 187 [sA e] (Gz e) bA:=⟨λr h=>by
 refine zi func187 y kz y y<|A ?_;refine ze<|A ?_;obtain⟨o,ho,h⟩:=bs h;refine F7 ho (λz=>[(0,sA z.1),(3,iA z.2)]) (λz=>[]) (λb=>[(0,sA b)]) (λb=>[]) (pG f187 bA) (z6 []) ?_ ?_
 .rintro⟨f,q⟩ r h;apply ze;obtain⟨i,j,h⟩:=bs h;refine A ?_;apply Xa h y<;>intro d h;.refine zc<|ze<|zg ?_;obtain⟨l,c,h⟩:=bs h;refine rl y<|u<|mv y<|u<|Mm (a:=1) (b:=(length f:Int)) ti y y (Gc y c) y c<|A ?_;refine A ?_;exact LB
  exact Ll
 rintro m rfl;apply zm;obtain⟨n,p,h⟩:=bs h;refine A ?_
 exact F4⟩
def SA(a:T0):Option (Bool):=(cond (!(a==[73])) ((Gz a).bind λb=>some b) (some false)).bind λc=>some c
instance :VF 367 [sA b] (SA b) bA:=⟨λr h=>by
 refine zi func367 y kz y y<|A ?_;obtain⟨a,c,h⟩:=bs h;refine A ?_
 exact F4⟩
def fY(a:T0):Option (Bool):=some ((decide (1<=(length a:Int)))&&(decide ((length a:Int)<=8)))
def Ds(b:T0)(a:Int):zL (Int) (Unit) (Bool):=cond (decide (a<(length b:Int))) ((idx b a).bind λc=>(cond (!(Pj c)) ((cond (a==0) (some true) ((idx b a).bind λd=>(cond (!(Pf d)) ((idx b a).bind λe=>some (!(Pg e))) (some false)).bind λf=>some f)).bind λi=>some i) (some false)).bind λj=>cond j (some (.inr (.inr false))) (some (.inl (i64.wrap (a+1))))) (some (.inr (.inl ())))
def EA(a:T0):Option (Bool):=cond (a==[36,105,110,105,116]) (some true) ((zk (λz=>Ds a z) 0).bind λo=>zE o (λb=>fY a) some)
instance :VF 186 [sA a] (EA a) bA:=⟨λr h=>by
 refine zi func186 y kz y y<|A ?_;refine ze<|A ?_;apply Xa h y<;>intro e h
 .refine A ?_;exact F4
 refine zc<|ze<|A ?_;obtain⟨o,ho,h⟩:=bs h;refine F7 ho (λz=>[(0,sA a),(3,iA z)]) (λz=>[]) (λb=>[(0,sA a)]) (λb=>[]) (pG f186 bA) (z6 []) ?_ ?_
 .rintro m r h;refine ze<|A ?_;apply Xa h y<;>intro c h
  .refine zc<|ze<|zg ?_;obtain⟨f,i,j,l,h⟩:=F6 h;refine A ?_;apply Xa h y<;>intro d h
   .refine A ?_;apply zA;cases h;exact⟨_,y,_,y,Xb []⟩
   refine zc<|A ?_;exact LB
  exact Ll
 rintro⟨⟩ rfl;refine zm<|A ?_
 exact F4⟩
def Pk(a:zp):Option (Bool):=cond ((decide (a.Op<1))||(decide (61<a.Op))) (some false) (cond ((((HI a.Op).1)&&(!(Pi a.Op a.A)))||((!((HI a.Op).1))&&(!(a.A==0)))) (some false) ((cond ((((HI a.Op).2.1)==0)&&(!(a.C==[]))) (some true) ((cond (((HI a.Op).2.1)==1) ((Dl a.C).bind λb=>some (!b)) (some false)).bind λc=>some c)).bind λd=>(cond d (some true) ((cond (((HI a.Op).2.1)==2) ((SA a.C).bind λe=>some (!e)) (some false)).bind λf=>some f)).bind λi=>cond i (some false) (cond ((HI a.Op).2.2) ((EA a.M).bind λj=>some (j&&(!(a.M==[36,105,110,105,116])))) (some (a.M==[])))))
theorem ed(B:zp)(h:Pk B=some r):VD 335 [.agg (zs B)] (bA r):=by
 refine zi func335 y kz y y<|A ?_;refine A ?_;refine ze<|zg<|A ?_;apply Xa h y<;>intro c h
 .refine A ?_;exact F4
 refine A ?_;apply Xa h y<;>intro d h;.refine A ?_;exact F4
 obtain⟨j,e,l,f,h⟩:=F6 h;refine A ?_;apply Xa h y<;>intro a h;.refine A ?_;exact F4
 refine A ?_;apply Xa h y<;>intro b h;.obtain⟨m,i,h⟩:=bs h;refine A ?_;exact F4
 refine zc<|A ?_;exact F4
instance (B:zp):VF 335 [.agg (zs B)] (Pk B) bA:=⟨λ_=>ed B⟩
def Bv(a:Bool):Bool:=cond a (true) (false)
def Gf(a:Int):Bool:=cond (a==20) (Bv (a==20)) (cond (a==46) (Bv (a==46)) (cond (a==47) (Bv (a==47)) (cond (a==48) (Bv (a==48)) (cond (a==58) (Bv (a==58)) (Bv (a==61))))))
instance :VF 203 [iA i] (some (Gf i)) bA:=.of λr h=>by
 refine zi func203 y kz y y<|A ?_;refine ze<|A ?_;apply zg;refine zY (X:=Bool) (λz=>[(4,bA z)]) (λz=>[]) (λz=>Bv z=r) ?_ ?_
 .refine A ?_;apply Xa h y<;>intro a h;.apply zc;exact⟨(i==20),h,zl []⟩
  refine A ?_;apply Xa h y<;>intro b h;.apply zc;exact⟨(i==46),h,zl []⟩
  refine A ?_;apply Xa h y<;>intro c h;.apply zc;exact⟨(i==47),h,zl []⟩
  refine A ?_;apply Xa h y<;>intro d h;.apply zc;exact⟨(i==48),h,zl []⟩
  refine A ?_;apply Xa h y<;>intro e h;.apply zc;exact⟨(i==58),h,zl []⟩
  refine A ?_;exact(⟨(i==61),h,zl []⟩)
 rintro j h;apply Xa h y<;>intro f h;.refine A ?_;apply zA;obtain rfl:=h;exact⟨_,y,Xb []⟩
 refine zc<|A ?_;apply zA;obtain rfl:=h;exact⟨_,y,Xb []⟩
def BH(a:Bool):Bool:=cond a (true) (false)
def Di(a:Int):Bool:=cond (a==20) (BH (a==20)) (cond (a==46) (BH (a==46)) (cond (a==47) (BH (a==47)) (cond (a==48) (BH (a==48)) (cond (a==58) (BH (a==58)) (BH (a==61))))))
instance :VF 212 [iA i] (some (Di i)) bA:=.of λr h=>by
 refine zi func212 y kz y y<|A ?_;refine ze<|A ?_;apply zg;refine zY (X:=Bool) (λz=>[(4,bA z)]) (λz=>[]) (λz=>BH z=r) ?_ ?_
 .refine A ?_;apply Xa h y<;>intro a h;.apply zc;exact⟨(i==20),h,zl []⟩
  refine A ?_;apply Xa h y<;>intro b h;.apply zc;exact⟨(i==46),h,zl []⟩
  refine A ?_;apply Xa h y<;>intro c h;.apply zc;exact⟨(i==47),h,zl []⟩
  refine A ?_;apply Xa h y<;>intro d h;.apply zc;exact⟨(i==48),h,zl []⟩
  refine A ?_;apply Xa h y<;>intro e h;.apply zc;exact⟨(i==58),h,zl []⟩
  refine A ?_;exact(⟨(i==61),h,zl []⟩)
 rintro j h;apply Xa h y<;>intro f h;.refine A ?_;apply zA;obtain rfl:=h;exact⟨_,y,Xb []⟩
 refine zc<|A ?_;apply zA;obtain rfl:=h;exact⟨_,y,Xb []⟩
def GE(a:T0):Option (T0×Bool):=(HA a).bind λb=>(cond (!b) (some true) ((idx a 0).bind λc=>some (!((c.toNat:Int)==91)))).bind λd=>cond d (some ([],false)) ((XR a 1 (length a:Int)).bind λe=>some (e,true))
instance :VF 220 [sA c] (GE c) (λr=>(.tup [sA r.1,bA r.2])):=⟨λr h=>by
 refine zi func220 y kz y y<|A ?_;apply ze;obtain⟨f,i,j,l,h⟩:=F6 h;refine A ?_;apply Xa h y<;>intro d h
 .refine A ?_;exact F4
 apply zc;obtain⟨m,e,h⟩:=bs h;refine rg y<|u<|mv y<|u<|Mm (a:=1) (b:=(length c:Int)) ti y y (Gc y e) y e<|A ?_
 exact F4⟩
structure zh where
  Name:T0
  Type_:T0
  Static:Bool
abbrev Vv:=List zh
def zv(x:zh):Vt:=[sA x.Name,sA x.Type_,bA x.Static]
structure zZ where
  At:Int
  Locals:T1
  Stack:T1
abbrev Vy:=List zZ
def zV(x:zZ):Vt:=[iA x.At,tL x.Locals,tL x.Stack]
structure zU where
  From:Int
  To:Int
  At:Int
  C:T0
abbrev Vx:=List zU
def XF(x:zU):Vt:=[iA x.From,iA x.To,iA x.At,sA x.C]
structure zb where
  Name:T0
  Params:T1
  Ret:T0
  Static:Bool
  Abstract:Bool
  Locals:Int
  Stack:Int
  Code:Vw
  Maps:Vy
  Traps:Vx
abbrev Vu:=List zb
def zd(x:zb):Vt:=[sA x.Name,tL x.Params,sA x.Ret,bA x.Static,bA x.Abstract,iA x.Locals,iA x.Stack,.isl 4 (map zs x.Code),.isl 3 (map zV x.Maps),.isl 4 (map XF x.Traps)]
structure za where
  Name:T0
  Super:T0
  Interface:Bool
  Impl:T1
  Fields:Vv
  Methods:Vu
abbrev Vr:=List za
def zf(x:za):Vt:=[sA x.Name,sA x.Super,bA x.Interface,tL x.Impl,.isl 3 (map zv x.Fields),.isl 10 (map zd x.Methods)]
abbrev cL(l:Vr):AV:=.isl 6 (map zf l)
abbrev Km:Vr:=[(za.mk [70,97,99,101] [79,98,106,101,99,116] true [] [] ([(zb.mk [102] [] [73] false true 0 0 [] [] [])])),(za.mk [65,97] [79,98,106,101,99,116] false ([[70,97,99,101]]) ([(zh.mk [120] [73] false),(zh.mk [115] [73] true)]) ([(zb.mk [102] [] [73] false false 1 1 ([(zp.mk 1 5 [] []),(zp.mk 47 0 [] [])]) [] [])])),(za.mk [66,98] [65,97] false [] ([(zh.mk [121] [91,65,97] false)]) ([(zb.mk [109,97,105,110] [] [86] true false 0 0 ([(zp.mk 46 0 [] [])]) [] [])]))]
abbrev NH:St:=[some (6,[[sA [70,97,99,101],sA [79,98,106,101,99,116],bA true,nS,nS,.msl 1 0 1],[sA [65,97],sA [79,98,106,101,99,116],bA false,.msl 2 0 1,.msl 3 0 2,.msl 4 0 1],[sA [66,98],sA [65,97],bA false,nS,.msl 6 0 1,.msl 7 0 1]]),some (10,[[sA [102],nS,sA [73],bA false,bA true,iA 0,iA 0,nS,nS,nS]]),some (1,[[sA [70,97,99,101]]]),some (3,[[sA [120],sA [73],bA false],[sA [115],sA [73],bA true]]),some (10,[[sA [102],nS,sA [73],bA false,bA false,iA 1,iA 1,.msl 5 0 2,nS,nS]]),some (4,[[iA 1,iA 5,sA [],sA []],[iA 47,iA 0,sA [],sA []]]),some (3,[[sA [121],sA [91,65,97],bA false]]),some (10,[[sA [109,97,105,110],nS,sA [86],bA true,bA false,iA 0,iA 0,.msl 8 0 1,nS,nS]]),some (4,[[iA 46,iA 0,sA [],sA []]])]
abbrev Zf:Option (Nat×List (Vt)):=some (10,[[sA [],nS,sA [],bA false,bA false,iA 0,iA 0,nS,nS,nS]])
abbrev Xw(l:Vr)(m:T2)(a b c:Nat)(s:T1):Option (Nat×List (Vt)):=some (4,[[.ipt 2 [[cL l,mI m]] 0 0,.mmp a,.mmp b,.msl c 0 (length s)]])
def Pn(a:zh):Option (Bool):=(Et a.Name).bind λb=>(cond (b&&(!(a.Name==[36,105,110,105,116]))) ((HA a.Type_).bind λc=>some c) (some false)).bind λd=>some d
theorem ez(J:zh)(h:Pn J=some r):VD 151 [.agg (zv J)] (bA r):=by refine zi func151 y kz y y<|A ?_;obtain⟨a,b,c,d,h⟩:=F6 h;refine A ?_;exact F4
instance (J:zh):VF 151 [.agg (zv J)] (Pn J) bA:=⟨λ_=>ez J⟩
def Po(a:zh):T0:=a.Name
theorem eA(J:zh){r:T0}(h:Po J=r):VD 150 [.agg (zv J)] (sA r):=by refine zi func150 y kz y y ?_;unfold Po at h;refine A ?_;refine A ?_;apply zA;obtain rfl:=h;exact⟨_,y,Xb []⟩
instance (J:zh):VF 150 [.agg (zv J)] (some (Po J)) sA:=.of λ_=>eA J
def gF(a:zh)(b:T0)(c:T0)(d:Bool):Bool:=((Po (zh.mk b c d))==(Po a))
instance (J:zh):VF 235 [.agg (zv J),.ipt 1 [[.fn (.func 150) [] []]] 0 0,.ipt 3 [[sA b,sA n,bA f]] 0 0] (some (gF J b n f)) bA:=.of λr h=>by
 refine zi func235 y kz y y ?_;unfold gF at h;refine A ?_;refine Lc [(4,_)] [] [] YU [(4,_),(11,_),(10,_),(9,_),(8,_),(7,_),(6,_),(5,_)] 0 (Xg ⟨F1,F1,(by exact pb y (pc (eA (zh.mk b n f) y) y y y<|w)),F1,F1,F1,F1,F1,t⟩ (z6 [])) ?_;apply zA;obtain rfl:=h;exact⟨_,y,Xb []⟩
def jx:Option (Int):=some (-1)
def Cc(b:Vv)(c:T0)(d:T0)(e:Bool)(a:Int):zL (Int) (Unit) (Int):=cond (decide (a<(length b:Int))) ((idx b a).bind λf=>cond (gF f c d e) (some (.inr (.inr a))) (some (.inl (i64.wrap (a+1))))) (some (.inr (.inl ())))
def hG(a:Vv)(c:T0)(d:T0)(e:Bool):Option (Int):=(zk (λz=>Cc a c d e z) 0).bind λo=>zE o (λb=>jx) some
instance (s:Vv):VF 315 [.isl 3 (map zv s),.fn (.func 235) [] [.ipt 1 [[.fn (.func 150) [] []]] 0 0,.ipt 3 [[sA a,sA n,bA f]] 0 0]] (hG s a n f) iA:=⟨λr h=>by
 refine zi func315 y kz y y<|A ?_;refine ze<|A ?_;obtain⟨o,ho,h⟩:=bs h;refine F7 ho (λz=>[(0,.isl 3 (map zv s)),(1,.fn (.func 235) [] [.ipt 1 [[.fn (.func 150) [] []]] 0 0,.ipt 3 [[sA a,sA n,bA f]] 0 0]),(7,iA (length s:Int)),(8,iA z)]) (λz=>[]) (λb=>[]) (λb=>[]) (pG f315 iA) (z6 []) ?_ ?_
 .rintro e r h;refine A ?_;apply ze;apply Xa h y<;>intro c h
  .refine zc<|ze<|zg<|A ?_;obtain⟨i,j,h⟩:=bs h;refine A ?_;apply Xa h y<;>intro d h
   .refine A ?_;apply zA;cases h;exact⟨_,y,_,y,Xb []⟩
   refine zc<|A ?_;exact LB
  exact Ll
 rintro⟨⟩ rfl;refine zm<|A ?_
 exact F4⟩
def Rw(a:Vv)(b:T0)(c:T0)(d:Bool):Option (Bool):=(hG a b c d).bind λe=>some (decide (0<=e))
theorem jS(s:Vv)(b:T0)(n:T0)(f:Bool)(h:Rw s b n f=some r):VD 234 [.isl 3 (map zv s),.fn (.func 235) [] [.ipt 1 [[.fn (.func 150) [] []]] 0 0,.ipt 3 [[sA b,sA n,bA f]] 0 0]] (bA r):=by refine zi func234 y kz y y<|A ?_;obtain⟨a,c,h⟩:=bs h;refine A ?_;exact F4
instance (s:Vv):VF 234 [.isl 3 (map zv s),.fn (.func 235) [] [.ipt 1 [[.fn (.func 150) [] []]] 0 0,.ipt 3 [[sA b,sA n,bA f]] 0 0]] (Rw s b n f) bA:=⟨λ_=>jS s b n f⟩
def pI(a:Vv)(b:Int):Option (Bool):=some (decide ((length a:Int)<=b))
def gy(c:Vv)(b:Int):zL (Int) (Unit) (Bool):=cond (decide (b<(length c:Int))) ((idx c b).bind λa=>(Pn a).bind λd=>(cond (!d) (some true) ((XR c 0 b).bind λe=>(Rw e a.Name a.Type_ a.Static).bind λf=>some f)).bind λi=>cond i (some (.inr (.inr false))) (some (.inl (i64.wrap (b+1))))) (some (.inr (.inl ())))
def AJ(a:Vv)(c:Int):Option (Bool):=(zk (λz=>gy a z) 0).bind λo=>zE o (λb=>pI a c) some
instance (s:Vv):VF 149 [.isl 3 (map zv s),iA i,.fn (.func 150) [] [],.fn (.func 151) [] []] (AJ s i) bA:=⟨λr h=>by
 refine zi func149 y kz y y<|A ?_;refine ze<|A ?_;obtain⟨o,ho,h⟩:=bs h;refine F7 ho (λz=>[(0,.isl 3 (map zv s)),(1,iA i),(3,.fn (.func 151) [] []),(6,Vg),(11,.isl 3 (map zv s)),(12,iA (length s:Int)),(13,iA z)]) (λz=>[some (1,[[.fn (.func 150) [] []]])]) (λb=>[(0,.isl 3 (map zv s)),(1,iA i)]) (λb=>[]) (pG f149 bA) (z6 [0]) ?_ ?_
 .rintro B r h;refine A ?_;apply ze;apply Xa h y<;>intro m h
  .refine zc<|ze<|zg ?_;obtain⟨e,C,h⟩:=bs h;refine A ?_;obtain⟨D,n,p,d,h⟩:=F6 h;refine rg y<|u<|mv y<|u<|ld ti y y<|u<|pc (ez e n) y y y<|u<|nt y<|u<|mv y<|Uj (x:=p) (j:=4) 5 y y y y y Lr (λc=>by replace d:=bF c d;obtain⟨q,f,d⟩:=bs d;obtain⟨E,v,d⟩:=bs d;obtain rfl:=sm d;exact g y c<|mv y<|g y c<|mv y<|g y c<|Mi (a:=0) (b:=B) ti y ti y y y (H8 y f) f<|g y c<|mf y y<|g y c<|Lj (jS q e.Name e.Type_ e.Static v) y y (.cons (si y) (.cons (ZB t ⟨(XC y ⟨(si y),t⟩),(XC y ⟨(si y),(si y),(si y),t⟩),t⟩) .nil)) Xx<|zx (eg [23,24,25,26,27] 5 y y y y)) (λhb=>(sm (bT hb d)).symm)<|zx ?_;apply Xa h y<;>intro l h
   .refine A ?_;apply zA;cases h;exact⟨_,y,_,y,Xb []⟩
   refine zc<|A ?_;exact LC
  exact Ll
 rintro⟨⟩ rfl;refine zm<|A ?_
 exact F4⟩
def kr(a:T0):Option (Bool):=(HA a).bind λb=>some (!b)
instance :VF 324 [sA b,.ipt 1 [[.fn (.func 153) [] []]] 0 0] (kr b) bA:=⟨λr h=>by
 refine zi func324 y kz y y<|A ?_;obtain⟨a,c,h⟩:=bs h;refine A ?_
 exact F4⟩
def jf:Option (Int):=some (-1)
def A3(b:T1)(a:Int):zL (Int) (Unit) (Int):=cond (decide (a<(length b:Int))) ((idx b a).bind λc=>(kr c).bind λd=>cond d (some (.inr (.inr a))) (some (.inl (i64.wrap (a+1))))) (some (.inr (.inl ())))
def gO(a:T1):Option (Int):=(zk (λz=>A3 a z) 0).bind λo=>zE o (λb=>jf) some
instance :VF 181 [tL d,.fn (.func 324) [] [.ipt 1 [[.fn (.func 153) [] []]] 0 0]] (gO d) iA:=⟨λr h=>by
 refine zi func181 y kz y y<|A ?_;refine ze<|A ?_;obtain⟨o,ho,h⟩:=bs h;refine F7 ho (λz=>[(0,tL d),(1,.fn (.func 324) [] [.ipt 1 [[.fn (.func 153) [] []]] 0 0]),(7,iA (length d:Int)),(8,iA z)]) (λz=>[]) (λb=>[]) (λb=>[]) (pG f181 iA) (z6 []) ?_ ?_
 .rintro e r h;refine A ?_;apply ze;apply Xa h y<;>intro a h
  .refine zc<|ze<|zg<|A ?_;obtain⟨f,i,j,l,h⟩:=F6 h;refine A ?_;apply Xa h y<;>intro c h
   .refine A ?_;apply zA;cases h;exact⟨_,y,_,y,Xb []⟩
   refine zc<|A ?_;exact LB
  exact Ll
 rintro⟨⟩ rfl;refine zm<|A ?_
 exact F4⟩
def A4(a:T1):Option (Bool):=(gO a).bind λb=>some (decide (0<=b))
theorem js(d:T1)(h:A4 d=some r):VD 99 [tL d,.fn (.func 324) [] [.ipt 1 [[.fn (.func 153) [] []]] 0 0]] (bA r):=by refine zi func99 y kz y y<|A ?_;obtain⟨a,b,h⟩:=bs h;refine A ?_;exact F4
instance :VF 99 [tL d,.fn (.func 324) [] [.ipt 1 [[.fn (.func 153) [] []]] 0 0]] (A4 d) bA:=⟨λ_=>js d⟩
def Tb(a:T1):Option (Bool):=(A4 a).bind λb=>some (!b)
instance :VF 241 [tL d,.fn (.func 153) [] []] (Tb d) bA:=⟨λr h=>by
 refine zi func241 y kz y y<|A ?_;obtain⟨b,a,h⟩:=bs h;refine A ?_;refine u<|Lj (js d a) y y (.cons (si y) (.cons (ZB t ⟨(XC y ⟨(si y),t⟩),t⟩) .nil)) Xx<|A ?_
 exact F4⟩
def Sq(a:T0):Option (Bool):=(cond (a==[86]) (some true) ((HA a).bind λb=>some b)).bind λc=>some c
instance :VF 242 [sA b] (Sq b) bA:=⟨λr h=>by
 refine zi func242 y kz y y<|A ?_;obtain⟨a,c,h⟩:=bs h;refine A ?_
 exact F4⟩
def HK(a:zb):Bool:=(((((!a.Static)&&(!(a.Name==[36,105,110,105,116])))&&(a.Locals==0))&&(a.Stack==0))&&((i64.wrap ((i64.wrap ((length a.Code:Int)+(length a.Maps:Int)))+(length a.Traps:Int)))==0))
instance (c:zb):VF 243 [.agg (zd c)] (some (HK c)) bA:=.of λr h=>by
 refine zi func243 y kz y y ?_;unfold HK at h;refine A ?_;refine A ?_;apply zA;obtain rfl:=h;exact⟨_,y,Xb []⟩
def Zx(a:zb):Int:=cond a.Static ((length a.Params:Int)) ((i64.wrap ((length a.Params:Int)+1)))
theorem TT(c:zb){r:Int}(h:Zx c=r):VD 245 [.agg (zd c)] (iA r):=by
 refine zi func245 y kz y y<|A ?_;refine ze<|A ?_;apply Xa h y<;>intro a h
 .refine A ?_;apply zA;obtain rfl:=h;exact⟨_,y,Xb []⟩
 refine zc<|A ?_;apply zA;obtain rfl:=h;exact⟨_,y,Xb []⟩
instance (c:zb):VF 245 [.agg (zd c)] (some (Zx c)) iA:=.of λ_=>TT c
def zB(a:Int)(b:Int)(c:Int):Bool:=((decide (b<=a))&&(decide (a<=c)))
theorem ID(i:Int)(E:Int)(V:Int)(h:zB i E V=r):VD 244 [iA i,iA E,iA V] (bA r):=by refine zi func244 y kz y y ?_;unfold zB at h;refine A ?_;refine A ?_;apply zA;obtain rfl:=h;exact⟨_,y,Xb []⟩
instance (V:Int):VF 244 [iA i,iA E,iA V] (some (zB i E V)) bA:=.of λ_=>ID i E V
def gl(a:zp)(b:Int):Option (Bool):=(C7 a).bind λc=>some ((!c)||((Ur a.Op)&&(decide (b<=a.A))))
instance (B:zp):VF 325 [.agg (zs B),.ipt 1 [[iA i]] 0 0] (gl B i) bA:=⟨λr h=>by
 refine zi func325 y kz y y<|A ?_;obtain⟨a,b,h⟩:=bs h;refine A ?_
 exact F4⟩
def je:Option (Int):=some (-1)
def Ci(b:Vw)(c:Int)(a:Int):zL (Int) (Unit) (Int):=cond (decide (a<(length b:Int))) ((idx b a).bind λd=>(gl d c).bind λe=>cond e (some (.inr (.inr a))) (some (.inl (i64.wrap (a+1))))) (some (.inr (.inl ())))
def gZ(a:Vw)(c:Int):Option (Int):=(zk (λz=>Ci a c z) 0).bind λo=>zE o (λb=>je) some
instance (a:Vw):VF 349 [.isl 4 (map zs a),.fn (.func 325) [] [.ipt 1 [[iA i]] 0 0]] (gZ a i) iA:=⟨λr h=>by
 refine zi func349 y kz y y<|A ?_;refine ze<|A ?_;obtain⟨o,ho,h⟩:=bs h;refine F7 ho (λz=>[(0,.isl 4 (map zs a)),(1,.fn (.func 325) [] [.ipt 1 [[iA i]] 0 0]),(7,iA (length a:Int)),(8,iA z)]) (λz=>[]) (λb=>[]) (λb=>[]) (pG f349 iA) (z6 []) ?_ ?_
 .rintro e r h;refine A ?_;apply ze;apply Xa h y<;>intro c h
  .refine zc<|ze<|zg<|A ?_;obtain⟨f,j,l,m,h⟩:=F6 h;refine A ?_;apply Xa h y<;>intro d h
   .refine A ?_;apply zA;cases h;exact⟨_,y,_,y,Xb []⟩
   refine zc<|A ?_;exact LB
  exact Ll
 rintro⟨⟩ rfl;refine zm<|A ?_
 exact F4⟩
def Ry(a:Vw)(b:Int):Option (Bool):=(gZ a b).bind λc=>some (decide (0<=c))
theorem ji(o:Vw)(i:Int)(h:Ry o i=some r):VD 304 [.isl 4 (map zs o),.fn (.func 325) [] [.ipt 1 [[iA i]] 0 0]] (bA r):=by refine zi func304 y kz y y<|A ?_;obtain⟨a,b,h⟩:=bs h;refine A ?_;exact F4
instance (o:Vw):VF 304 [.isl 4 (map zs o),.fn (.func 325) [] [.ipt 1 [[iA i]] 0 0]] (Ry o i) bA:=⟨λ_=>ji o i⟩
def P2(a:zb):Option (Bool):=(cond (!(zB (length a.Code:Int) 1 100)) (some true) ((idx a.Code (i64.wrap ((length a.Code:Int)-1))).bind λb=>some (!(Gf b.Op)))).bind λc=>cond c (some false) ((Ry a.Code (length a.Code:Int)).bind λd=>some (!d))
theorem iR(c:zb)(h:P2 c=some r):VD 246 [.agg (zd c)] (bA r):=by
 refine zi func246 y kz y y<|A ?_;refine A ?_;apply ze;obtain⟨d,e,h⟩:=bs h;refine A ?_;apply Xa h y<;>intro a h
 .refine A ?_;exact F4
 apply zc;obtain⟨f,b,h⟩:=bs h;refine A ?_;refine u<|Lj (ji c.Code (length c.Code:Int) b) y y (.cons (si y) (.cons (ZB t ⟨(XC y ⟨(si y),t⟩),t⟩) .nil)) Xx<|A ?_;exact F4
instance (c:zb):VF 246 [.agg (zd c)] (P2 c) bA:=⟨λ_=>iR c⟩
def S6(a:T0):Option (Bool):=(cond (((a==[73])||(a==[78]))||(a==[84])) (some true) ((Dh a).bind λb=>some b)).bind λc=>some c
instance :VF 327 [sA b] (S6 b) bA:=⟨λr h=>by
 refine zi func327 y kz y y<|A ?_;obtain⟨a,c,h⟩:=bs h;refine A ?_
 exact F4⟩
def gd(a:T0):Option (Bool):=(S6 a).bind λb=>some (!b)
instance :VF 324 [sA b,.ipt 1 [[.fn (.func 327) [] []]] 0 0] (gd b) bA:=⟨λr h=>by
 refine zi func324 y kz y y<|A ?_;obtain⟨a,c,h⟩:=bs h;refine A ?_
 exact F4⟩
def jr:Option (Int):=some (-1)
def Cr(b:T1)(a:Int):zL (Int) (Unit) (Int):=cond (decide (a<(length b:Int))) ((idx b a).bind λc=>(gd c).bind λd=>cond d (some (.inr (.inr a))) (some (.inl (i64.wrap (a+1))))) (some (.inr (.inl ())))
def gY(a:T1):Option (Int):=(zk (λz=>Cr a z) 0).bind λo=>zE o (λb=>jr) some
instance :VF 181 [tL d,.fn (.func 324) [] [.ipt 1 [[.fn (.func 327) [] []]] 0 0]] (gY d) iA:=⟨λr h=>by
 refine zi func181 y kz y y<|A ?_;refine ze<|A ?_;obtain⟨o,ho,h⟩:=bs h;refine F7 ho (λz=>[(0,tL d),(1,.fn (.func 324) [] [.ipt 1 [[.fn (.func 327) [] []]] 0 0]),(7,iA (length d:Int)),(8,iA z)]) (λz=>[]) (λb=>[]) (λb=>[]) (pG f181 iA) (z6 []) ?_ ?_
 .rintro e r h;refine A ?_;apply ze;apply Xa h y<;>intro a h
  .refine zc<|ze<|zg<|A ?_;obtain⟨f,i,j,l,h⟩:=F6 h;refine A ?_;apply Xa h y<;>intro c h
   .refine A ?_;apply zA;cases h;exact⟨_,y,_,y,Xb []⟩
   refine zc<|A ?_;exact LB
  exact Ll
 rintro⟨⟩ rfl;refine zm<|A ?_
 exact F4⟩
def A6(a:T1):Option (Bool):=(gY a).bind λb=>some (decide (0<=b))
theorem jt(d:T1)(h:A6 d=some r):VD 99 [tL d,.fn (.func 324) [] [.ipt 1 [[.fn (.func 327) [] []]] 0 0]] (bA r):=by refine zi func99 y kz y y<|A ?_;obtain⟨a,b,h⟩:=bs h;refine A ?_;exact F4
instance :VF 99 [tL d,.fn (.func 324) [] [.ipt 1 [[.fn (.func 327) [] []]] 0 0]] (A6 d) bA:=⟨λ_=>jt d⟩
def Pz(a:T1):Option (Bool):=(A6 a).bind λb=>some (!b)
instance :VF 241 [tL d,.fn (.func 327) [] []] (Pz d) bA:=⟨λr h=>by
 refine zi func241 y kz y y<|A ?_;obtain⟨b,a,h⟩:=bs h;refine A ?_;refine u<|Lj (jt d a) y y (.cons (si y) (.cons (ZB t ⟨(XC y ⟨(si y),t⟩),t⟩) .nil)) Xx<|A ?_
 exact F4⟩
def ja:Option (Int):=some (-1)
def M1(b:T1)(c:T0)(a:Int):zL (Int) (Unit) (Int):=cond (decide (a<(length b:Int))) ((idx b a).bind λd=>cond (c==d) (some (.inr (.inr a))) (some (.inl (i64.wrap (a+1))))) (some (.inr (.inl ())))
def Ha(a:T1)(c:T0):Option (Int):=(zk (λz=>M1 a c z) 0).bind λo=>zE o (λb=>ja) some
theorem M0(d:T1)(a:T0){r:Int}(h:Ha d a=some r):VD 131 [tL d,sA a] (iA r):=by
 refine zi func131 y kz y y<|A ?_;refine ze<|A ?_;obtain⟨o,ho,h⟩:=bs h;refine F7 ho (λz=>[(0,tL d),(1,sA a),(7,iA (length d:Int)),(8,iA z)]) (λz=>[]) (λb=>[]) (λb=>[]) (pG f131 iA) (z6 []) ?_ ?_
 .rintro f r h;refine A ?_;apply ze;apply Xa h y<;>intro c h
  .refine zc<|ze<|zg<|A ?_;obtain⟨i,j,h⟩:=bs h;refine A ?_;apply Xa h y<;>intro e h
   .refine A ?_;apply zA;cases h;exact⟨_,y,_,y,Xb []⟩
   refine zc<|A ?_;exact LB
  exact Ll
 rintro⟨⟩ rfl;refine zm<|A ?_;exact F4
instance :VF 131 [tL d,sA b] (Ha d b) iA:=⟨λ_=>M0 d b⟩
def zO(a:T1)(b:T0):Option (Bool):=(Ha a b).bind λc=>some (decide (0<=c))
theorem WT(d:T1)(b:T0)(h:zO d b=some r):VD 136 [tL d,sA b] (bA r):=by refine zi func136 y kz y y<|A ?_;obtain⟨a,c,h⟩:=bs h;refine A ?_;exact F4
instance :VF 136 [tL d,sA b] (zO d b) bA:=⟨λ_=>WT d b⟩
def lN(a:zb):Option (Bool):=some (decide ((length a.Maps:Int)<=100))
def Ie(b:zb)(c:Int)(a:zZ)(d:Bool):zL (Int) (Unit) (Bool):=cond d (some (.inr (.inr false))) ((cond ((!((length a.Locals:Int)==b.Locals))||(decide (b.Stack<(length a.Stack:Int)))) (some true) ((Pz a.Locals).bind λe=>some (!e))).bind λf=>(cond f (some true) ((Pz a.Stack).bind λi=>some (!i))).bind λj=>(cond j (some true) ((zO a.Stack [84]).bind λl=>some l)).bind λm=>cond m (some (.inr (.inr false))) (some (.inl (i64.wrap (c+1)))))
def E3(c:zb)(a:Int):zL (Int) (Unit) (Bool):=cond (decide (a<(length c.Maps:Int))) ((idx c.Maps a).bind λb=>cond (!(zB b.At 0 (i64.wrap ((length c.Code:Int)-1)))) (Ie c a b true) (cond (decide (0<a)) ((idx c.Maps (i64.wrap (a-1))).bind λd=>Ie c a b (decide (b.At<=d.At))) (Ie c a b false))) (some (.inr (.inl ())))
def S8(a:zb):Option (Bool):=(zk (λz=>E3 a z) 0).bind λo=>zE o (λb=>lN a) some
instance (c:zb):VF 247 [.agg (zd c)] (S8 c) bA:=⟨λr h=>by
 refine zi func247 y kz y y<|A ?_;refine ze<|A ?_;obtain⟨o,ho,h⟩:=bs h;refine F7 ho (λz=>[(1,Vg),(6,.isl 3 (map zV c.Maps)),(7,iA (length c.Maps:Int)),(8,iA z)]) (λz=>[some (10,[(zd c)])]) (λb=>[(1,Vg)]) (λb=>[some (10,[(zd c)])]) (pG f247 bA) (z6 [0]) ?_ ?_
 .rintro f r h;refine A ?_;apply ze;apply Xa h y<;>intro i h
  .refine zc<|ze<|zg ?_;obtain⟨e,n,h⟩:=bs h;refine A ?_;apply ze;refine zY (X:=Bool) (λz=>[(1,Vg),(4,Vh),(6,.isl 3 (map zV c.Maps)),(7,iA (length c.Maps:Int)),(8,iA f),(36,bA z)]) (λz=>[some (10,[(zd c)]),some (3,[(zV e)])]) (λz=>Ie c f e z=some r) ?_ ?_
   .rcases bb (!(zB e.At 0 (i64.wrap ((length c.Code:Int)-1))))with a|a
    .replace h:=bT a h;exact LU [] YV [(36,_),(35,_),(34,_),(33,_),(32,_),(31,_),(30,_),(29,_),(28,_),(27,_),(26,_),(25,_),(24,_),(23,_),(22,_),(21,_),(20,_),(19,_),(18,_),(17,_),(16,_),(15,_),(14,_),(13,_)] 0 (Xg (z:=by exact⟨true,h,z6 [0,1]⟩))
    replace h:=bF a h
    rcases bb (decide (0<f))with d|d
    .replace h:=bT d h;obtain⟨m,p,h⟩:=bs h;exact LU [] YV [(36,_),(35,_),(34,_),(33,_),(32,_),(31,_),(30,_),(29,_),(28,_),(27,_),(26,_),(25,_),(24,_),(23,_),(22,_),(21,_),(20,_),(19,_),(18,_),(17,_),(16,_),(15,_),(14,_),(13,_)] 0 (Xg (z:=by exact⟨(decide (e.At<=m.At)),h,z6 [0,1]⟩))
    replace h:=bF d h;exact LU [] YV [(36,_),(35,_),(34,_),(33,_),(32,_),(31,_),(30,_),(29,_),(28,_),(27,_),(26,_),(25,_),(24,_),(23,_),(22,_),(21,_),(20,_),(19,_),(18,_),(17,_),(16,_),(15,_),(14,_),(13,_)] 0 (Xg (z:=by exact⟨false,h,z6 [0,1]⟩))
   rintro q h;apply Xa h y<;>intro j h;.refine A ?_;apply zA;cases h;exact⟨_,y,_,y,Xb []⟩
   apply zc;obtain⟨s,v,x,B,C,D,h⟩:=LA h;refine A ?_;apply Xa h y<;>intro l h;.refine A ?_;apply zA;cases h;exact⟨_,y,_,y,Xb []⟩
   refine zc<|A ?_;exact LC
  exact Lv
 rintro⟨⟩ rfl;refine zm<|A ?_
 exact F4⟩
def ku(a:zU)(j:T0)(l:T1)(m:T0)(n:Bool)(o:Bool)(p:Int)(q:Int)(b:Vw)(f:Vy)(i:Vx):Option (Bool):=(cond ((((decide (a.From<0))||(decide (a.To<=a.From)))||(decide ((length b:Int)<a.To)))||(!(zB a.At 0 (i64.wrap ((length b:Int)-1))))) (some true) ((cond (!(a.C==[])) ((Do a.C).bind λc=>some (!c)) (some false)).bind λd=>some d)).bind λe=>some e
instance (a:zU)(C:Bool)(o:Vw)(q:Vy)(p:Vx):VF 328 [.agg (XF a),.ipt 10 [[sA b,tL d,sA n,bA f,bA C,iA i,iA E,.isl 4 (map zs o),.isl 3 (map zV q),.isl 4 (map XF p)]] 0 0] (ku a b d n f C i E o q p) bA:=⟨λr h=>by
 refine zi func328 y kz y y<|A ?_;obtain⟨c,e,h⟩:=bs h;refine A ?_
 exact F4⟩
def jg:Option (Int):=some (-1)
def A7(b:Vx)(i:T0)(j:T1)(l:T0)(m:Bool)(n:Bool)(o:Int)(p:Int)(q:Vw)(c:Vy)(d:Vx)(a:Int):zL (Int) (Unit) (Int):=cond (decide (a<(length b:Int))) ((idx b a).bind λe=>(ku e i j l m n o p q c d).bind λf=>cond f (some (.inr (.inr a))) (some (.inl (i64.wrap (a+1))))) (some (.inr (.inl ())))
def gP(d:Vx)(e:T0)(f:T1)(i:T0)(j:Bool)(l:Bool)(m:Int)(n:Int)(p:Vw)(a:Vy)(c:Vx):Option (Int):=(zk (λz=>A7 d e f i j l m n p a c z) 0).bind λo=>zE o (λb=>jg) some
instance (p:Vx)(C:Bool)(c:Vw)(q:Vy)(P:Vx):VF 348 [.isl 4 (map XF p),.fn (.func 328) [] [.ipt 10 [[sA a,tL d,sA n,bA f,bA C,iA i,iA E,.isl 4 (map zs c),.isl 3 (map zV q),.isl 4 (map XF P)]] 0 0]] (gP p a d n f C i E c q P) iA:=⟨λr h=>by
 refine zi func348 y kz y y<|A ?_;refine ze<|A ?_;obtain⟨o,ho,h⟩:=bs h;refine F7 ho (λz=>[(0,.isl 4 (map XF p)),(1,.fn (.func 328) [] [.ipt 10 [[sA a,tL d,sA n,bA f,bA C,iA i,iA E,.isl 4 (map zs c),.isl 3 (map zV q),.isl 4 (map XF P)]] 0 0]),(7,iA (length p:Int)),(8,iA z)]) (λz=>[]) (λb=>[]) (λb=>[]) (pG f348 iA) (z6 []) ?_ ?_
 .rintro l r h;refine A ?_;apply ze;apply Xa h y<;>intro e h
  .refine zc<|ze<|zg<|A ?_;obtain⟨m,v,s,x,h⟩:=F6 h;refine A ?_;apply Xa h y<;>intro j h
   .refine A ?_;apply zA;cases h;exact⟨_,y,_,y,Xb []⟩
   refine zc<|A ?_;exact LB
  exact Ll
 rintro⟨⟩ rfl;refine zm<|A ?_
 exact F4⟩
def A8(d:Vx)(e:T0)(f:T1)(i:T0)(j:Bool)(l:Bool)(m:Int)(n:Int)(o:Vw)(a:Vy)(b:Vx):Option (Bool):=(gP d e f i j l m n o a b).bind λc=>some (decide (0<=c))
theorem jv(p:Vx)(b:T0)(d:T1)(n:T0)(f:Bool)(C:Bool)(i:Int)(E:Int)(o:Vw)(q:Vy)(P:Vx)(h:A8 p b d n f C i E o q P=some r):VD 302 [.isl 4 (map XF p),.fn (.func 328) [] [.ipt 10 [[sA b,tL d,sA n,bA f,bA C,iA i,iA E,.isl 4 (map zs o),.isl 3 (map zV q),.isl 4 (map XF P)]] 0 0]] (bA r):=by refine zi func302 y kz y y<|A ?_;obtain⟨a,c,h⟩:=bs h;refine A ?_;exact F4
instance (p:Vx)(C:Bool)(o:Vw)(q:Vy)(P:Vx):VF 302 [.isl 4 (map XF p),.fn (.func 328) [] [.ipt 10 [[sA b,tL d,sA n,bA f,bA C,iA i,iA E,.isl 4 (map zs o),.isl 3 (map zV q),.isl 4 (map XF P)]] 0 0]] (A8 p b d n f C i E o q P) bA:=⟨λ_=>jv p b d n f C i E o q P⟩
def Tc(a:zb):Option (Bool):=(A8 a.Traps a.Name a.Params a.Ret a.Static a.Abstract a.Locals a.Stack a.Code a.Maps a.Traps).bind λb=>some ((!b)&&(decide ((length a.Traps:Int)<=6)))
variable {C:Bool}{p:Vx}{q:Vy}{I j:Vu}{s:Vv}{o:Vw}{x:za}{c:zb}
instance :VF 248 [.agg (zd c)] (Tc c) bA:=⟨λr h=>by
 refine zi func248 y kz y y<|A ?_;obtain⟨b,a,h⟩:=bs h;refine A ?_;refine u<|Lj (jv c.Traps c.Name c.Params c.Ret c.Static c.Abstract c.Locals c.Stack c.Code c.Maps c.Traps a) y y (.cons (si y) (.cons (ZB t ⟨(XC y ⟨(si y),(si y),(si y),(si y),(si y),(si y),(si y),(si y),(si y),(si y),t⟩),t⟩) .nil)) Xx<|A ?_;refine A ?_
 exact F4⟩
def Iq(a:Bool):Option (Bool):=some a
def TE(a:zb):Option (Bool):=(Et a.Name).bind λb=>(cond ((!b)||(decide (6<(length a.Params:Int)))) (some true) ((Tb a.Params).bind λc=>some (!c))).bind λd=>(cond d (some true) ((Sq a.Ret).bind λe=>some (!e))).bind λf=>cond f (some false) (cond a.Abstract (some (HK a)) (cond ((a.Name==[36,105,110,105,116])&&(((!a.Static)||(decide (0<(length a.Params:Int))))||(!(a.Ret==[86])))) (some false) (cond (zB a.Locals (Zx a) 16) (cond (zB a.Stack 0 16) ((P2 a).bind λi=>cond i ((S8 a).bind λj=>cond j ((Tc a).bind λl=>Iq l) (Iq false)) (Iq false)) (Iq false)) (Iq false))))
instance :VF 157 [.agg (zd c)] (TE c) bA:=⟨λr h=>by
 refine zi func157 y kz y y<|A ?_;apply ze;obtain⟨x,B,C,D,E,F,h⟩:=LA h;refine A ?_;apply Xa h y<;>intro m h
 .refine A ?_;exact F4
 refine zc<|ze<|A ?_;apply Xa h y<;>intro j h
 .refine A ?_;exact F4
 refine zc<|ze<|A ?_;apply Xa h y<;>intro l h
 .refine A ?_;exact F4
 apply zc;refine zY (X:=Bool) (λz=>[(2,bA z)]) (λz=>[]) (λz=>Iq z=some r) ?_ ?_
 .rcases bb (zB c.Locals (Zx c) 16)with a|a
  .replace h:=bT a h
   rcases bb (zB c.Stack 0 16)with d|d
   .replace h:=bT d h;obtain⟨i,n,h⟩:=bs h
    rcases bb i with e|e
    .replace h:=bT e h;obtain⟨o,q,h⟩:=bs h
     rcases bb o with f|f
     .replace h:=bT f h;obtain⟨p,s,h⟩:=bs h;exact LU [] YW [(2,_),(69,_),(68,_),(67,_),(66,_),(65,_),(64,_),(63,_),(62,_),(61,_),(60,_),(59,_),(58,_),(57,_),(56,_),(55,_),(54,_),(53,_),(52,_),(51,_),(50,_),(49,_),(48,_)] 0 (Xg (z:=by exact⟨p,h,z6 []⟩))
     replace h:=bF f h;exact LU [] YW [(2,_),(69,_),(68,_),(67,_),(66,_),(65,_),(64,_),(63,_),(62,_),(61,_),(60,_),(59,_),(58,_),(57,_),(56,_),(55,_),(54,_),(53,_),(52,_),(51,_),(50,_),(49,_),(48,_)] 0 (Xg (z:=by exact⟨false,h,z6 []⟩))
    replace h:=bF e h;exact GH [] YX [(2,bA false),(69,bA false),(68,Vq),(67,Vq),(66,bA false),(65,bA false),(64,Vq),(63,Vq),(62,bA i),(61,bA i),(60,bA i),(59,.agg (zd c)),(58,bA (zB c.Stack 0 16)),(57,bA (zB c.Stack 0 16)),(56,bA (zB c.Stack 0 16)),(55,iA c.Stack),(54,.mpt 0 0 6),(53,bA (zB c.Locals (Zx c) 16)),(52,bA (zB c.Locals (Zx c) 16)),(51,iA (Zx c)),(50,.agg (zd c)),(49,iA c.Locals),(48,Vi)] 0 kz kz y kz (U5 ⟨pe,pe,pe,pe,pe,pe,pe,pe,pe,pe,(λ_=>Le (b:=(zB c.Stack 0 16)) y y y y d y (pc (iR c n) y y y<|w)),(λ_=>Le (b:=(zB c.Stack 0 16)) y y y y d y (ld ti y y<|w)),pe,pe,(λ_=>Le (b:=(zB c.Locals (Zx c) 16)) y y y y a y (pc (ID c.Stack 0 16 y) y y y<|w)),(λ_=>Le (b:=(zB c.Locals (Zx c) 16)) y y y y a y (ld ti y y<|w)),(λ_=>Le (b:=(zB c.Locals (Zx c) 16)) y y y y a y (fa ti y y y<|w)),pe,(pb y (pc (ID c.Locals (Zx c) 16 y) y y y w)),(pb y (pc (TT c y) y y y w)),(pb y (ld ti y y w)),(pb y (ld ti y y w)),(pb y (fa ti y y y w)),t⟩ ⟨false,h,zl []⟩)
   replace h:=bF d h;exact GH [] YX [(2,bA false),(69,bA false),(68,Vq),(67,Vq),(66,bA false),(65,bA false),(64,Vq),(63,Vq),(62,bA false),(61,bA false),(60,Vq),(59,Vq),(58,bA (zB c.Stack 0 16)),(57,bA (zB c.Stack 0 16)),(56,bA (zB c.Stack 0 16)),(55,iA c.Stack),(54,.mpt 0 0 6),(53,bA (zB c.Locals (Zx c) 16)),(52,bA (zB c.Locals (Zx c) 16)),(51,iA (Zx c)),(50,.agg (zd c)),(49,iA c.Locals),(48,Vi)] 0 kz kz y kz (U5 ⟨pe,pe,pe,pe,pe,pe,pe,pe,pe,pe,pe,pe,pe,pe,(λ_=>Le (b:=(zB c.Locals (Zx c) 16)) y y y y a y (pc (ID c.Stack 0 16 y) y y y<|w)),(λ_=>Le (b:=(zB c.Locals (Zx c) 16)) y y y y a y (ld ti y y<|w)),(λ_=>Le (b:=(zB c.Locals (Zx c) 16)) y y y y a y (fa ti y y y<|w)),pe,(pb y (pc (ID c.Locals (Zx c) 16 y) y y y w)),(pb y (pc (TT c y) y y y w)),(pb y (ld ti y y w)),(pb y (ld ti y y w)),(pb y (fa ti y y y w)),t⟩ ⟨false,h,zl []⟩)
  replace h:=bF a h;exact GH [] YX [(2,bA false),(69,bA false),(68,Vq),(67,Vq),(66,bA false),(65,bA false),(64,Vq),(63,Vq),(62,bA false),(61,bA false),(60,Vq),(59,Vq),(58,bA false),(57,bA false),(56,Vq),(55,Vq),(54,Vq),(53,bA (zB c.Locals (Zx c) 16)),(52,bA (zB c.Locals (Zx c) 16)),(51,iA (Zx c)),(50,.agg (zd c)),(49,iA c.Locals),(48,Vi)] 0 kz kz y kz (U5 ⟨pe,pe,pe,pe,pe,pe,pe,pe,pe,pe,pe,pe,pe,pe,pe,pe,pe,pe,(pb y (pc (ID c.Locals (Zx c) 16 y) y y y w)),(pb y (pc (TT c y) y y y w)),(pb y (ld ti y y w)),(pb y (ld ti y y w)),(pb y (fa ti y y y w)),t⟩ ⟨false,h,zl []⟩)
 rintro v h
 exact F4⟩
def Td(a:zb)(e:T0)(f:T0)(b:Bool)(i:T1)(j:Vv)(l:Vu):Option (Bool):=(cond (a.Abstract==b) ((TE a).bind λc=>some c) (some false)).bind λd=>some d
theorem ew(c:zb)(b:T0)(n:T0)(f:Bool)(d:T1)(s:Vv)(j:Vu)(h:Td c b n f d s j=some r):VD 156 [.agg (zd c),.ipt 6 [[sA b,sA n,bA f,tL d,.isl 3 (map zv s),.isl 10 (map zd j)]] 0 0] (bA r):=by refine zi func156 y kz y y<|A ?_;obtain⟨a,e,h⟩:=bs h;refine A ?_;exact F4
instance :VF 156 [.agg (zd c),.ipt 6 [[sA b,sA n,bA f,tL d,.isl 3 (map zv s),.isl 10 (map zd j)]] 0 0] (Td c b n f d s j) bA:=⟨λ_=>ew c b n f d s j⟩
def Pm(a:zb):T0:=a.Name
theorem ey(c:zb){r:T0}(h:Pm c=r):VD 155 [.agg (zd c)] (sA r):=by refine zi func155 y kz y y ?_;unfold Pm at h;refine A ?_;refine A ?_;apply zA;obtain rfl:=h;exact⟨_,y,Xb []⟩
instance :VF 155 [.agg (zd c)] (some (Pm c)) sA:=.of λ_=>ey c
def gx(c:zb)(d:T0)(e:T1)(f:T0)(i:Bool)(j:Bool)(l:Int)(m:Int)(n:Vw)(a:Vy)(b:Vx):Bool:=((Pm (zb.mk d e f i j l m n a b))==(Pm c))
instance :VF 240 [.agg (zd c),.ipt 1 [[.fn (.func 155) [] []]] 0 0,.ipt 10 [[sA b,tL d,sA n,bA f,bA C,iA i,iA E,.isl 4 (map zs o),.isl 3 (map zV q),.isl 4 (map XF p)]] 0 0] (some (gx c b d n f C i E o q p)) bA:=.of λr h=>by
 refine zi func240 y kz y y ?_;unfold gx at h;refine A ?_;refine Lc [(4,_)] [] [] YU [(4,_),(11,_),(10,_),(9,_),(8,_),(7,_),(6,_),(5,_)] 0 (Xg ⟨F1,F1,(by exact pb y (pc (ey (zb.mk b d n f C i E o q p) y) y y y<|w)),F1,F1,F1,F1,F1,t⟩ (z6 [])) ?_;apply zA;obtain rfl:=h;exact⟨_,y,Xb []⟩
def jT:Option (Int):=some (-1)
def Cg(b:Vu)(f:T0)(i:T1)(j:T0)(l:Bool)(m:Bool)(n:Int)(o:Int)(p:Vw)(c:Vy)(d:Vx)(a:Int):zL (Int) (Unit) (Int):=cond (decide (a<(length b:Int))) ((idx b a).bind λe=>cond (gx e f i j l m n o p c d) (some (.inr (.inr a))) (some (.inl (i64.wrap (a+1))))) (some (.inr (.inl ())))
def hY(d:Vu)(e:T0)(f:T1)(i:T0)(j:Bool)(l:Bool)(m:Int)(n:Int)(p:Vw)(a:Vy)(c:Vx):Option (Int):=(zk (λz=>Cg d e f i j l m n p a c z) 0).bind λo=>zE o (λb=>jT) some
instance (c:Vw):VF 225 [.isl 10 (map zd j),.fn (.func 240) [] [.ipt 1 [[.fn (.func 155) [] []]] 0 0,.ipt 10 [[sA a,tL d,sA n,bA f,bA C,iA i,iA E,.isl 4 (map zs c),.isl 3 (map zV q),.isl 4 (map XF p)]] 0 0]] (hY j a d n f C i E c q p) iA:=⟨λr h=>by
 refine zi func225 y kz y y<|A ?_;refine ze<|A ?_;obtain⟨o,ho,h⟩:=bs h;refine F7 ho (λz=>[(0,.isl 10 (map zd j)),(1,.fn (.func 240) [] [.ipt 1 [[.fn (.func 155) [] []]] 0 0,.ipt 10 [[sA a,tL d,sA n,bA f,bA C,iA i,iA E,.isl 4 (map zs c),.isl 3 (map zV q),.isl 4 (map XF p)]] 0 0]),(7,iA (length j:Int)),(8,iA z)]) (λz=>[]) (λb=>[]) (λb=>[]) (pG f225 iA) (z6 []) ?_ ?_
 .rintro m r h;refine A ?_;apply ze;apply Xa h y<;>intro e h
  .refine zc<|ze<|zg<|A ?_;obtain⟨s,v,h⟩:=bs h;refine A ?_;apply Xa h y<;>intro l h
   .refine A ?_;apply zA;cases h;exact⟨_,y,_,y,Xb []⟩
   refine zc<|A ?_;exact LB
  exact Ll
 rintro⟨⟩ rfl;refine zm<|A ?_
 exact F4⟩
def Rx(d:Vu)(e:T0)(f:T1)(i:T0)(j:Bool)(l:Bool)(m:Int)(n:Int)(o:Vw)(a:Vy)(b:Vx):Option (Bool):=(hY d e f i j l m n o a b).bind λc=>some (decide (0<=c))
theorem jN(j:Vu)(b:T0)(d:T1)(n:T0)(f:Bool)(C:Bool)(i:Int)(E:Int)(o:Vw)(q:Vy)(p:Vx)(h:Rx j b d n f C i E o q p=some r):VD 239 [.isl 10 (map zd j),.fn (.func 240) [] [.ipt 1 [[.fn (.func 155) [] []]] 0 0,.ipt 10 [[sA b,tL d,sA n,bA f,bA C,iA i,iA E,.isl 4 (map zs o),.isl 3 (map zV q),.isl 4 (map XF p)]] 0 0]] (bA r):=by refine zi func239 y kz y y<|A ?_;obtain⟨a,c,h⟩:=bs h;refine A ?_;exact F4
instance :VF 239 [.isl 10 (map zd j),.fn (.func 240) [] [.ipt 1 [[.fn (.func 155) [] []]] 0 0,.ipt 10 [[sA b,tL d,sA n,bA f,bA C,iA i,iA E,.isl 4 (map zs o),.isl 3 (map zV q),.isl 4 (map XF p)]] 0 0]] (Rx j b d n f C i E o q p) bA:=⟨λ_=>jN j b d n f C i E o q p⟩
def pX(a:Vu)(b:Int):Option (Bool):=some (decide ((length a:Int)<=b))
def gL(c:Vu)(j:T0)(l:T0)(m:Bool)(n:T1)(o:Vv)(p:Vu)(b:Int):zL (Int) (Unit) (Bool):=cond (decide (b<(length c:Int))) ((idx c b).bind λa=>(Td a j l m n o p).bind λd=>(cond (!d) (some true) ((XR c 0 b).bind λe=>(Rx e a.Name a.Params a.Ret a.Static a.Abstract a.Locals a.Stack a.Code a.Maps a.Traps).bind λf=>some f)).bind λi=>cond i (some (.inr (.inr false))) (some (.inl (i64.wrap (b+1))))) (some (.inr (.inl ())))
def P6(a:Vu)(c:Int)(d:T0)(e:T0)(f:Bool)(i:T1)(j:Vv)(l:Vu):Option (Bool):=(zk (λz=>gL a d e f i j l z) 0).bind λo=>zE o (λb=>pX a c) some
theorem iW(m:Vu)(i:Int)(p:T0)(n:T0)(f:Bool)(d:T1)(s:Vv)(I:Vu)(h:P6 m i p n f d s I=some r):VD 154 [.isl 10 (map zd m),iA i,.fn (.func 155) [] [],.fn (.func 156) [] [.ipt 6 [[sA p,sA n,bA f,tL d,.isl 3 (map zv s),.isl 10 (map zd I)]] 0 0]] (bA r):=by
 refine zi func154 y kz y y<|A ?_;refine ze<|A ?_;obtain⟨o,ho,h⟩:=bs h;refine F7 ho (λz=>[(0,.isl 10 (map zd m)),(1,iA i),(3,.fn (.func 156) [] [.ipt 6 [[sA p,sA n,bA f,tL d,.isl 3 (map zv s),.isl 10 (map zd I)]] 0 0]),(6,Vg),(11,.isl 10 (map zd m)),(12,iA (length m:Int)),(13,iA z)]) (λz=>[some (1,[[.fn (.func 155) [] []]])]) (λb=>[(0,.isl 10 (map zd m)),(1,iA i)]) (λb=>[]) (pG f154 bA) (z6 [0]) ?_ ?_
 .rintro B r h;refine A ?_;apply ze;apply Xa h y<;>intro C h
  .refine zc<|ze<|zg ?_;obtain⟨c,H,h⟩:=bs h;refine A ?_;obtain⟨J,D,E,l,h⟩:=F6 h;refine rg y<|u<|mv y<|u<|ld ti y y<|u<|pc (ew c p n f d s I D) y y y<|u<|nt y<|u<|mv y<|Uj (x:=E) (j:=4) 5 y y y y y Lr (λe=>by replace l:=bF e l;obtain⟨F,q,l⟩:=bs l;obtain⟨K,G,l⟩:=bs l;obtain rfl:=sm l;exact g y e<|mv y<|g y e<|mv y<|g y e<|Mi (a:=0) (b:=B) ti y ti y y y (H8 y q) q<|g y e<|mf y y<|g y e<|Lj (jN F c.Name c.Params c.Ret c.Static c.Abstract c.Locals c.Stack c.Code c.Maps c.Traps G) y y (.cons (si y) (.cons (ZB t ⟨(XC y ⟨(si y),t⟩),(XC y ⟨(si y),(si y),(si y),(si y),(si y),(si y),(si y),(si y),(si y),(si y),t⟩),t⟩) .nil)) Xx<|zx (eg [23,24,25,26,27] 5 y y y y)) (λhb=>(sm (bT hb l)).symm)<|zx ?_;apply Xa h y<;>intro v h
   .refine A ?_;apply zA;cases h;exact⟨_,y,_,y,Xb []⟩
   refine zc<|A ?_;exact LC
  exact Ll
 rintro⟨⟩ rfl;refine zm<|A ?_;exact F4
instance :VF 154 [.isl 10 (map zd j),iA i,.fn (.func 155) [] [],.fn (.func 156) [] [.ipt 6 [[sA b,sA n,bA f,tL d,.isl 3 (map zv s),.isl 10 (map zd I)]] 0 0]] (P6 j i b n f d s I) bA:=⟨λ_=>iW j i b n f d s I⟩
def S7(a:T0):T0:=a
instance :VF 160 [sA b] (some (S7 b)) sA:=.of λr h=>by
 refine zi func160 y kz y y ?_;unfold S7 at h;refine A ?_;refine A ?_;apply zA;obtain rfl:=h;exact⟨_,y,Xb []⟩
def gf(a:T0)(b:T0):Bool:=((S7 b)==(S7 a))
instance :VF 250 [sA b,.ipt 1 [[.fn (.func 160) [] []]] 0 0,.ipt 1 [[sA n]] 0 0] (some (gf b n)) bA:=.of λr h=>by
 refine zi func250 y kz y y ?_;unfold gf at h;refine A ?_;refine Lc [(4,_)] [] [] YU [(4,_),(11,_),(10,_),(9,_),(8,_),(7,_),(6,_),(5,_)] 0 (Xg (z:=z6 [])) ?_;apply zA;obtain rfl:=h;exact⟨_,y,Xb []⟩
def jq:Option (Int):=some (-1)
def Cq(b:T1)(c:T0)(a:Int):zL (Int) (Unit) (Int):=cond (decide (a<(length b:Int))) ((idx b a).bind λd=>cond (gf d c) (some (.inr (.inr a))) (some (.inl (i64.wrap (a+1))))) (some (.inr (.inl ())))
def gX(a:T1)(c:T0):Option (Int):=(zk (λz=>Cq a c z) 0).bind λo=>zE o (λb=>jq) some
instance :VF 181 [tL d,.fn (.func 250) [] [.ipt 1 [[.fn (.func 160) [] []]] 0 0,.ipt 1 [[sA a]] 0 0]] (gX d a) iA:=⟨λr h=>by
 refine zi func181 y kz y y<|A ?_;refine ze<|A ?_;obtain⟨o,ho,h⟩:=bs h;refine F7 ho (λz=>[(0,tL d),(1,.fn (.func 250) [] [.ipt 1 [[.fn (.func 160) [] []]] 0 0,.ipt 1 [[sA a]] 0 0]),(7,iA (length d:Int)),(8,iA z)]) (λz=>[]) (λb=>[]) (λb=>[]) (pG f181 iA) (z6 []) ?_ ?_
 .rintro f r h;refine A ?_;apply ze;apply Xa h y<;>intro c h
  .refine zc<|ze<|zg<|A ?_;obtain⟨i,j,h⟩:=bs h;refine A ?_;apply Xa h y<;>intro e h
   .refine A ?_;apply zA;cases h;exact⟨_,y,_,y,Xb []⟩
   refine zc<|A ?_;exact LB
  exact Ll
 rintro⟨⟩ rfl;refine zm<|A ?_
 exact F4⟩
def Rv(a:T1)(b:T0):Option (Bool):=(gX a b).bind λc=>some (decide (0<=c))
theorem jF(d:T1)(b:T0)(h:Rv d b=some r):VD 99 [tL d,.fn (.func 250) [] [.ipt 1 [[.fn (.func 160) [] []]] 0 0,.ipt 1 [[sA b]] 0 0]] (bA r):=by refine zi func99 y kz y y<|A ?_;obtain⟨a,c,h⟩:=bs h;refine A ?_;exact F4
instance :VF 99 [tL d,.fn (.func 250) [] [.ipt 1 [[.fn (.func 160) [] []]] 0 0,.ipt 1 [[sA b]] 0 0]] (Rv d b) bA:=⟨λ_=>jF d b⟩
def nQ(a:T1)(b:Int):Option (Bool):=some (decide ((length a:Int)<=b))
def gm(c:T1)(a:Int):zL (Int) (Unit) (Bool):=cond (decide (a<(length c:Int))) ((idx c a).bind λb=>(Do b).bind λd=>(cond (!d) (some true) ((XR c 0 a).bind λe=>(Rv e b).bind λf=>some f)).bind λi=>cond i (some (.inr (.inr false))) (some (.inl (i64.wrap (a+1))))) (some (.inr (.inl ())))
def Ao(a:T1)(c:Int):Option (Bool):=(zk (λz=>gm a z) 0).bind λo=>zE o (λb=>nQ a c) some
instance :VF 159 [tL d,iA i,.fn (.func 160) [] [],.fn (.func 158) [] []] (Ao d i) bA:=⟨λr h=>by
 refine zi func159 y kz y y<|A ?_;refine ze<|A ?_;obtain⟨o,ho,h⟩:=bs h;refine F7 ho (λz=>[(0,tL d),(1,iA i),(3,.fn (.func 158) [] []),(6,Vg),(11,tL d),(12,iA (length d:Int)),(13,iA z)]) (λz=>[some (1,[[.fn (.func 160) [] []]])]) (λb=>[(0,tL d),(1,iA i)]) (λb=>[]) (pG f159 bA) (z6 [0]) ?_ ?_
 .rintro v r h;refine A ?_;apply ze;apply Xa h y<;>intro m h
  .refine zc<|ze<|zg ?_;obtain⟨n,B,h⟩:=bs h;refine A ?_;obtain⟨C,D,p,e,h⟩:=F6 h;refine A ?_;refine Uj (x:=p) (j:=4) 5 y y y y y Lr (λc=>by replace e:=bF c e;obtain⟨q,f,e⟩:=bs e;obtain⟨E,s,e⟩:=bs e;obtain rfl:=sm e;exact g y c<|mv y<|g y c<|mv y<|g y c<|Mi (a:=0) (b:=v) ti y ti y y y (H8 y f) f<|g y c<|mf y y<|g y c<|Lj (jF q n s) y y (.cons (si y) (.cons (ZB t ⟨(XC y ⟨(si y),t⟩),(XC y ⟨(si y),t⟩),t⟩) .nil)) Xx<|zx (eg [23,24,25,26,27] 5 y y y y)) (λhb=>(sm (bT hb e)).symm)<|zx ?_;apply Xa h y<;>intro l h
   .refine A ?_;apply zA;cases h;exact⟨_,y,_,y,Xb []⟩
   refine zc<|A ?_;exact LC
  exact Ll
 rintro⟨⟩ rfl;refine zm<|A ?_
 exact F4⟩
def SH(a:za):Option (Bool):=cond (a.Interface&&((!(a.Super==[79,98,106,101,99,116]))||(decide (0<(length a.Fields:Int))))) (some false) ((AJ a.Fields 8).bind λb=>(P6 a.Methods 8 a.Name a.Super a.Interface a.Impl a.Fields a.Methods).bind λc=>(Do a.Name).bind λd=>(cond d ((Do a.Super).bind λe=>some e) (some false)).bind λf=>(cond f ((Ao a.Impl 4).bind λi=>some i) (some false)).bind λj=>some ((j&&b)&&c))
instance :VF 72 [.agg (zf x)] (SH x) bA:=⟨λr h=>by
 refine zi func72 y kz y y<|A ?_;refine ze<|A ?_;apply Xa h y<;>intro a h
 .refine A ?_;exact F4
 apply zc;obtain⟨d,e,h⟩:=bs h;refine A ?_;obtain⟨f,b,h⟩:=bs h;refine A ?_;refine u<|Lj (iW x.Methods 8 x.Name x.Super x.Interface x.Impl x.Fields x.Methods b) y y (.cons (si y) (.cons (si y) (.cons (si y) (.cons (ZB t ⟨(XC y ⟨(si y),(si y),(si y),(si y),(si y),(si y),t⟩),t⟩) .nil)))) Xx<|A ?_;obtain⟨i,j,l,m,n,c,h⟩:=LA h;refine A ?_
 exact F4⟩
def kO(a:zb)(b:T0):Bool:=(a.Name==b)
instance :VF 226 [.agg (zd c),.ipt 1 [[sA b]] 0 0] (some (kO c b)) bA:=.of λr h=>by
 refine zi func226 y kz y y ?_;unfold kO at h;refine A ?_;refine A ?_;apply zA;obtain rfl:=h;exact⟨_,y,Xb []⟩
def jM:Option (Int):=some (-1)
def CA(b:Vu)(c:T0)(a:Int):zL (Int) (Unit) (Int):=cond (decide (a<(length b:Int))) ((idx b a).bind λd=>cond (kO d c) (some (.inr (.inr a))) (some (.inl (i64.wrap (a+1))))) (some (.inr (.inl ())))
def Cf(a:Vu)(c:T0):Option (Int):=(zk (λz=>CA a c z) 0).bind λo=>zE o (λb=>jM) some
theorem jL(j:Vu)(a:T0){r:Int}(h:Cf j a=some r):VD 225 [.isl 10 (map zd j),.fn (.func 226) [] [.ipt 1 [[sA a]] 0 0]] (iA r):=by
 refine zi func225 y kz y y<|A ?_;refine ze<|A ?_;obtain⟨o,ho,h⟩:=bs h;refine F7 ho (λz=>[(0,.isl 10 (map zd j)),(1,.fn (.func 226) [] [.ipt 1 [[sA a]] 0 0]),(7,iA (length j:Int)),(8,iA z)]) (λz=>[]) (λb=>[]) (λb=>[]) (pG f225 iA) (z6 []) ?_ ?_
 .rintro e r h;refine A ?_;apply ze;apply Xa h y<;>intro c h
  .refine zc<|ze<|zg<|A ?_;obtain⟨f,i,h⟩:=bs h;refine A ?_;apply Xa h y<;>intro d h
   .refine A ?_;apply zA;cases h;exact⟨_,y,_,y,Xb []⟩
   refine zc<|A ?_;exact LB
  exact Ll
 rintro⟨⟩ rfl;refine zm<|A ?_;exact F4
instance :VF 225 [.isl 10 (map zd j),.fn (.func 226) [] [.ipt 1 [[sA b]] 0 0]] (Cf j b) iA:=⟨λ_=>jL j b⟩
def HM(a:za)(b:T0):Option (Int):=(Cf a.Methods b).bind λc=>some c
theorem Ir(x:za)(b:T0){r:Int}(h:HM x b=some r):VD 141 [.agg (zf x),sA b] (iA r):=by refine zi func141 y kz y y<|A ?_;obtain⟨c,a,h⟩:=bs h;refine A ?_;refine u<|Lj (jL x.Methods b a) y y (.cons (si y) (.cons (ZB t ⟨(XC y ⟨(si y),t⟩),t⟩) .nil)) Xx<|A ?_;exact F4
instance :VF 141 [.agg (zf x),sA b] (HM x b) iA:=⟨λ_=>Ir x b⟩
def kv(a:zh)(b:T0):Bool:=(a.Name==b)
instance (J:zh):VF 316 [.agg (zv J),.ipt 1 [[sA b]] 0 0] (some (kv J b)) bA:=.of λr h=>by
 refine zi func316 y kz y y ?_;unfold kv at h;refine A ?_;refine A ?_;apply zA;obtain rfl:=h;exact⟨_,y,Xb []⟩
def jR:Option (Int):=some (-1)
def CC(b:Vv)(c:T0)(a:Int):zL (Int) (Unit) (Int):=cond (decide (a<(length b:Int))) ((idx b a).bind λd=>cond (kv d c) (some (.inr (.inr a))) (some (.inl (i64.wrap (a+1))))) (some (.inr (.inl ())))
def Cb(a:Vv)(c:T0):Option (Int):=(zk (λz=>CC a c z) 0).bind λo=>zE o (λb=>jR) some
theorem jQ(s:Vv)(a:T0){r:Int}(h:Cb s a=some r):VD 315 [.isl 3 (map zv s),.fn (.func 316) [] [.ipt 1 [[sA a]] 0 0]] (iA r):=by
 refine zi func315 y kz y y<|A ?_;refine ze<|A ?_;obtain⟨o,ho,h⟩:=bs h;refine F7 ho (λz=>[(0,.isl 3 (map zv s)),(1,.fn (.func 316) [] [.ipt 1 [[sA a]] 0 0]),(7,iA (length s:Int)),(8,iA z)]) (λz=>[]) (λb=>[]) (λb=>[]) (pG f315 iA) (z6 []) ?_ ?_
 .rintro e r h;refine A ?_;apply ze;apply Xa h y<;>intro c h
  .refine zc<|ze<|zg<|A ?_;obtain⟨f,i,h⟩:=bs h;refine A ?_;apply Xa h y<;>intro d h
   .refine A ?_;apply zA;cases h;exact⟨_,y,_,y,Xb []⟩
   refine zc<|A ?_;exact LB
  exact Ll
 rintro⟨⟩ rfl;refine zm<|A ?_;exact F4
instance :VF 315 [.isl 3 (map zv s),.fn (.func 316) [] [.ipt 1 [[sA b]] 0 0]] (Cb s b) iA:=⟨λ_=>jQ s b⟩
def Pp(a:za)(b:T0):Option (Int):=(Cb a.Fields b).bind λc=>some c
theorem eB(x:za)(b:T0){r:Int}(h:Pp x b=some r):VD 223 [.agg (zf x),sA b] (iA r):=by refine zi func223 y kz y y<|A ?_;obtain⟨c,a,h⟩:=bs h;refine A ?_;refine u<|Lj (jQ x.Fields b a) y y (.cons (si y) (.cons (ZB t ⟨(XC y ⟨(si y),t⟩),t⟩) .nil)) Xx<|A ?_;exact F4
instance :VF 223 [.agg (zf x),sA b] (Pp x b) iA:=⟨λ_=>eB x b⟩
def o8:Option (Int):=some (-1)
def TW(b:za)(c:T0)(a:Int):zL (Int) (Unit) (Int):=cond (decide (a<(length b.Fields:Int))) ((idx b.Fields a).bind λd=>cond (d.Name==c) (some (.inr (.inr a))) (some (.inl (i64.wrap (a+1))))) (some (.inr (.inl ())))
def Ph(a:za)(c:T0):Option (Int):=(zk (λz=>TW a c z) 0).bind λo=>zE o (λb=>o8) some
instance :VF 188 [.agg (zf x),sA a] (Ph x a) iA:=⟨λr h=>by
 refine zi func188 y kz y y<|A ?_;refine ze<|A ?_;obtain⟨o,ho,h⟩:=bs h;refine F7 ho (λz=>[(1,sA a),(2,Vg),(5,iA z)]) (λz=>[some (6,[(zf x)])]) (λb=>[]) (λb=>[]) (pG f188 iA) (z6 [0]) ?_ ?_
 .rintro e r h;refine ze<|A ?_;apply Xa h y<;>intro c h
  .refine zc<|ze<|zg ?_;obtain⟨f,i,h⟩:=bs h;refine A ?_;apply Xa h y<;>intro d h
   .refine A ?_;apply zA;cases h;exact⟨_,y,_,y,Xb []⟩
   refine zc<|A ?_;exact LC
  exact Ll
 rintro⟨⟩ rfl;refine zm<|A ?_
 exact F4⟩
def ec:Option (Int):=some (-1)
def TJ(b:za)(c:T0)(a:Int):zL (Int) (Unit) (Int):=cond (decide (a<(length b.Methods:Int))) ((idx b.Methods a).bind λd=>cond (d.Name==c) (some (.inr (.inr a))) (some (.inl (i64.wrap (a+1))))) (some (.inr (.inl ())))
def Gk(a:za)(c:T0):Option (Int):=(zk (λz=>TJ a c z) 0).bind λo=>zE o (λb=>ec) some
theorem o9(x:za)(a:T0){r:Int}(h:Gk x a=some r):VD 143 [.agg (zf x),sA a] (iA r):=by
 refine zi func143 y kz y y<|A ?_;refine ze<|A ?_;obtain⟨o,ho,h⟩:=bs h;refine F7 ho (λz=>[(1,sA a),(2,Vg),(5,iA z)]) (λz=>[some (6,[(zf x)])]) (λb=>[]) (λb=>[]) (pG f143 iA) (z6 [0]) ?_ ?_
 .rintro e r h;refine ze<|A ?_;apply Xa h y<;>intro c h
  .refine zc<|ze<|zg ?_;obtain⟨f,i,h⟩:=bs h;refine A ?_;apply Xa h y<;>intro d h
   .refine A ?_;apply zA;cases h;exact⟨_,y,_,y,Xb []⟩
   refine zc<|A ?_;exact LC
  exact Ll
 rintro⟨⟩ rfl;refine zm<|A ?_;exact F4
instance :VF 143 [.agg (zf x),sA b] (Gk x b) iA:=⟨λ_=>o9 x b⟩
def Sz(a:T0):Option (Bool):=(cond (a==[86]) (some true) ((Gz a).bind λb=>some b)).bind λc=>some c
instance :VF 268 [sA b] (Sz b) bA:=⟨λr h=>by
 refine zi func268 y kz y y<|A ?_;obtain⟨a,c,h⟩:=bs h;refine A ?_
 exact F4⟩
def fV:Option (Bool):=some true
def EJ(c:zb)(b:Int):zL (Int) (Unit) (Bool):=cond (decide (b<(length c.Traps:Int))) ((idx c.Traps b).bind λa=>(cond (((((decide (a.From<0))||(decide (a.To<=a.From)))||(decide ((length c.Code:Int)<a.To)))||(decide (a.At<0)))||(decide ((length c.Code:Int)<=a.At))) (some true) ((cond (!(a.C==[])) ((Dl a.C).bind λd=>some (!d)) (some false)).bind λe=>some e)).bind λf=>cond f (some (.inr (.inr false))) (some (.inl (i64.wrap (b+1))))) (some (.inr (.inl ())))
def Tr(a:zb):Option (Bool):=(zk (λz=>EJ a z) 0).bind λo=>zE o (λb=>fV) some
def EL(a:zb)(b:Int):zL (Int) (Unit) (Bool):=cond (decide (b<(length a.Code:Int))) ((idx a.Code b).bind λc=>(Pk c).bind λd=>cond ((!d)||((Wd c.Op)&&(decide ((length a.Code:Int)<=c.A)))) (some (.inr (.inr false))) (some (.inl (i64.wrap (b+1))))) (some (.inr (.inl ())))
def ST(a:zb):Option (Bool):=(cond ((decide ((length a.Code:Int)<1))||(decide (100<(length a.Code:Int)))) (some true) ((idx a.Code (i64.wrap ((length a.Code:Int)-1))).bind λc=>some (!(Di c.Op)))).bind λd=>cond (d||(decide (6<(length a.Traps:Int)))) (some false) ((zk (λz=>EL a z) 0).bind λo=>zE o (λb=>Tr a) some)
instance :VF 269 [.agg (zd c)] (ST c) bA:=⟨λr h=>by
 refine zi func269 y kz y y<|A ?_;refine A ?_;apply ze;obtain⟨D,E,h⟩:=bs h;refine A ?_;apply Xa h y<;>intro m h
 .refine A ?_;exact F4
 refine zc<|ze<|A ?_;obtain⟨o,ho,h⟩:=bs h;refine F7 ho (λz=>[(1,Vg),(3,iA (length c.Code:Int)),(4,iA z)]) (λz=>[some (10,[(zd c)])]) (λb=>[(1,Vg),(3,iA (length c.Code:Int))]) (λb=>[some (10,[(zd c)])]) (pG f269 bA) (z6 [0]) ?_ ?_
 .rintro F r h;refine ze<|A ?_;apply Xa h y<;>intro e h
  .refine zc<|ze<|zg ?_;obtain⟨n,q,h⟩:=bs h;refine A ?_;obtain⟨G,p,h⟩:=bs h;refine rg y<|u<|ld ti y y<|u<|pc (ed n p) y y y<|u<|nt y<|u<|mv y<|Uj (j:=3) 9 y y y y y Lr (λa=>g y a<|fa ti y y y<|g y a<|ld ti y y<|g y a<|pc (o7 n.Op y) y y y<|g y a<|mv y<|XV (j:=7) 4 y y y y y (MA y y a) (λd=>g y d<|fa ti y y y<|g y d<|ld ti y y<|g y d<|mv y<|g y d<|geq ti y y<|zx (LY [52,53,54,55] 4 d y y y y)) Uu<|zx (MC [48,49,50,51,52,53,54,55,56] 5 a y y y y)) Mq<|zx ?_;apply Xa h y<;>intro f h
   .refine A ?_;apply zA;cases h;exact⟨_,y,_,y,Xb []⟩
   refine zc<|A ?_;exact LC
  exact Lv
 rintro⟨⟩ rfl;refine zm<|ze<|A ?_;obtain⟨o,ho,h⟩:=bs h;refine F7 ho (λz=>[(1,Vg),(3,iA (length c.Code:Int)),(6,iA z)]) (λz=>[some (10,[(zd c)])]) (λb=>[]) (λb=>[]) (pG f269 bA) (z6 [0]) ?_ ?_
 .rintro s r h;refine ze<|A ?_;apply Xa h y<;>intro i h
  .refine zc<|ze<|zg ?_;obtain⟨v,x,h⟩:=bs h;refine A ?_;obtain⟨B,C,h⟩:=bs h;refine A ?_;apply Xa h y<;>intro l h
   .refine A ?_;apply zA;cases h;exact⟨_,y,_,y,Xb []⟩
   refine zc<|A ?_;exact LC
  exact Ll
 rintro⟨⟩ rfl;refine zm<|A ?_
 exact F4⟩
def lD:Option (Bool):=some true
def lE(a:Int):zL (Int) (Unit) (Bool):=some (.inl (i64.wrap (a+1)))
def BJ(b:zZ)(a:Int):zL (Int) (Unit) (Bool):=cond (decide (a<(length b.Stack:Int))) ((idx b.Stack a).bind λc=>(cond (!(c==[78])) ((Gz c).bind λd=>some (!d)) (some false)).bind λe=>cond e (some (.inr (.inr false))) (some (.inl (i64.wrap (a+1))))) (some (.inr (.inl ())))
def kg(a:Int)(c:zZ):zL (Int) (Unit) (Bool):=(zk (λz=>BJ c z) 0).bind λo=>zE o (λb=>lE a) (λr=>some (.inr (.inr r)))
def BK(c:zZ)(a:Int):zL (Int) (Unit) (Bool):=cond (decide (a<(length c.Locals:Int))) ((idx c.Locals a).bind λb=>(cond ((!(b==[84]))&&(!(b==[78]))) ((Gz b).bind λd=>some (!d)) (some false)).bind λe=>cond e (some (.inr (.inr false))) (some (.inl (i64.wrap (a+1))))) (some (.inr (.inl ())))
def GI(c:Int)(a:zZ)(d:Bool):zL (Int) (Unit) (Bool):=cond d (some (.inr (.inr false))) ((zk (λz=>BK a z) 0).bind λo=>zE o (λb=>kg c a) (λr=>some (.inr (.inr r))))
def EY(c:zb)(b:Int):zL (Int) (Unit) (Bool):=cond (decide (b<(length c.Maps:Int))) ((idx c.Maps b).bind λa=>cond (decide (a.At<0)) (GI b a true) (cond (decide ((length c.Code:Int)<=a.At)) (GI b a true) (cond (decide (0<b)) ((idx c.Maps (i64.wrap (b-1))).bind λd=>cond (decide (a.At<=d.At)) (GI b a true) (cond (!((length a.Locals:Int)==c.Locals)) (GI b a true) (GI b a (decide (c.Stack<(length a.Stack:Int)))))) (cond (!((length a.Locals:Int)==c.Locals)) (GI b a true) (GI b a (decide (c.Stack<(length a.Stack:Int)))))))) (some (.inr (.inl ())))
def SS(a:zb):Option (Bool):=cond (decide (100<(length a.Maps:Int))) (some false) ((zk (λz=>EY a z) 0).bind λo=>zE o (λb=>lD) some)
instance :VF 270 [.agg (zd c)] (SS c) bA:=⟨λr h=>by
 refine zi func270 y kz y y<|A ?_;refine ze<|A ?_;apply Xa h y<;>intro B h
 .refine A ?_;exact F4
 refine zc<|ze<|A ?_;obtain⟨o,ho,h⟩:=bs h;refine F7 ho (λz=>[(1,Vg),(3,iA z)]) (λz=>[some (10,[(zd c)])]) (λb=>[]) (λb=>[]) (pG f270 bA) (z6 [0]) ?_ ?_
 .rintro e r h;refine ze<|A ?_;apply Xa h y<;>intro n h
  .refine zc<|ze<|zg ?_;obtain⟨a,D,h⟩:=bs h;refine A ?_;apply ze;refine zY (X:=Bool) (λz=>[(1,Vg),(3,iA e),(4,Vh),(67,bA z)]) (λz=>[some (10,[(zd c)]),some (3,[(zV a)])]) (λz=>GI e a z=some r) ?_ ?_
   .rcases bb (decide (a.At<0))with d|d
    .replace h:=bT d h;exact LU [] YY [(67,_),(66,_),(65,_),(64,_),(63,_),(62,_),(61,_),(60,_),(59,_),(58,_),(57,_),(56,_),(55,_),(54,_),(53,_),(52,_),(51,_),(50,_),(49,_),(48,_),(47,_),(46,_),(45,_),(44,_),(43,_),(42,_),(41,_),(40,_),(39,_),(38,_),(37,_),(36,_),(35,_),(34,_),(33,_),(32,_),(31,_),(30,_),(29,_),(28,_),(27,_),(26,_),(25,_)] 0 (Xg (z:=by exact⟨true,h,z6 [0,1]⟩))
    replace h:=bF d h
    rcases bb (decide ((length c.Code:Int)<=a.At))with i|i
    .replace h:=bT i h;exact LU [] YY [(67,_),(66,_),(65,_),(64,_),(63,_),(62,_),(61,_),(60,_),(59,_),(58,_),(57,_),(56,_),(55,_),(54,_),(53,_),(52,_),(51,_),(50,_),(49,_),(48,_),(47,_),(46,_),(45,_),(44,_),(43,_),(42,_),(41,_),(40,_),(39,_),(38,_),(37,_),(36,_),(35,_),(34,_),(33,_),(32,_),(31,_),(30,_),(29,_),(28,_),(27,_),(26,_),(25,_)] 0 (Xg (z:=by exact⟨true,h,z6 [0,1]⟩))
    replace h:=bF i h
    rcases bb (decide (0<e))with j|j
    .replace h:=bT j h;obtain⟨C,E,h⟩:=bs h
     rcases bb (decide (a.At<=C.At))with l|l
     .replace h:=bT l h;exact LU [] YY [(67,_),(66,_),(65,_),(64,_),(63,_),(62,_),(61,_),(60,_),(59,_),(58,_),(57,_),(56,_),(55,_),(54,_),(53,_),(52,_),(51,_),(50,_),(49,_),(48,_),(47,_),(46,_),(45,_),(44,_),(43,_),(42,_),(41,_),(40,_),(39,_),(38,_),(37,_),(36,_),(35,_),(34,_),(33,_),(32,_),(31,_),(30,_),(29,_),(28,_),(27,_),(26,_),(25,_)] 0 (Xg (z:=by exact⟨true,h,z6 [0,1]⟩))
     replace h:=bF l h
     rcases bb (!((length a.Locals:Int)==c.Locals))with m|m
     .replace h:=bT m h;exact LU [] YY [(67,_),(66,_),(65,_),(64,_),(63,_),(62,_),(61,_),(60,_),(59,_),(58,_),(57,_),(56,_),(55,_),(54,_),(53,_),(52,_),(51,_),(50,_),(49,_),(48,_),(47,_),(46,_),(45,_),(44,_),(43,_),(42,_),(41,_),(40,_),(39,_),(38,_),(37,_),(36,_),(35,_),(34,_),(33,_),(32,_),(31,_),(30,_),(29,_),(28,_),(27,_),(26,_),(25,_)] 0 (Xg (z:=by exact⟨true,h,z6 [0,1]⟩))
     replace h:=bF m h;exact LU [] YY [(67,_),(66,_),(65,_),(64,_),(63,_),(62,_),(61,_),(60,_),(59,_),(58,_),(57,_),(56,_),(55,_),(54,_),(53,_),(52,_),(51,_),(50,_),(49,_),(48,_),(47,_),(46,_),(45,_),(44,_),(43,_),(42,_),(41,_),(40,_),(39,_),(38,_),(37,_),(36,_),(35,_),(34,_),(33,_),(32,_),(31,_),(30,_),(29,_),(28,_),(27,_),(26,_),(25,_)] 0 (Xg (z:=by exact⟨(decide (c.Stack<(length a.Stack:Int))),h,z6 [0,1]⟩))
    replace h:=bF j h
    rcases bb (!((length a.Locals:Int)==c.Locals))with f|f
    .replace h:=bT f h;exact GH [] YZ [(67,bA true),(66,Vq),(65,Vq),(64,Vq),(63,Vq),(62,Vq),(61,Vq),(60,bA (!((length a.Locals:Int)==c.Locals))),(59,bA (!((length a.Locals:Int)==c.Locals))),(58,bA (!((length a.Locals:Int)==c.Locals))),(57,iA c.Locals),(56,Vi),(55,iA (length a.Locals:Int)),(54,tL a.Locals),(53,.mpt 1 0 1),(52,bA false),(51,bA false),(50,bA false),(49,Vq),(48,Vq),(47,Vq),(46,Vq),(45,Vq),(44,Vq),(43,Vq),(42,Vq),(41,Vq),(40,Vq),(39,bA (decide (0<e))),(38,bA (decide (0<e))),(37,iA e),(36,bA (decide ((length c.Code:Int)<=a.At))),(35,bA (decide ((length c.Code:Int)<=a.At))),(34,bA (decide ((length c.Code:Int)<=a.At))),(33,iA (length c.Code:Int)),(32,.isl 4 (map zs c.Code)),(31,.mpt 0 0 7),(30,iA a.At),(29,Vh),(28,bA (decide (a.At<0))),(27,bA (decide (a.At<0))),(26,iA a.At),(25,Vh)] 0 kz kz y kz (U5 ⟨pe,pe,pe,pe,pe,pe,pe,pe,pe,(λ_=>Le (b:=false) y y y y y y (neq ti y y<|w)),(λ_=>Le (b:=false) y y y y y y (ld ti y y<|w)),(λ_=>Le (b:=false) y y y y y y (fa ti y y y<|w)),(λ_=>Le (b:=false) y y y y y y (Mu ti y y<|w)),(λ_=>Le (b:=false) y y y y y y (ld ti y y<|w)),(λ_=>Le (b:=false) y y y y y y (fa ti y y y<|w)),pe,pe,pe,pe,pe,pe,pe,pe,pe,pe,pe,pe,pe,pe,(λ_=>Le (b:=(decide ((length c.Code:Int)<=a.At))) y y y y i y (gtr ti y y<|w)),pe,pe,pe,(λ_=>Le (b:=(decide (a.At<0))) y y y y d y (geq ti y y<|w)),(λ_=>Le (b:=(decide (a.At<0))) y y y y d y (Mu ti y y<|w)),(λ_=>Le (b:=(decide (a.At<0))) y y y y d y (ld ti y y<|w)),(λ_=>Le (b:=(decide (a.At<0))) y y y y d y (fa ti y y y<|w)),(λ_=>Le (b:=(decide (a.At<0))) y y y y d y (ld ti y y<|w)),(λ_=>Le (b:=(decide (a.At<0))) y y y y d y (fa ti y y y<|w)),pe,(pb y (lss ti y y w)),(pb y (ld ti y y w)),(pb y (fa ti y y y w)),t⟩ ⟨true,h,zl [0,1]⟩)
    replace h:=bF f h;exact GH [] YZ [(67,bA (decide (c.Stack<(length a.Stack:Int)))),(66,bA (decide (c.Stack<(length a.Stack:Int)))),(65,iA c.Stack),(64,.mpt 0 0 6),(63,iA (length a.Stack:Int)),(62,tL a.Stack),(61,.mpt 1 0 2),(60,bA (!((length a.Locals:Int)==c.Locals))),(59,bA (!((length a.Locals:Int)==c.Locals))),(58,bA (!((length a.Locals:Int)==c.Locals))),(57,iA c.Locals),(56,Vi),(55,iA (length a.Locals:Int)),(54,tL a.Locals),(53,.mpt 1 0 1),(52,bA false),(51,bA false),(50,bA false),(49,Vq),(48,Vq),(47,Vq),(46,Vq),(45,Vq),(44,Vq),(43,Vq),(42,Vq),(41,Vq),(40,Vq),(39,bA (decide (0<e))),(38,bA (decide (0<e))),(37,iA e),(36,bA (decide ((length c.Code:Int)<=a.At))),(35,bA (decide ((length c.Code:Int)<=a.At))),(34,bA (decide ((length c.Code:Int)<=a.At))),(33,iA (length c.Code:Int)),(32,.isl 4 (map zs c.Code)),(31,.mpt 0 0 7),(30,iA a.At),(29,Vh),(28,bA (decide (a.At<0))),(27,bA (decide (a.At<0))),(26,iA a.At),(25,Vh)] 0 kz kz y kz (U5 ⟨pe,(λ_=>Le (b:=(!((length a.Locals:Int)==c.Locals))) y y y y f y (gtr ti y y<|w)),(λ_=>Le (b:=(!((length a.Locals:Int)==c.Locals))) y y y y f y (ld ti y y<|w)),(λ_=>Le (b:=(!((length a.Locals:Int)==c.Locals))) y y y y f y (fa ti y y y<|w)),(λ_=>Le (b:=(!((length a.Locals:Int)==c.Locals))) y y y y f y (Mu ti y y<|w)),(λ_=>Le (b:=(!((length a.Locals:Int)==c.Locals))) y y y y f y (ld ti y y<|w)),(λ_=>Le (b:=(!((length a.Locals:Int)==c.Locals))) y y y y f y (fa ti y y y<|w)),pe,pe,(λ_=>Le (b:=false) y y y y y y (neq ti y y<|w)),(λ_=>Le (b:=false) y y y y y y (ld ti y y<|w)),(λ_=>Le (b:=false) y y y y y y (fa ti y y y<|w)),(λ_=>Le (b:=false) y y y y y y (Mu ti y y<|w)),(λ_=>Le (b:=false) y y y y y y (ld ti y y<|w)),(λ_=>Le (b:=false) y y y y y y (fa ti y y y<|w)),pe,pe,pe,pe,pe,pe,pe,pe,pe,pe,pe,pe,pe,pe,(λ_=>Le (b:=(decide ((length c.Code:Int)<=a.At))) y y y y i y (gtr ti y y<|w)),pe,pe,pe,(λ_=>Le (b:=(decide (a.At<0))) y y y y d y (geq ti y y<|w)),(λ_=>Le (b:=(decide (a.At<0))) y y y y d y (Mu ti y y<|w)),(λ_=>Le (b:=(decide (a.At<0))) y y y y d y (ld ti y y<|w)),(λ_=>Le (b:=(decide (a.At<0))) y y y y d y (fa ti y y y<|w)),(λ_=>Le (b:=(decide (a.At<0))) y y y y d y (ld ti y y<|w)),(λ_=>Le (b:=(decide (a.At<0))) y y y y d y (fa ti y y y<|w)),pe,(pb y (lss ti y y w)),(pb y (ld ti y y w)),(pb y (fa ti y y y w)),t⟩ ⟨(decide (c.Stack<(length a.Stack:Int))),h,zl [0,1]⟩)
   rintro F h;apply Xa h y<;>intro p h;.refine A ?_;apply zA;cases h;exact⟨_,y,_,y,Xb []⟩
   refine zc<|ze<|A ?_;obtain⟨o,ho,h⟩:=bs h;refine LG ho (λz=>[(1,Vg),(3,iA e),(4,Vh),(5,iA z)]) (λz=>[some (10,[(zd c)]),some (3,[(zV a)])]) (λb=>[(1,Vg),(3,iA e),(4,Vh)]) (λb=>[some (10,[(zd c)]),some (3,[(zV a)])]) (pG f270 bA) (z6 [0,1]) ?_ ?_ ?_
   .rintro G r h;refine ze<|A ?_;apply Xa h y<;>intro q h
    .refine zc<|ze<|zg ?_;obtain⟨H,I,h⟩:=bs h;refine A ?_;obtain⟨J,K,h⟩:=bs h;refine A ?_;apply Xa h y<;>intro s h
     .refine A ?_;apply zA;cases h;exact⟨_,y,_,y,Xb []⟩
     refine zc<|A ?_;exact LH
    exact LW
   .rintro⟨⟩ rfl;refine zm<|A ?_;obtain⟨o,ho,h⟩:=bs h;refine LG ho (λz=>[(1,Vg),(3,iA e),(4,Vh),(7,iA z)]) (λz=>[some (10,[(zd c)]),some (3,[(zV a)])]) (λb=>[(1,Vg),(3,iA e)]) (λb=>[some (10,[(zd c)])]) (pG f270 bA) (z6 [0,1]) ?_ ?_ ?_
    .rintro L r h;refine ze<|A ?_;apply Xa h y<;>intro v h
     .refine zc<|ze<|zg ?_;obtain⟨M,N,h⟩:=bs h;refine A ?_;obtain⟨O,P,h⟩:=bs h;refine A ?_;apply Xa h y<;>intro x h
      .refine A ?_;apply zA;cases h;exact⟨_,y,_,y,Xb []⟩
      refine zc<|A ?_;exact LH
     exact Lv
    .rintro⟨⟩ rfl;refine zm<|A ?_;exact LC
    rintro r' rfl env st hp;cases h;exact⟨_,y,hp⟩
   rintro r' rfl env st hp;cases h;exact⟨_,y,hp⟩
  exact Ll
 rintro⟨⟩ rfl;refine zm<|A ?_
 exact F4⟩
def PO(a:zb)(b:Int):Option (Bool):=cond ((((decide (a.Locals<b))||(decide (16<a.Locals)))||(decide (a.Stack<0)))||(decide (16<a.Stack))) (some false) ((ST a).bind λc=>(cond c ((SS a).bind λd=>some d) (some false)).bind λe=>some e)
def gg(a:zb):Option (Bool):=cond a.Abstract (some (((((((!a.Static)&&(!(a.Name==[36,105,110,105,116])))&&(a.Locals==0))&&(a.Stack==0))&&((length a.Code:Int)==0))&&((length a.Maps:Int)==0))&&((length a.Traps:Int)==0))) (cond ((a.Name==[36,105,110,105,116])&&(((!a.Static)||(decide (0<(length a.Params:Int))))||(!(a.Ret==[86])))) (some false) (cond (!a.Static) (PO a (i64.wrap ((length a.Params:Int)+1))) (PO a (length a.Params:Int))))
def IO(b:zb)(a:Int):zL (Int) (Unit) (Bool):=cond (decide (a<(length b.Params:Int))) ((idx b.Params a).bind λd=>(Gz d).bind λc=>cond (!c) (some (.inr (.inr false))) (some (.inl (i64.wrap (a+1))))) (some (.inr (.inl ())))
def PB(a:zb):Option (Bool):=(EA a.Name).bind λc=>(cond ((!c)||(decide (6<(length a.Params:Int)))) (some true) ((Sz a.Ret).bind λd=>some (!d))).bind λe=>cond e (some false) ((zk (λz=>IO a z) 0).bind λo=>zE o (λb=>gg a) some)
theorem ir(c:zb)(h:PB c=some r):VD 189 [.agg (zd c)] (bA r):=by
 refine zi func189 y kz y y<|A ?_;apply ze;obtain⟨C,D,E,F,h⟩:=F6 h;refine A ?_;apply Xa h y<;>intro l h
 .refine A ?_;exact F4
 refine zc<|ze<|A ?_;obtain⟨o,ho,h⟩:=bs h;refine F7 ho (λz=>[(1,Vg),(3,iA z)]) (λz=>[some (10,[(zd c)])]) (λb=>[(1,Vg)]) (λb=>[some (10,[(zd c)])]) (pG f189 bA) (z6 [0]) ?_ ?_
 .rintro G r h;refine ze<|A ?_;apply Xa h y<;>intro a h
  .refine zc<|ze<|zg ?_;obtain⟨H,m,n,p,h⟩:=F6 h;refine A ?_;apply Xa h y<;>intro d h
   .refine A ?_;apply zA;cases h;exact⟨_,y,_,y,Xb []⟩
   refine zc<|A ?_;exact LC
  exact Lv
 rintro⟨⟩ rfl;refine zm<|ze<|A ?_;apply Xa h y<;>intro e h
 .refine A ?_;exact F4
 refine zc<|ze<|A ?_;apply Xa h y<;>intro f h
 .refine A ?_;exact F4
 refine zc<|A ?_;refine zY (X:=Int) (λz=>[(1,Vg),(4,iA z)]) (λz=>[some (10,[(zd c)])]) (λz=>PO c z=some r) ?_ ?_
 .refine A ?_;apply Xa h y<;>intro i h;.refine A ?_;exact(⟨(i64.wrap ((length c.Params:Int)+1)),h,zl [0]⟩)
  apply zc;exact⟨(length c.Params:Int),h,zl [0]⟩
 rintro q h;refine ze<|A ?_;apply Xa h y<;>intro j h
 .refine A ?_;exact F4
 apply zc;obtain⟨s,v,x,B,h⟩:=F6 h;refine A ?_;exact F4
instance :VF 189 [.agg (zd c)] (PB c) bA:=⟨λ_=>ir c⟩
def nf:Option (Bool):=some true
def It(c:za)(a:Int):zL (Int) (Unit) (Bool):=cond (decide (a<(length c.Methods:Int))) ((idx c.Methods a).bind λb=>(cond (!(b.Abstract==c.Interface)) (some true) ((Gk c b.Name).bind λd=>some (!(d==a)))).bind λe=>(cond e (some true) ((PB b).bind λf=>some (!f))).bind λi=>cond i (some (.inr (.inr false))) (some (.inl (i64.wrap (a+1))))) (some (.inr (.inl ())))
def eP(a:za):Option (Bool):=(zk (λz=>It a z) 0).bind λo=>zE o (λb=>nf) some
def Iu(c:za)(a:Int):zL (Int) (Unit) (Bool):=cond (decide (a<(length c.Fields:Int))) ((idx c.Fields a).bind λb=>(EA b.Name).bind λd=>(cond ((!d)||(b.Name==[36,105,110,105,116])) (some true) ((Gz b.Type_).bind λe=>some (!e))).bind λf=>(cond f (some true) ((Ph c b.Name).bind λi=>some (!(i==a)))).bind λj=>cond j (some (.inr (.inr false))) (some (.inl (i64.wrap (a+1))))) (some (.inr (.inl ())))
def eQ(a:za):Option (Bool):=(zk (λz=>Iu a z) 0).bind λo=>zE o (λb=>eP a) some
def mU(a:Int):zL (Int) (Unit) (Bool):=some (.inl (i64.wrap (a+1)))
def Iw(c:za)(b:Int)(a:Int):zL (Int) (Unit) (Bool):=cond (decide (a<b)) ((idx c.Impl a).bind λd=>(idx c.Impl b).bind λe=>cond (d==e) (some (.inr (.inr false))) (some (.inl (i64.wrap (a+1))))) (some (.inr (.inl ())))
def Iv(c:za)(a:Int):zL (Int) (Unit) (Bool):=cond (decide (a<(length c.Impl:Int))) ((idx c.Impl a).bind λd=>(Dl d).bind λe=>cond (!e) (some (.inr (.inr false))) ((zk (λz=>Iw c a z) 0).bind λo=>zE o (λb=>mU a) (λr=>some (.inr (.inr r))))) (some (.inr (.inl ())))
def TV(a:za):Option (Bool):=(Dl a.Name).bind λc=>(cond (!c) (some true) ((Dl a.Super).bind λd=>some (!d))).bind λe=>cond (((e||(decide (4<(length a.Impl:Int))))||(decide (8<(length a.Fields:Int))))||(decide (8<(length a.Methods:Int)))) (some false) (cond (a.Interface&&((!(a.Super==[79,98,106,101,99,116]))||(decide (0<(length a.Fields:Int))))) (some false) ((zk (λz=>Iv a z) 0).bind λo=>zE o (λb=>eQ a) some))
variable {a:Vr}{e:T2}
instance (c:za):VF 111 [.agg (zf c)] (TV c) bA:=⟨λr h=>by
 refine zi func111 y kz y y<|A ?_;apply ze;obtain⟨v2,q1,v4,q4,h⟩:=F6 h;refine A ?_;apply Xa h y<;>intro E h
 .refine A ?_;exact F4
 refine zc<|ze<|A ?_;apply Xa h y<;>intro m h
 .refine A ?_;exact F4
 refine zc<|ze<|A ?_;obtain⟨o,ho,h⟩:=bs h;refine F7 ho (λz=>[(1,Vg),(3,iA z)]) (λz=>[some (6,[(zf c)])]) (λb=>[(1,Vg)]) (λb=>[some (6,[(zf c)])]) (pG f111 bA) (z6 [0]) ?_ ?_
 .rintro i r h;refine ze<|A ?_;apply Xa h y<;>intro n h
  .refine zc<|ze<|zg<|ze ?_;obtain⟨J,K,L,M,h⟩:=F6 h;refine A ?_;apply Xa h y<;>intro p h
   .refine A ?_;apply zA;cases h;exact⟨_,y,_,y,Xb []⟩
   refine zc<|A ?_;obtain⟨o,ho,h⟩:=bs h;refine LG ho (λz=>[(1,Vg),(3,iA i),(4,iA z)]) (λz=>[some (6,[(zf c)])]) (λb=>[(1,Vg),(3,iA i)]) (λb=>[some (6,[(zf c)])]) (pG f111 bA) (z6 [0]) ?_ ?_ ?_
   .rintro N r h;refine ze<|A ?_;apply Xa h y<;>intro q h
    .refine zc<|ze<|zg ?_;obtain⟨O,P,Q,R,h⟩:=F6 h;refine Lc [(1,_),(3,_),(4,_),(79,_)] [some (6,[(zf c)])] [] Y0 [(79,_),(78,_),(77,_),(76,_),(75,_),(74,_),(73,_),(72,_),(71,_),(70,_),(69,_)] 0 (Xg (z:=z6 [0])) ?_;apply Xa h y<;>intro s h
     .refine A ?_;apply zA;cases h;exact⟨_,y,_,y,Xb []⟩
     refine zc<|A ?_;exact LC
    exact Lv
   .rintro⟨⟩ rfl;refine zm<|A ?_;exact LC
   rintro r' rfl env st hp;cases h;exact⟨_,y,hp⟩
  exact Lv
 rintro⟨⟩ rfl;refine zm<|ze<|A ?_;obtain⟨o,ho,h⟩:=bs h;refine F7 ho (λz=>[(1,Vg),(5,iA z)]) (λz=>[some (6,[(zf c)])]) (λb=>[(1,Vg)]) (λb=>[some (6,[(zf c)])]) (pG f111 bA) (z6 [0]) ?_ ?_
 .rintro S r h;refine ze<|A ?_;apply Xa h y<;>intro v h
  .refine zc<|ze<|zg ?_;obtain⟨T,U,h⟩:=bs h;refine A ?_;obtain⟨V,W,X,Y,Z,q56,h⟩:=LA h;refine A ?_;apply Xa h y<;>intro B h
   .refine A ?_;apply zA;cases h;exact⟨_,y,_,y,Xb []⟩
   refine zc<|A ?_;exact LC
  exact Lv
 rintro⟨⟩ rfl;refine zm<|ze<|A ?_;obtain⟨o,ho,h⟩:=bs h;refine F7 ho (λz=>[(1,Vg),(7,iA z)]) (λz=>[some (6,[(zf c)])]) (λb=>[]) (λb=>[]) (pG f111 bA) (z6 [0]) ?_ ?_
 .rintro v43 r h;refine ze<|A ?_;apply Xa h y<;>intro C h
  .refine zc<|ze<|zg ?_;obtain⟨l,q68,h⟩:=bs h;refine A ?_;obtain⟨F,d,G,e,h⟩:=F6 h;refine rg y<|u<|fa ti y y y<|u<|ld ti y y<|u<|fa ti y y y<|u<|ld ti y y<|u<|bne ti y y y<|u<|mv y<|Uj (x:=F) (j:=5) 6 y y y y y Lr (λa=>by replace d:=bF a d;obtain⟨v45,H,d⟩:=bs d;obtain rfl:=sm d;exact g y a<|ld ti y y<|g y a<|fa ti y y y<|g y a<|ld ti y y<|g y a<|pc (o9 c l.Name H) y y y<|g y a<|mv y<|g y a<|neq ti y y<|zx (eg [133,134,135,136,137,138] 6 y y y y)) (λhb=>(sm (bT hb d)).symm)<|u<|mv y<|Uj (x:=G) (j:=13) 3 y y y y y Lr (λf=>by replace e:=bF f e;obtain⟨v47,I,e⟩:=bs e;obtain rfl:=sm e;exact g y f<|ld ti y y<|g y f<|pc (ir l I) y y y<|g y f<|nt y<|zx (eg [141,142,143] 3 y y y y)) (λhb=>(sm (bT hb e)).symm)<|zx ?_;apply Xa h y<;>intro D h
   .refine A ?_;apply zA;cases h;exact⟨_,y,_,y,Xb []⟩
   refine zc<|A ?_;exact LC
  exact Ll
 rintro⟨⟩ rfl;refine zm<|A ?_
 exact F4⟩
def mJ:Option (Bool):=some true
def T9(b:T1)(c:T1)(a:Int):zL (Int) (Unit) (Bool):=cond (decide (a<(length b:Int))) ((idx b a).bind λd=>(idx c a).bind λe=>cond (!(d==e)) (some (.inr (.inr false))) (some (.inl (i64.wrap (a+1))))) (some (.inr (.inl ())))
def BG(a:T1)(c:T1):Option (Bool):=cond (!((length a:Int)==(length c:Int))) (some false) ((zk (λz=>T9 a c z) 0).bind λo=>zE o (λb=>mJ) some)
theorem kP(d:T1)(l:T1)(h:BG d l=some r):VD 48 [tL d,tL l] (bA r):=by
 refine zi func48 y kz y y<|A ?_;refine ze<|A ?_;apply Xa h y<;>intro a h
 .refine A ?_;exact F4
 refine zc<|ze<|A ?_;obtain⟨o,ho,h⟩:=bs h;refine F7 ho (λz=>[(0,tL d),(1,tL l),(5,iA z)]) (λz=>[]) (λb=>[]) (λb=>[]) (pG f48 bA) (z6 []) ?_ ?_
 .rintro f r h;refine ze<|A ?_;apply Xa h y<;>intro c h
  .refine zc<|ze<|zg ?_;obtain⟨i,j,m,n,h⟩:=F6 h;refine Lc [(0,_),(1,_),(5,_),(25,_)] [] [] Y1 [(25,_),(24,_),(23,_),(22,_),(21,_),(20,_),(19,_),(18,_),(17,_)] 0 (Xg (z:=z6 [])) ?_;apply Xa h y<;>intro e h
   .refine A ?_;apply zA;cases h;exact⟨_,y,_,y,Xb []⟩
   refine zc<|A ?_;exact LB
  exact Ll
 rintro⟨⟩ rfl;refine zm<|A ?_;exact F4
instance (l:T1):VF 48 [tL d,tL l] (BG d l) bA:=⟨λ_=>kP d l⟩
structure zu where
  l:Vr
  at_:T2
def XX(x:zu):Vt:=[cL x.l,mI x.at_]
def ZN(a:T0)(b:Int):Option (T0):=cond (decide (b<(length a:Int))) ((XR a 0 b).bind λc=>some c) (some a)
instance (c:T0):VF 38 [sA c,iA i] (ZN c i) sA:=⟨λr h=>by
 refine zi func38 y kz y y<|A ?_;refine ze<|A ?_;apply Xa h y<;>intro d h
 .obtain⟨f,e,h⟩:=bs h;refine A ?_;refine u<|Mm (a:=0) (b:=i) ti y y y (H8 y e) e<|A ?_;exact F4
 refine zc<|A ?_
 exact F4⟩
def lU(a:T1):Option (T1):=some a
def E1(b:T1)(i:Int)(c:T1)(a:Int):zL (T1×Int) (T1) (T1):=cond ((decide (a<(length b:Int)))&&(decide (a<i))) ((idx b a).bind λd=>(ZN d 12).bind λe=>(Xu 16 c [e]).bind λf=>some (.inl (f,(i64.wrap (a+1))))) (some (.inr (.inl c)))
def GF(a:T1)(c:Int):Option (T1):=(zk (λz=>E1 a c z.1 z.2) ([],0)).bind λo=>zE o (λb=>lU b) some
theorem E0(d:T1)(i:Int){r:T1}(h:GF d i=some r):VD 70 [tL d,iA i] (tL r):=by
 refine zi func70 y kz y y<|A ?_;refine A ?_;refine ze<|A ?_;obtain⟨o,ho,h⟩:=bs h;refine F7 ho (λz=>[(0,tL d),(1,iA i),(5,.msl 0 0 (length z.1)),(6,iA z.2)]) (λz=>[sT z.1]) (λb=>[(5,.msl 0 0 (length b))]) (λb=>[sT b]) (pG f70 (λr=>tL r)) ⟨[.fresh 1],ce y y<|ce y y<|cv y (.nilown y)<|ce y y<|cn,y,⟨w,t⟩,y,k⟩ ?_ ?_
 .rintro⟨n,p⟩ r h;refine ze<|A ?_;apply Xa h y<;>intro a h
  .refine zc<|ze<|zg ?_;obtain⟨j,q,c,s,l,e,h⟩:=LA h;refine A ?_;refine u<|Lo 2 ti y ti y y YB ti y y y y (Lx (f:=Xe) (z:=[c]) y y) (λ_=>y) y e<|A ?_;refine A ?_;cases h;exact⟨_,y,zl [2]⟩
  exact Lv
 rintro m rfl;refine zm<|A ?_;exact F4
instance :VF 70 [tL d,iA i] (GF d i) (λr=>(tL r)):=⟨λ_=>E0 d i⟩
def Sp(a:zp):Option (zp):=(ZN a.C 14).bind λb=>(ZN a.M 12).bind λc=>some (zp.mk a.Op a.A b c)
instance (B:zp):VF 148 [.agg (zs B)] (Sp B) (λr=>(.agg (zs r))):=⟨λr h=>by
 refine zi func148 y kz y y<|A ?_;obtain⟨a,c,b,d,h⟩:=F6 h;refine Lc [(1,_),(2,_)] [some (4,[[iA B.Op,iA B.A,sA a,sA b]]),some (4,[[iA 0,iA 0,sA [],sA []]])] [7,9] Y2 [(9,_),(8,_),(7,_),(6,_),(5,_),(4,_),(3,_)] 2 (Xd (z:=by exact⟨(λ_ _=>⟨_,y,y,La ti y y y<|⟨.any,[8],[(10,_)],y,y,y,t,Xd (z:=by exact⟨nv,(λ_ _=>⟨_,y,y,La ti y y y<|⟨.any,[],[],y,y,y,t,Xg (z:=z6 [0,1])⟩⟩),t⟩)⟩⟩),nw,t⟩)) ?_;refine A ?_
 exact F4⟩
def mj(a:zb)(e:T0)(f:T1)(i:T0)(b:Vw)(c:Vy)(d:Vx):Option (zb):=some (zb.mk e f i a.Static a.Abstract a.Locals a.Stack b c d)
def Ia(d:zb)(c:Vx)(a:Int):zL ((Vx)×Int) ((Vx)) (zb):=cond ((decide (a<(length d.Traps:Int)))&&(decide (a<8))) ((idx d.Traps a).bind λb=>(ZN b.C 10).bind λe=>(Xu 40 c [(zU.mk b.From b.To b.At e)]).bind λf=>some (.inl (f,(i64.wrap (a+1))))) (some (.inr (.inl c)))
def kK(a:zb)(e:T0)(f:T1)(i:T0)(c:Vw)(d:Vy):Option (zb):=(zk (λz=>Ia a z.1 z.2) ([],0)).bind λo=>zE o (λb=>mj a e f i c d b) some
def Ib(b:zb)(c:Vy)(a:Int):zL ((Vy)×Int) ((Vy)) (zb):=cond ((decide (a<(length b.Maps:Int)))&&(decide (a<104))) ((idx b.Maps a).bind λd=>(idx b.Maps a).bind λe=>(GF e.Locals 20).bind λf=>(idx b.Maps a).bind λi=>(GF i.Stack 20).bind λj=>(Xu 56 c [(zZ.mk d.At f j)]).bind λl=>some (.inl (l,(i64.wrap (a+1))))) (some (.inr (.inl c)))
def kL(a:zb)(d:T0)(e:T1)(f:T0)(c:Vw):Option (zb):=(zk (λz=>Ib a z.1 z.2) ([],0)).bind λo=>zE o (λb=>kK a d e f c b) some
def Ic(c:zb)(b:Vw)(a:Int):zL ((Vw)×Int) ((Vw)) (zb):=cond ((decide (a<(length c.Code:Int)))&&(decide (a<104))) ((idx c.Code a).bind λd=>(Sp d).bind λe=>(Xu 48 b [e]).bind λf=>some (.inl (f,(i64.wrap (a+1))))) (some (.inr (.inl b)))
def Tj(a:zb):Option (zb):=(ZN a.Name 10).bind λc=>(GF a.Params 8).bind λd=>(ZN a.Ret 12).bind λe=>(zk (λz=>Ic a z.1 z.2) ([],0)).bind λo=>zE o (λb=>kL a c d e b) some
instance :VF 71 [.agg (zd c)] (Tj c) (λr=>(.agg (zd r))):=⟨λr h=>by
 refine zi func71 y kz y y<|A ?_;obtain⟨e,q1,i,q2,j,q3,h⟩:=LA h;refine Lc [(1,_),(2,_),(3,_)] [some (10,[(zd c)]),Zf,some (10,[[sA e,tL i,sA j,bA c.Static,bA c.Abstract,iA c.Locals,iA c.Stack,nS,nS,nS]])] [18,19] Y3 [(25,_),(24,_),(23,_),(22,_),(21,_),(20,_),(19,_),(18,_),(17,_),(16,_),(15,_),(14,_),(13,_),(12,_),(11,_),(10,_),(9,_),(8,_)] 2 (Xd ⟨F1,F1,F1,F1,F1,F1,F1,F1,F1,F1,F1,F1,F1,F1,F1,F1,F1,(by exact pb y (bd (parts:=[(0,sA e),(1,tL i),(2,sA j),(3,bA c.Static),(4,bA c.Abstract),(5,iA c.Locals),(6,iA c.Stack)]) (cs:=[sA e,tL i,sA j,bA c.Static,bA c.Abstract,iA c.Locals,iA c.Stack,nS,nS,nS]) ti y y kz<|w)),t⟩ (by exact⟨(λ_ _=>⟨_,y,y,al 2 ti y<|⟨(Vj),[],[(3,_)],y,y,y,y,Xd ⟨F1,F1,F1,F1,F1,F1,F1,F1,F1,F1,F1,F1,F1,F1,F1,F1,F1,(by exact pb y (bd (parts:=[(0,sA e),(1,tL i),(2,sA j),(3,bA c.Static),(4,bA c.Abstract),(5,iA c.Locals),(6,iA c.Stack)]) (cs:=[sA e,tL i,sA j,bA c.Static,bA c.Abstract,iA c.Locals,iA c.Stack,nS,nS,nS]) ti y y kz<|w)),t⟩ (by exact⟨nv,(λ_ _=>⟨_,y,y,La ti y y y<|⟨.any,[],[],y,y,y,t,Xg (z:=z6 [0,1,2])⟩⟩),t⟩)⟩⟩),nw,t⟩)) ?_;refine ze<|A ?_;obtain⟨o,ho,h⟩:=bs h;refine F7 ho (λz=>[(1,Vg),(2,Vh),(3,Vj),(4,iA z.2)]) (λz=>[some (10,[(zd c)]),Zf,some (10,[[sA e,tL i,sA j,bA c.Static,bA c.Abstract,iA c.Locals,iA c.Stack,.msl 3 0 (length z.1),nS,nS]]),some (4,map zs z.1)]) (λb=>[(1,Vg),(2,Vh),(3,Vj)]) (λb=>[some (10,[(zd c)]),Zf,some (10,[[sA e,tL i,sA j,bA c.Static,bA c.Abstract,iA c.Locals,iA c.Stack,.msl 3 0 (length b),nS,nS]]),some (4,map zs b)]) (pG f71 (λr=>.agg (zd r))) ⟨[0,1,2,.fresh 4],cv y (.mpt y)<|cv y (.mpt y)<|cv y (.mpt y)<|ce y y<|cn,y,⟨⟨_,y,XN (LO y)⟩,⟨_,y,XN (LO y)⟩,⟨_,y,XN ⟨ci y,ci y,ci y,ci y,ci y,ci y,ci y,.nilown y,ci y,ci y,t⟩⟩,w,t⟩,y,k⟩ ?_ ?_
 .rintro⟨Q,R⟩ r h;refine ze<|A ?_;apply Xa h y<;>intro H h
  .refine zc<|ze<|zg ?_;obtain⟨S,T,K,U,v,L,h⟩:=LA h;refine XA [(1,_),(2,_),(3,_),(4,_)] [some (10,[(zd c)]),Zf,some (10,[[sA e,tL i,sA j,bA c.Static,bA c.Abstract,iA c.Locals,iA c.Stack,.msl 3 0 (length v),nS,nS]]),some (4,map zs v)] [8,9,11] YU [(44,_),(43,_),(42,_),(41,_),(40,_),(39,_),(38,_),(37,_)] 3 (Xd (z:=by exact⟨(λ_ _=>⟨_,y,y,bl 4 ti y ti y YB YB y y y<|⟨(.msl 4 0 1),[],[(45,_)],y,y,y,y,Xd (z:=by exact⟨nv,(λ_ _=>⟨_,y,y,Lo 5 ti y ti y y YB ti y y y y (Lx (f:=zs) (z:=[K]) y y) (λ_=>y) y L<|⟨(.msl 5 0 (length v)),[10],[(47,_),(46,_)],y,y,y,y,Xd (z:=by exact⟨nv,nv,(λ_ _=>⟨_,y,y,La ti y y y<|⟨.any,[],[],y,y,y,t,Xg (z:=z6 [0,1,2,5])⟩⟩),t⟩)⟩⟩),nw,t⟩)⟩⟩),nw,nw,t⟩)) ?_;refine A ?_;cases h;exact⟨_,y,zl [0,1,2,3]⟩
  exact Mg
 rintro a rfl;refine zm<|ze<|A ?_;obtain⟨o,ho,h⟩:=bs h;refine F7 ho (λz=>[(1,Vg),(2,Vh),(3,Vj),(5,iA z.2)]) (λz=>[some (10,[(zd c)]),Zf,some (10,[[sA e,tL i,sA j,bA c.Static,bA c.Abstract,iA c.Locals,iA c.Stack,.msl 3 0 (length a),.msl 4 0 (length z.1),nS]]),some (4,map zs a),some (3,map zV z.1)]) (λb=>[(1,Vg),(2,Vh),(3,Vj)]) (λb=>[some (10,[(zd c)]),Zf,some (10,[[sA e,tL i,sA j,bA c.Static,bA c.Abstract,iA c.Locals,iA c.Stack,.msl 3 0 (length a),.msl 4 0 (length b),nS]]),some (4,map zs a),some (3,map zV b)]) (pG f71 (λr=>.agg (zd r))) ⟨[0,1,2,3,.fresh 3],cv y (.mpt y)<|cv y (.mpt y)<|cv y (.mpt y)<|ce y y<|cn,y,⟨⟨_,y,XN (LO y)⟩,⟨_,y,XN (LO y)⟩,⟨_,y,XN ⟨ci y,ci y,ci y,ci y,ci y,ci y,ci y,.msl y,.nilown y,ci y,t⟩⟩,⟨_,y,XL (λ_=>y)⟩,w,t⟩,y,k⟩ ?_ ?_
 .rintro⟨M,d⟩ r h;refine ze<|A ?_;apply Xa h y<;>intro I h
  .refine zc<|ze<|zg ?_;obtain⟨x,l,p,m,B,C,D,n,h⟩:=Me h;obtain⟨E,G,q,N,h⟩:=F6 h;refine XA [(1,Vg),(2,Vh),(3,Vj),(5,iA d)] [some (10,[(zd c)]),Zf,some (10,[[sA e,tL i,sA j,bA c.Static,bA c.Abstract,iA c.Locals,iA c.Stack,.msl 3 0 (length a),.msl 4 0 (length q),nS]]),some (4,map zs a),some (3,map zV q)] [23,24,26] YX [(81,.agg [iA x.At,tL B,tL E]),(80,tL E),(79,tL D.Stack),(78,.ipt 3 (map zV c.Maps) (Int.toNat d) 2),(77,.ipt 3 (map zV c.Maps) (Int.toNat d) 0),(76,iA d),(75,.isl 3 (map zV c.Maps)),(74,.mpt 0 0 8),(73,tL B),(72,tL p.Locals),(71,.ipt 3 (map zV c.Maps) (Int.toNat d) 1),(70,.ipt 3 (map zV c.Maps) (Int.toNat d) 0),(69,iA d),(68,.isl 3 (map zV c.Maps)),(67,.mpt 0 0 8),(66,iA x.At),(65,.ipt 3 (map zV c.Maps) (Int.toNat d) 0),(64,.ipt 3 (map zV c.Maps) (Int.toNat d) 0),(63,iA d),(62,.isl 3 (map zV c.Maps)),(61,.mpt 0 0 8),(60,.msl 4 0 (length M)),(59,.mpt 2 0 8)] 3 (Z1 ⟨(pb y (bd ti y y y w)),(pb y (pc (E0 D.Stack 20 G) y y y w)),(pb y (Lt ti y (zT n).2.2 y w)),(pb y (fa ti y y y w)),(pb y (Lp ti y ti y y y n w)),pe,(pb y (ld ti y y w)),(pb y (fa ti y y y w)),(pb y (pc (E0 p.Locals 20 C) y y y w)),(pb y (Lt ti y (zT m).2.2 y w)),(pb y (fa ti y y y w)),(pb y (Lp ti y ti y y y m w)),pe,(pb y (ld ti y y w)),(pb y (fa ti y y y w)),(pb y (Lt ti y (zT l).2.2 y w)),(pb y (fa ti y y y w)),(pb y (Lp ti y ti y y y l w)),pe,(pb y (ld ti y y w)),(pb y (fa ti y y y w)),(pb y (ld ti y y w)),(pb y (fa ti y y y w)),t⟩ ⟨(λ_ _=>⟨_,y,y,bl 5 ti y ti y YB YB y y y<|⟨(.msl 5 0 1),[],[(82,.msl 5 0 1)],y,y,kz,y,Z1 ⟨pe,(pb y (pc (E0 D.Stack 20 G) y y y w)),(pb y (Lt ti y (zT n).2.2 y w)),(pb y (fa ti y y y w)),(pb y (Lp ti y ti y y y n w)),pe,(pb y (ld ti y y w)),(pb y (fa ti y y y w)),(pb y (pc (E0 p.Locals 20 C) y y y w)),(pb y (Lt ti y (zT m).2.2 y w)),(pb y (fa ti y y y w)),(pb y (Lp ti y ti y y y m w)),pe,(pb y (ld ti y y w)),(pb y (fa ti y y y w)),(pb y (Lt ti y (zT l).2.2 y w)),(pb y (fa ti y y y w)),(pb y (Lp ti y ti y y y l w)),pe,(pb y (ld ti y y w)),(pb y (fa ti y y y w)),(pb y (ld ti y y w)),(pb y (fa ti y y y w)),t⟩ ⟨nv,(λ_ _=>⟨_,y,y,Lo 6 ti y ti y y YB ti y y y y (Lx (f:=zV) (z:=[(zZ.mk x.At B E)]) y y) (λ_=>y) y N<|⟨(.msl 6 0 (length q)),[25],[(84,.mpt 2 0 8),(83,.msl 6 0 (length q))],y,y,kz,y,Z1 ⟨(pb y (fa ti y y y w)),pe,pe,(pb y (Lt ti y (zT n).2.2 y w)),(pb y (fa ti y y y w)),(pb y (Lp ti y ti y y y n w)),pe,(pb y (ld ti y y w)),(pb y (fa ti y y y w)),(pb y (pc (E0 p.Locals 20 C) y y y w)),(pb y (Lt ti y (zT m).2.2 y w)),(pb y (fa ti y y y w)),(pb y (Lp ti y ti y y y m w)),pe,(pb y (ld ti y y w)),(pb y (fa ti y y y w)),(pb y (Lt ti y (zT l).2.2 y w)),(pb y (fa ti y y y w)),(pb y (Lp ti y ti y y y l w)),pe,(pb y (ld ti y y w)),(pb y (fa ti y y y w)),pe,(pb y (fa ti y y y w)),t⟩ ⟨nv,nv,(λ_ _=>⟨_,y,y,La ti y y y<|⟨.any,[],[],y,y,kz,t,M5 (zl [0,1,2,3,6])⟩⟩),t⟩⟩⟩),nw,t⟩⟩⟩),nw,nw,t⟩) ?_;refine A ?_;cases h;exact⟨_,y,zl [0,1,2,3,4]⟩
  apply zr;cases h;exact⟨y,_,y,zl [0,1,2,3,4]⟩
 rintro s rfl;refine zm<|ze<|A ?_;obtain⟨o,ho,h⟩:=bs h;refine F7 ho (λz=>[(1,Vg),(2,Vh),(3,Vj),(6,iA z.2)]) (λz=>[some (10,[(zd c)]),Zf,some (10,[[sA e,tL i,sA j,bA c.Static,bA c.Abstract,iA c.Locals,iA c.Stack,.msl 3 0 (length a),.msl 4 0 (length s),.msl 5 0 (length z.1)]]),some (4,map zs a),some (3,map zV s),some (4,map XF z.1)]) (λb=>[(2,Vg),(3,Vh)]) (λb=>[Zf,some (10,[[sA e,tL i,sA j,bA c.Static,bA c.Abstract,iA c.Locals,iA c.Stack,.msl 2 0 (length a),.msl 3 0 (length s),.msl 4 0 (length b)]]),some (4,map zs a),some (3,map zV s),some (4,map XF b)]) (pG f71 (λr=>.agg (zd r))) ⟨[0,1,2,3,4,.fresh 4],cv y (.mpt y)<|cv y (.mpt y)<|cv y (.mpt y)<|ce y y<|cn,y,⟨⟨_,y,XN (LO y)⟩,⟨_,y,XN (LO y)⟩,⟨_,y,XN ⟨ci y,ci y,ci y,ci y,ci y,ci y,ci y,.msl y,.msl y,.nilown y,t⟩⟩,⟨_,y,XL (λ_=>y)⟩,⟨_,y,XL (λ_=>y)⟩,w,t⟩,y,k⟩ ?_ ?_
 .rintro⟨V,W⟩ r h;refine ze<|A ?_;apply Xa h y<;>intro J h
  .refine zc<|ze<|zg ?_;obtain⟨F,X,h⟩:=bs h;refine A ?_;obtain⟨O,Y,h⟩:=bs h;refine A ?_;obtain⟨Z,P,h⟩:=bs h;refine A ?_;refine u<|Lo 8 ti y ti y y YB ti y y y y (Lx (f:=XF) (z:=[(zU.mk F.From F.To F.At O)]) y y) (λ_=>y) y P<|A ?_;refine A ?_;cases h;exact⟨_,y,zl [0,1,2,3,4,8]⟩
  apply zr;cases h;exact⟨y,_,y,zl [1,2,3,4,5]⟩
 rintro v43 rfl;refine zm<|A ?_
 exact F4⟩
def zAF(c:T0)(d:T0)(e:T1)(a:Vv)(b:Vu):Option (T0×T0×T1×(Vv)×(Vu)):=some (c,d,e,a,b)
def EM(c:za)(b:Vu)(a:Int):zL ((Vu)×Int) ((Vu)) (T0×T0×T1×(Vv)×(Vu)):=cond ((decide (a<(length c.Methods:Int)))&&(decide (a<10))) ((idx c.Methods a).bind λd=>(Tj d).bind λe=>(Xu 152 b [e]).bind λf=>some (.inl (f,(i64.wrap (a+1))))) (some (.inr (.inl b)))
def uN(c:za)(d:T0)(e:T0)(f:T1)(a:Vv):Option (T0×T0×T1×(Vv)×(Vu)):=(zk (λz=>EM c z.1 z.2) ([],0)).bind λo=>zE o (λb=>zAF d e f a b) some
def EN(d:za)(c:Vv)(a:Int):zL ((Vv)×Int) ((Vv)) (T0×T0×T1×(Vv)×(Vu)):=cond ((decide (a<(length d.Fields:Int)))&&(decide (a<10))) ((idx d.Fields a).bind λb=>(ZN b.Name 10).bind λe=>(ZN b.Type_ 12).bind λf=>(Xu 40 c [(zh.mk e f b.Static)]).bind λi=>some (.inl (i,(i64.wrap (a+1))))) (some (.inr (.inl c)))
def Sn(a:za):Option (T0×T0×T1×(Vv)×(Vu)):=(ZN a.Name 10).bind λc=>(ZN a.Super 10).bind λd=>(GF a.Impl 6).bind λe=>(zk (λz=>EN a z.1 z.2) ([],0)).bind λo=>zE o (λb=>uN a c d e b) some
theorem zAG{r:T0×T0×T1×(Vv)×(Vu)}(h:Sn x=some r):VE 16 [.agg (zf x)] [] (.agg [sA r.1,sA r.2.1,bA x.Interface,tL r.2.2.1,.msl 0 0 (length r.2.2.2.1),.msl 1 0 (length r.2.2.2.2)]) [.many 3 (map zv r.2.2.2.1),.many 10 (map zd r.2.2.2.2)]:=by
 refine⟨⟨Xo (sz:=3) (λ_=>y),Xo (sz:=10) (λ_=>y),t⟩,zK func16 y kz y ?_⟩;refine A ?_;obtain⟨c,N,d,O,e,P,h⟩:=LA h;refine Lc [(1,_),(2,_),(3,_)] [some (6,[(zf x)]),some (6,[[sA [],sA [],bA false,nS,nS,nS]]),some (6,[[sA c,sA d,bA x.Interface,tL e,nS,nS]])] [12,13] Y4 [(18,_),(17,_),(16,_),(15,_),(14,_),(13,_),(12,_),(11,_),(10,_),(9,_),(8,_),(7,_)] 2 (Xd (z:=by exact⟨(λ_ _=>⟨_,y,y,al 2 ti y<|⟨(Vj),[],[(3,_)],y,y,y,y,Xd (z:=by exact⟨nv,(λ_ _=>⟨_,y,y,La ti y y y<|⟨.any,[],[],y,y,y,t,Xg (z:=z6 [0,1,2])⟩⟩),t⟩)⟩⟩),nw,t⟩)) ?_;refine ze<|A ?_;obtain⟨o,ho,h⟩:=bs h;refine F7 ho (λz=>[(1,Vg),(2,Vh),(3,Vj),(4,iA z.2)]) (λz=>[some (6,[(zf x)]),some (6,[[sA [],sA [],bA false,nS,nS,nS]]),some (6,[[sA c,sA d,bA x.Interface,tL e,.msl 3 0 (length z.1),nS]]),some (3,map zv z.1)]) (λb=>[(1,Vg),(2,Vh),(3,Vj)]) (λb=>[some (6,[(zf x)]),some (6,[[sA [],sA [],bA false,nS,nS,nS]]),some (6,[[sA c,sA d,bA x.Interface,tL e,.msl 3 0 (length b),nS]]),some (3,map zv b)]) (pF f16 (λr=>.agg [sA r.1,sA r.2.1,bA x.Interface,tL r.2.2.1,.msl 0 0 (length r.2.2.2.1),.msl 1 0 (length r.2.2.2.2)]) λr=>[some (3,map zv r.2.2.2.1),some (10,map zd r.2.2.2.2)]) ⟨[0,1,2,.fresh 3],cv y (.mpt y)<|cv y (.mpt y)<|cv y (.mpt y)<|ce y y<|cn,y,⟨⟨_,y,XN (LO y)⟩,⟨_,y,XN (LO y)⟩,⟨_,y,XN ⟨ci y,ci y,ci y,ci y,.nilown y,ci y,t⟩⟩,w,t⟩,y,k⟩ ?_ ?_
 .rintro⟨C,D⟩ r h;refine ze<|A ?_;apply Xa h y<;>intro l h
  .refine zc<|ze<|zg ?_;obtain⟨n,E,h⟩:=bs h;refine A ?_;obtain⟨p,F,q,G,i,s,h⟩:=LA h;refine XA [(1,_),(2,_),(3,_),(4,_)] [some (6,[(zf x)]),some (6,[[sA [],sA [],bA false,nS,nS,nS]]),some (6,[[sA c,sA d,bA x.Interface,tL e,.msl 3 0 (length i),nS]]),some (3,map zv i)] [11,12,14] Y0 [(45,_),(44,_),(43,_),(42,_),(41,_),(40,_),(39,_),(38,_),(37,_),(36,_),(35,_)] 3 (Xd (z:=by exact⟨(λ_ _=>⟨_,y,y,bl 5 ti y ti y YB YB y y y<|⟨(.msl 5 0 1),[],[(46,_)],y,y,y,y,Xd (z:=by exact⟨nv,(λ_ _=>⟨_,y,y,Lo 6 ti y ti y y YB ti y y y y (Lx (f:=zv) (z:=[(zh.mk p q n.Static)]) y y) (λ_=>y) y s<|⟨(.msl 6 0 (length i)),[13],[(48,_),(47,_)],y,y,y,y,Xd (z:=by exact⟨nv,nv,(λ_ _=>⟨_,y,y,La ti y y y<|⟨.any,[],[],y,y,y,t,Xg (z:=z6 [0,1,2,6])⟩⟩),t⟩)⟩⟩),nw,t⟩)⟩⟩),nw,nw,t⟩)) ?_;refine A ?_;cases h;exact⟨_,y,zl [0,1,2,3]⟩
  exact Mg
 rintro a rfl;refine zm<|ze<|A ?_;obtain⟨o,ho,h⟩:=bs h;refine F7 ho (λz=>[(1,Vg),(2,Vh),(3,Vj),(6,iA z.2)]) (λz=>[some (6,[(zf x)]),some (6,[[sA [],sA [],bA false,nS,nS,nS]]),some (6,[[sA c,sA d,bA x.Interface,tL e,.msl 3 0 (length a),.msl 4 0 (length z.1)]]),some (3,map zv a),some (10,map zd z.1)]) (λb=>[(2,Vg),(3,Vh)]) (λb=>[some (6,[[sA [],sA [],bA false,nS,nS,nS]]),some (6,[[sA c,sA d,bA x.Interface,tL e,.msl 2 0 (length a),.msl 3 0 (length b)]]),some (3,map zv a),some (10,map zd b)]) (pF f16 (λr=>.agg [sA r.1,sA r.2.1,bA x.Interface,tL r.2.2.1,.msl 0 0 (length r.2.2.2.1),.msl 1 0 (length r.2.2.2.2)]) λr=>[some (3,map zv r.2.2.2.1),some (10,map zd r.2.2.2.2)]) ⟨[0,1,2,3,.fresh 10],cv y (.mpt y)<|cv y (.mpt y)<|cv y (.mpt y)<|ce y y<|cn,y,⟨⟨_,y,XN (LO y)⟩,⟨_,y,XN (LO y)⟩,⟨_,y,XN ⟨ci y,ci y,ci y,ci y,.msl y,.nilown y,t⟩⟩,⟨_,y,XL (λ_=>y)⟩,w,t⟩,y,k⟩ ?_ ?_
 .rintro⟨H,I⟩ r h;refine ze<|A ?_;apply Xa h y<;>intro m h
  .refine zc<|ze<|zg ?_;obtain⟨J,K,v,L,j,B,h⟩:=LA h;refine XA [(1,_),(2,_),(3,_),(6,_)] [some (6,[(zf x)]),some (6,[[sA [],sA [],bA false,nS,nS,nS]]),some (6,[[sA c,sA d,bA x.Interface,tL e,.msl 3 0 (length a),.msl 4 0 (length j)]]),some (3,map zv a),some (10,map zd j)] [8,9,11] YU [(67,_),(66,_),(65,_),(64,_),(63,_),(62,_),(61,_),(60,_)] 3 (Xd (z:=by exact⟨(λ_ _=>⟨_,y,y,bl 5 ti y ti y YB YB y y y<|⟨(.msl 5 0 1),[],[(68,_)],y,y,y,y,Xd (z:=by exact⟨nv,(λ_ _=>⟨_,y,y,Lo 6 ti y ti y y YB ti y y y y (Lx (f:=zd) (z:=[v]) y y) (λ_=>y) y B<|⟨(.msl 6 0 (length j)),[10],[(70,_),(69,_)],y,y,y,y,Xd (z:=by exact⟨nv,nv,(λ_ _=>⟨_,y,y,La ti y y y<|⟨.any,[],[],y,y,y,t,Xg (z:=z6 [0,1,2,3,6])⟩⟩),t⟩)⟩⟩),nw,t⟩)⟩⟩),nw,nw,t⟩)) ?_;refine A ?_;cases h;exact⟨_,y,zl [0,1,2,3,4]⟩
  apply zr;cases h;exact⟨y,_,y,zl [1,2,3,4]⟩
 rintro M rfl;refine zm<|A ?_;apply zA;cases h;exact⟨_,y,Kl [2,3]⟩
def zAC(a:Vr):Option ((Vr)):=some a
def EO(c:Vr)(d:Vr)(b:Int):zL ((Vr)×Int) ((Vr)) ((Vr)):=cond ((decide (b<(length c:Int)))&&(decide (b<18))) ((idx c b).bind λe=>(Sn e).bind λa=>(Xu 112 d [(za.mk a.1 a.2.1 e.Interface a.2.2.1 a.2.2.2.1 a.2.2.2.2)]).bind λf=>some (.inl (f,(i64.wrap (b+1))))) (some (.inr (.inl d)))
def So(a:Vr):Option ((Vr)):=(zk (λz=>EO a z.1 z.2) ([],0)).bind λo=>zE o (λb=>zAC b) some
theorem zAD{r:(Vr)}(h:So a=some r):VE 26 [cL a] [] (.msl 0 0 (length r)) [.many 6 (map zf r)]:=by
 refine⟨⟨Xo (sz:=6) (λ_=>y),t⟩,zK func26 y kz y ?_⟩;refine A ?_;refine A ?_;refine ze<|A ?_;obtain⟨o,ho,h⟩:=bs h;refine F7 ho (λz=>[(0,cL a),(3,.msl 0 0 (length z.1)),(4,iA z.2)]) (λz=>[some (6,map zf z.1)]) (λb=>[(3,.msl 0 0 (length b))]) (λb=>[some (6,map zf b)]) (pF f26 (λr=>.msl 0 0 (length r)) λr=>[some (6,map zf r)]) ⟨[.fresh 6],ce y y<|cv y (.nilown y)<|ce y y<|cn,y,⟨w,t⟩,y,k⟩ ?_ ?_
 .rintro⟨d,f⟩ r h;refine ze<|A ?_;apply Xa h y<;>intro i h
  .refine zc<|ze<|zg ?_;obtain⟨e,p,c,l,m,j,h⟩:=LA h;refine A ?_;refine u<|sx [] (zAG l)<|zw (VC:=[(0,cL a),(4,iA f),(15,.msl 0 0 (length d)),(20,.agg [sA c.1,sA c.2.1,bA e.Interface,tL c.2.2.1,.msl 1 0 (length c.2.2.2.1),.msl 2 0 (length c.2.2.2.2)])]) (VJ:=[some (6,map zf d),some (3,map zv c.2.2.2.1),some (10,map zd c.2.2.2.2)]) (zl [0,1,2])<|A ?_;refine zw (VC:=[(0,cL a),(4,iA f),(15,.msl 0 0 (length d)),(21,.msl 1 0 (length [(za.mk c.1 c.2.1 e.Interface c.2.2.1 c.2.2.2.1 c.2.2.2.2)]))]) (VJ:=[some (6,map zf d),some (6,map zf [(za.mk c.1 c.2.1 e.Interface c.2.2.1 c.2.2.2.1 c.2.2.2.2)])]) (zl [0,3])<|u<|Lo 2 ti y ti y y YB ti y y y y (Mx y) (λ_=>y) y j<|A ?_;refine A ?_;cases h;exact⟨_,y,zl [2]⟩
  exact Lv
 rintro n rfl;refine zm<|A ?_;exact LP
def KS:T1:=([[79,98,106,101,99,116],[84,104,114,111,119,110],[78,117,108,108,69,114,114],[82,97,110,103,101,69,114,114],[77,97,116,104,69,114,114],[67,97,115,116,69,114,114],[83,105,122,101,69,114,114],[83,116,111,114,101,69,114,114],[73,110,105,116,69,114,114],[67,108,97,115,115,69,114,114]])
theorem lB{r:T1}(h:KS=r):VE 184 [] [] (.msl 0 0 (length r)) [.many 1 (map Xe r)]:=by refine⟨⟨Xo (sz:=1) (λ_=>y),t⟩,zK func184 y kz y ?_⟩;unfold KS at h;refine A ?_;refine A ?_;apply zA;obtain rfl:=h;exact⟨_,y,Xb [0]⟩
def Z5:T1:=([[79,98,106,101,99,116],[84,104,114,111,119,110],[78,117,108,108,69,114,114],[82,97,110,103,101,69,114,114],[77,97,116,104,69,114,114],[67,97,115,116,69,114,114],[83,105,122,101,69,114,114],[83,116,111,114,101,69,114,114],[73,110,105,116,69,114,114],[67,108,97,115,115,69,114,114]])
theorem o3{r:T1}(h:Z5=r):VE 105 [] [] (.msl 0 0 (length r)) [.many 1 (map Xe r)]:=by refine⟨⟨Xo (sz:=1) (λ_=>y),t⟩,zK func105 y kz y ?_⟩;unfold Z5 at h;refine A ?_;refine A ?_;apply zA;obtain rfl:=h;exact⟨_,y,Xb [0]⟩
def lX(a:Vr):Option ((Vr)):=some a
def kE(c:Vr)(d:Int)(e:T0)(a:T0):zL ((Vr)×Int) ((Vr)) ((Vr)):=(Xu 112 c ([(za.mk e a false [] [] [])])).bind λb=>some (.inl (b,(i64.wrap (d+1))))
def lW(b:Vr)(a:Int):zL ((Vr)×Int) ((Vr)) ((Vr)):=cond (decide (a<((length (Z5)):Int))) ((idx (Z5) a).bind λc=>cond (decide (a<2)) ((idx ([[],[79,98,106,101,99,116]]) a).bind λd=>kE b a c d) (kE b a c [84,104,114,111,119,110])) (some (.inr (.inl b)))
def ux:Option ((Vr)):=(zk (λz=>lW z.1 z.2) ([],0)).bind λo=>zE o (λb=>lX b) some
theorem lV{r:(Vr)}(h:ux=some r):VE 98 [] [] (.msl 0 0 (length r)) [.many 6 (map zf r)]:=by
 refine⟨⟨Xo (sz:=6) (λ_=>y),t⟩,zK func98 y kz y ?_⟩;refine A ?_;refine A ?_;apply ze;refine rg y<|u<|sx [] (o3 y)<|zw (VC:=[(1,nS),(5,.msl 0 0 (length (Z5)))]) (VJ:=[sT (Z5)]) (zl [0])<|A ?_;obtain⟨o,ho,h⟩:=bs h;refine F7 ho (λz=>[(1,.msl 0 0 (length z.1)),(5,.msl 1 0 (length (Z5))),(6,iA ((length (Z5)):Int)),(7,iA z.2)]) (λz=>[some (6,map zf z.1),sT (Z5)]) (λb=>[(1,.msl 0 0 (length b))]) (λb=>[some (6,map zf b)]) (pF f98 (λr=>.msl 0 0 (length r)) λr=>[some (6,map zf r)]) ⟨[.fresh 6,0],cv y (.nilown y)<|cv y (.msl y)<|ce y y<|ce y y<|cn,y,⟨w,⟨_,y,XL (λ_=>y)⟩,t⟩,y,k⟩ ?_ ?_
 .rintro⟨a,c⟩ r h;refine A ?_;apply ze;apply Xa h y<;>intro f h
  .refine zc<|ze<|zg ?_;obtain⟨d,q,h⟩:=bs h;refine A ?_;refine A ?_;refine zY (X:=T0) (λz=>[(1,.msl 0 0 (length a)),(4,Vh),(5,.msl 2 0 (length (Z5))),(6,iA ((length (Z5)):Int)),(7,iA c)]) (λz=>[some (6,map zf a),some (6,[[sA d,sA z,bA false,nS,nS,nS]]),sT (Z5)]) (λz=>kE a c d z=some r) ?_ ?_
   .refine A ?_;apply Xa h y<;>intro i h;.obtain⟨l,j,h⟩:=bs h;exact rl y<|u<|bl 3 ti y ti y YB YB y y y<|u<|mv y<|zw (VC:=[(1,.msl 0 0 (length a)),(4,Vh),(5,.msl 2 0 (length (Z5))),(6,iA ((length (Z5)):Int)),(7,iA c),(16,.msl 3 0 (length ([[],[79,98,106,101,99,116]]))),(17,iA c)]) (VJ:=[some (6,map zf a),some (6,[[sA d,sA [84,104,114,111,119,110],bA false,nS,nS,nS]]),sT (Z5),sT ([[],[79,98,106,101,99,116]])]) (zl [0,2,1,3])<|u<|Ns ti y ti y y y y j<|u<|RT ti y y (zT j).2.2 y<|u<|fa ti y y y<|u<|La ti y y y<|zx (⟨l,h,zl [0,1,2]⟩)
    apply zc;exact⟨[84,104,114,111,119,110],h,zl [0,2,1]⟩
   rintro e h;obtain⟨n,m,h⟩:=bs h;refine A ?_;refine zw (VC:=[(5,.msl 0 0 (length (Z5))),(6,iA ((length (Z5)):Int)),(7,iA c),(21,.msl 1 0 (length a)),(23,.msl 2 0 (length ([(za.mk d e false [] [] [])])))]) (VJ:=[sT (Z5),some (6,map zf a),some (6,map zf ([(za.mk d e false [] [] [])]))]) (zl [2,0,3])<|u<|Lo 3 ti y ti y y YB ti y y y y (Mx y) (λ_=>y) y m<|A ?_;refine A ?_;cases h;exact⟨_,y,zl [3,0]⟩
  exact Lv
 rintro p rfl;refine zm<|A ?_;exact LP
def EE(a:za):Option (T1):=(Xu 16 [a.Super] a.Impl).bind λb=>some b
theorem kF{r:T1}(h:EE x=some r):VE 100 [.agg (zf x)] [] (.msl 0 0 (length r)) [.many 1 (map Xe r)]:=by refine⟨⟨Xo (sz:=1) (λ_=>y),t⟩,zK func100 y kz y ?_⟩;refine A ?_;obtain⟨b,a,h⟩:=bs h;refine A ?_;refine u<|Lo (l:=[x.Super]) (f:=Xe) 2 ti y ti y y YB ti y y y y Mc (λ_=>y) y a<|A ?_;apply zA;cases h;exact⟨_,y,Kl [2]⟩
def Ky(c:Vr)(a:T2)(b:T0):Bool:=(Option.isSome (XE b a))
theorem eU(a:Vr)(e:T2)(b:T0)(h:Ky a e b=r):VD 102 [.ipt 2 [[cL a,mI e]] 0 0,sA b] (bA r):=by refine zi func102 y kz y y ?_;unfold Ky at h;refine A ?_;refine ze<|A ?_;refine UC y (λhx=>by cases hx) (λ_=>?_);refine zc<|A ?_;refine u<|RA (g:=(λx=>iA x)) (z:=0) (l:=e) y ti y y y y<|A ?_;refine A ?_;apply zA;obtain rfl:=h;exact⟨_,y,Xb []⟩
instance :VF 102 [.ipt 2 [[cL a,mI e]] 0 0,sA b] (some (Ky a e b)) bA:=.of λ_=>eU a e b
def S3(a:T0)(b:Vr)(c:T2):Bool:=(!(Ky b c a))
instance :VF 101 [sA b,.ipt 1 [[.ipt 2 [[cL a,mI e]] 0 0]] 0 0] (some (S3 b a e)) bA:=.of λr h=>by
 refine zi func101 y kz y y ?_;unfold S3 at h;refine A ?_;refine A ?_;apply zA;obtain rfl:=h;exact⟨_,y,Xb []⟩
def jp:Option (Int):=some (-1)
def Cp(b:T1)(c:Vr)(d:T2)(a:Int):zL (Int) (Unit) (Int):=cond (decide (a<(length b:Int))) ((idx b a).bind λe=>cond (S3 e c d) (some (.inr (.inr a))) (some (.inl (i64.wrap (a+1))))) (some (.inr (.inl ())))
def gW(a:T1)(c:Vr)(d:T2):Option (Int):=(zk (λz=>Cp a c d z) 0).bind λo=>zE o (λb=>jp) some
instance :VF 181 [tL d,.fn (.func 101) [] [.ipt 1 [[.ipt 2 [[cL a,mI e]] 0 0]] 0 0]] (gW d a e) iA:=⟨λr h=>by
 refine zi func181 y kz y y<|A ?_;refine ze<|A ?_;obtain⟨o,ho,h⟩:=bs h;refine F7 ho (λz=>[(0,tL d),(1,.fn (.func 101) [] [.ipt 1 [[.ipt 2 [[cL a,mI e]] 0 0]] 0 0]),(7,iA (length d:Int)),(8,iA z)]) (λz=>[]) (λb=>[]) (λb=>[]) (pG f181 iA) (z6 []) ?_ ?_
 .rintro i r h;refine A ?_;apply ze;apply Xa h y<;>intro c h
  .refine zc<|ze<|zg<|A ?_;obtain⟨j,l,h⟩:=bs h;refine A ?_;apply Xa h y<;>intro f h
   .refine A ?_;apply zA;cases h;exact⟨_,y,_,y,Xb []⟩
   refine zc<|A ?_;exact LB
  exact Ll
 rintro⟨⟩ rfl;refine zm<|A ?_
 exact F4⟩
def Ru(a:T1)(b:Vr)(c:T2):Option (Bool):=(gW a b c).bind λd=>some (decide (0<=d))
theorem jE(d:T1)(a:Vr)(e:T2)(h:Ru d a e=some r):VD 99 [tL d,.fn (.func 101) [] [.ipt 1 [[.ipt 2 [[cL a,mI e]] 0 0]] 0 0]] (bA r):=by refine zi func99 y kz y y<|A ?_;obtain⟨b,c,h⟩:=bs h;refine A ?_;exact F4
instance :VF 99 [tL d,.fn (.func 101) [] [.ipt 1 [[.ipt 2 [[cL a,mI e]] 0 0]] 0 0]] (Ru d a e) bA:=⟨λ_=>jE d a e⟩
def HO(a:Vr)(b:T2)(c:T0):Option (za):=(idx a (Option.getD (XE c b) 0)).bind λd=>some d
instance :VF 182 [.ipt 2 [[cL a,mI e]] 0 0,sA b] (HO a e b) (λr=>(.agg (zf r))):=⟨λr h=>by
 refine zi func182 y kz y y<|A ?_;obtain⟨c,d,h⟩:=bs h;refine Lc [(4,_)] [some (6,[(zf c)])] [12] Y4 [(16,_),(15,_),(14,_),(13,_),(12,_),(11,_),(10,_),(9,_),(8,_),(7,_),(6,_),(5,_)] 1 (Xd ⟨F1,F1,F1,F1,F1,F1,F1,F1,F1,(by exact pb y (CG (g:=(λx=>iA x)) (z:=0) (l:=e) y ti y y y y<|w)),F1,F1,t⟩ (by exact⟨(λ_ _=>⟨_,y,y,La ti y y y<|⟨.any,[],[],y,y,y,t,Xg (z:=z6 [0])⟩⟩),t⟩)) ?_
 exact F4⟩
def k9(a:T0)(b:Vr)(c:T2):Option (Bool):=(HO b c a).bind λd=>some (!d.Interface)
instance :VF 183 [sA b,.ipt 1 [[.ipt 2 [[cL a,mI e]] 0 0]] 0 0] (k9 b a e) bA:=⟨λr h=>by
 refine zi func183 y kz y y<|A ?_;obtain⟨c,d,h⟩:=bs h;refine A ?_
 exact F4⟩
def jo:Option (Int):=some (-1)
def Co(b:T1)(c:Vr)(d:T2)(a:Int):zL (Int) (Unit) (Int):=cond (decide (a<(length b:Int))) ((idx b a).bind λe=>(k9 e c d).bind λf=>cond f (some (.inr (.inr a))) (some (.inl (i64.wrap (a+1))))) (some (.inr (.inl ())))
def gV(a:T1)(c:Vr)(d:T2):Option (Int):=(zk (λz=>Co a c d z) 0).bind λo=>zE o (λb=>jo) some
instance :VF 181 [tL d,.fn (.func 183) [] [.ipt 1 [[.ipt 2 [[cL a,mI e]] 0 0]] 0 0]] (gV d a e) iA:=⟨λr h=>by
 refine zi func181 y kz y y<|A ?_;refine ze<|A ?_;obtain⟨o,ho,h⟩:=bs h;refine F7 ho (λz=>[(0,tL d),(1,.fn (.func 183) [] [.ipt 1 [[.ipt 2 [[cL a,mI e]] 0 0]] 0 0]),(7,iA (length d:Int)),(8,iA z)]) (λz=>[]) (λb=>[]) (λb=>[]) (pG f181 iA) (z6 []) ?_ ?_
 .rintro i r h;refine A ?_;apply ze;apply Xa h y<;>intro c h
  .refine zc<|ze<|zg<|A ?_;obtain⟨j,l,m,n,h⟩:=F6 h;refine A ?_;apply Xa h y<;>intro f h
   .refine A ?_;apply zA;cases h;exact⟨_,y,_,y,Xb []⟩
   refine zc<|A ?_;exact LB
  exact Ll
 rintro⟨⟩ rfl;refine zm<|A ?_
 exact F4⟩
def Rt(a:T1)(b:Vr)(c:T2):Option (Bool):=(gV a b c).bind λd=>some (decide (0<=d))
theorem jD(d:T1)(a:Vr)(e:T2)(h:Rt d a e=some r):VD 99 [tL d,.fn (.func 183) [] [.ipt 1 [[.ipt 2 [[cL a,mI e]] 0 0]] 0 0]] (bA r):=by refine zi func99 y kz y y<|A ?_;obtain⟨b,c,h⟩:=bs h;refine A ?_;exact F4
instance :VF 99 [tL d,.fn (.func 183) [] [.ipt 1 [[.ipt 2 [[cL a,mI e]] 0 0]] 0 0]] (Rt d a e) bA:=⟨λ_=>jD d a e⟩
def nH:Option (Bool):=some true
def ip(a:Int)(b:T1):zL (T1×Int) (Unit) (Bool):=some (.inl (b,(i64.wrap (a+1))))
def Af(a:Int)(b:T1):zL (T1×Int) (T1) (Bool):=some (.inl (b,(i64.wrap (a+1))))
def IP(d:T1)(a:T1)(b:Int):zL (T1×Int) (T1) (Bool):=cond (decide (b<((length d):Int))) ((idx d b).bind λc=>(cond (!(c==[])) ((zO a c).bind λe=>some (!e)) (some false)).bind λf=>cond f ((Xu 16 a [c]).bind λi=>Af b i) (Af b a)) (some (.inr (.inl a)))
def B5(j:Vr)(l:T2)(m:za)(a:T1)(c:Int):zL (T1×Int) (Unit) (Bool):=cond (decide (c<((length a):Int))) ((idx a c).bind λd=>cond (d==m.Name) (some (.inr (.inr false))) ((idx a c).bind λe=>(HO j l e).bind λf=>(EE f).bind λi=>(zk (λz=>IP i z.1 z.2) (a,0)).bind λo=>zE o (λb=>ip c b) (λr=>some (.inr (.inr r))))) (some (.inr (.inl ())))
def Id(c:Vr)(d:T2)(a:za):Option (Bool):=(HO c d a.Super).bind λe=>(cond e.Interface (some true) ((Rt a.Impl c d).bind λf=>some f)).bind λi=>cond i (some false) ((EE a).bind λj=>(zk (λz=>B5 c d a z.1 z.2) (j,0)).bind λo=>zE o (λb=>nH) some)
theorem io(a:Vr)(e:T2)(d:za)(h:Id a e d=some r):VD 103 [.ipt 2 [[cL a,mI e]] 0 0,.agg (zf d)] (bA r):=by
 refine zi func103 y kz y y<|A ?_;apply ze;obtain⟨v4,q1,O,n,h⟩:=F6 h;refine A ?_;refine Uj (x:=O) (j:=5) 4 y y y y y Lr (λm=>by replace n:=bF m n;obtain⟨v5,P,n⟩:=bs n;obtain rfl:=sm n;exact g y m<|fa ti y y y<|g y m<|ld ti y y<|g y m<|mf y y<|g y m<|Lj (jD d.Impl a e P) y y (.cons (si y) (.cons (ZB t ⟨(XC y ⟨(si y),t⟩),t⟩) .nil)) Xx<|zx (eg [15,16,17,18] 4 y y y y)) (λhb=>(sm (bT hb n)).symm)<|zx ?_;apply Xa h y<;>intro G h
 .refine A ?_;exact F4
 apply zc;obtain⟨H,Q,h⟩:=bs h;refine A ?_;refine u<|sx [] (kF Q)<|zw (VC:=[(2,Vg),(3,Vh),(21,.msl 2 0 (length H))]) (VJ:=[some (1,[[.ipt 2 [[cL a,mI e]] 0 0]]),some (6,[(zf d)]),sT H]) (zl [0,1,2])<|A ?_;refine ze<|A ?_;obtain⟨o,ho,h⟩:=bs h;refine F7 ho (λz=>[(2,Vg),(3,Vh),(5,.msl 2 0 (length z.1)),(6,iA z.2)]) (λz=>[some (1,[[.ipt 2 [[cL a,mI e]] 0 0]]),some (6,[(zf d)]),sT z.1]) (λb=>[]) (λb=>[]) (pG f103 bA) (z6 [0,1,2]) ?_ ?_
 .rintro⟨q,p⟩ r h;refine ze<|A ?_;apply Xa h y<;>intro C h
  .refine zc<|ze<|zg<|ze ?_;obtain⟨R,S,h⟩:=bs h;refine Lc [(2,_),(3,_),(5,_),(6,_),(34,_)] [some (1,[[.ipt 2 [[cL a,mI e]] 0 0]]),some (6,[(zf d)]),sT q] [] Y2 [(34,_),(33,_),(32,_),(31,_),(30,_),(29,_),(28,_)] 0 (Xg (z:=z6 [0,1,2])) ?_;apply Xa h y<;>intro D h
   .refine A ?_;apply zA;cases h;exact⟨_,y,_,y,Xb []⟩
   apply zc;obtain⟨T,U,I,V,c,J,h⟩:=LA h;refine Lc [(2,_),(3,_),(5,_),(6,_),(41,_),(42,_),(43,_)] [some (1,[[.ipt 2 [[cL a,mI e]] 0 0]]),some (6,[(zf d)]),sT q,sT c] [6] [0,1,2,3,4,5,8] [(43,_),(40,_),(39,_),(38,_),(37,_),(36,_),(35,_)] 1 (Xd (z:=by exact⟨(λ_ _=>⟨_,y,y,sx [] (kF J)<|⟨(.msl 3 0 (length c)),[7],[(42,_),(41,_)],y,y,y,y,Xg (z:=z6 [0,1,2,3])⟩⟩),t⟩)) ?_;obtain⟨o,ho,h⟩:=bs h;refine LG ho (λz=>[(2,Vg),(3,Vh),(5,.msl 2 0 (length z.1)),(6,iA p),(41,.msl 3 0 (length c)),(42,iA ((length c):Int)),(43,iA z.2)]) (λz=>[some (1,[[.ipt 2 [[cL a,mI e]] 0 0]]),some (6,[(zf d)]),sT z.1,sT c]) (λb=>[(2,Vg),(3,Vh),(5,.msl 2 0 (length b)),(6,iA p)]) (λb=>[some (1,[[.ipt 2 [[cL a,mI e]] 0 0]]),some (6,[(zf d)]),sT b]) (pG f103 bA) (z6 [0,1,2,3]) ?_ ?_ ?_
   .rintro⟨s,v⟩ r h;refine A ?_;apply ze;apply Xa h y<;>intro E h
    .apply zc;refine zY (X:=T1) (λz=>[(2,Vg),(3,Vh),(5,.msl 2 0 (length z)),(6,iA p),(41,.msl 3 0 (length c)),(42,iA ((length c):Int)),(43,iA v)]) (λz=>[some (1,[[.ipt 2 [[cL a,mI e]] 0 0]]),some (6,[(zf d)]),sT z,sT c]) (λz=>Af v z=some r) ?_ ?_
     .apply zg;obtain⟨B,W,h⟩:=bs h;refine A ?_;obtain⟨K,l,h⟩:=bs h;refine A ?_;refine XV (x:=K) (j:=2) 4 y y y y y Lr (λi=>by replace l:=bT i l;obtain⟨Y,L,l⟩:=bs l;obtain rfl:=sm l;exact g y i<|mv y<|g y i<|mv y<|g y i<|Lj (WT s B L) y y (.cons (XU y (λ_=>y)) (.cons (si y) .nil)) Xx<|g y i<|nt y<|zx (eg [50,51,52,53] 4 y y y y)) (λhb=>(sm (bF hb l)).symm)<|zx ?_;apply Xa h y<;>intro F h
      .obtain⟨M,N,h⟩:=bs h;refine A ?_;refine u<|Lo 5 ti y ti y y YB ti y y y y (Lx (f:=Xe) (z:=[B]) y y) (λ_=>y) y N<|A ?_;exact(⟨M,h,zl [0,1,5,3]⟩)
      apply zc;exact⟨s,h,zl [0,1,2,3]⟩
     rintro Z h;refine A ?_;cases h;exact⟨_,y,zl [0,1,2,3]⟩
    apply zr;cases h;exact⟨y,_,y,zl [0,1,2]⟩
   .rintro v49 rfl;refine zm<|A ?_;exact Mh
   rintro r' rfl env st hp;cases h;exact⟨_,y,hp⟩
  exact Ll
 rintro⟨⟩ rfl;refine zm<|A ?_;exact F4
instance :VF 103 [.ipt 2 [[cL a,mI e]] 0 0,.agg (zf x)] (Id a e x) bA:=⟨λ_=>io a e x⟩
def zAw(a:Vr)(b:T2):Option ((Option zu)×Int):=some ((some (zu.mk a b)),0)
def EP(b:Vr)(c:Vr)(d:T2)(a:Int):zL (Int) (Unit) ((Option zu)×Int):=cond (decide (a<(length b:Int))) ((idx b a).bind λe=>(Id c d e).bind λf=>cond (!f) (some (.inr (.inr (none,1)))) (some (.inl (i64.wrap (a+1))))) (some (.inr (.inl ())))
def oG(d:Vr)(a:Vr)(c:T2):Option ((Option zu)×Int):=(zk (λz=>EP d a c z) 0).bind λo=>zE o (λb=>zAw a c) some
def EQ(b:Vr)(c:Vr)(d:T2)(a:Int):zL (Int) (Unit) ((Option zu)×Int):=cond (decide (a<(length b:Int))) ((idx b a).bind λe=>(EE e).bind λf=>(Ru f c d).bind λi=>cond i (some (.inr (.inr (none,4)))) (some (.inl (i64.wrap (a+1))))) (some (.inr (.inl ())))
def oH(d:Vr)(a:Vr)(c:T2):Option ((Option zu)×Int):=(zk (λz=>EQ d a c z) 0).bind λo=>zE o (λb=>oG d a c) some
def G8(e:Vr)(b:Vr)(c:T2)(d:Int):zL ((Vr)×T2×Int) ((Vr)×T2) ((Option zu)×Int):=cond (decide (d<(length e:Int))) ((idx e d).bind λa=>(cond (Option.isSome (XE a.Name c)) (some true) ((SH a).bind λf=>some (!f))).bind λi=>cond i (some (.inr (.inr (none,1)))) ((Xu 112 b [a]).bind λj=>some (.inl (j,(XO a.Name ((length b):Int) c),(i64.wrap (d+1)))))) (some (.inr (.inl (b,c))))
def oI(a:Vr)(c:(Vr))(d:T2):Option ((Option zu)×Int):=(zk (λz=>G8 a z.1 z.2.1 z.2.2) (c,d,0)).bind λo=>zE o (λb=>oH a b.1 b.2) some
def oF(b:(Vr))(c:T2)(a:Int):zL (T2×Int) (T2) ((Option zu)×Int):=cond (decide (a<((length b):Int))) ((idx b a).bind λd=>some (.inl ((XO d.Name a c),(i64.wrap (a+1))))) (some (.inr (.inl c)))
def Wb(a:Vr):Option ((Option zu)×Int):=cond (decide (16<(length a:Int))) (some (none,3)) ((ux).bind λc=>(zk (λz=>oF c z.1 z.2) ([],0)).bind λo=>zE o (λb=>oI a c b) some)
theorem Ta(a:Vr){r:(Option zu)×Int}(h:Wb a=some r):VD 22 [cL a] (.tup [Xz 2 XX r.1,iA r.2]):=by
 refine zi func22 y kz y (xi (Kk (Zo (λ_=>y)) (y))) ?_;refine A ?_;refine ze<|A ?_;apply Xa h y<;>intro H h
 .refine A ?_;exact F4
 apply zc;obtain⟨j,T,h⟩:=bs h;refine rg y<|u<|sx [] (lV T)<|zw (VC:=[(0,cL a),(18,.msl 0 0 (length j))]) (VJ:=[some (6,map zf j)]) (zl [0])<|u<|wA (e:=3) 1 y y<|A ?_;refine ze<|A ?_;obtain⟨o,ho,h⟩:=bs h;refine F7 ho (λz=>[(0,cL a),(4,Vg),(25,.msl 2 0 (length j)),(26,iA ((length j):Int)),(27,iA z.2)]) (λz=>[some (1,[[Vh]]),some (2,[[.msl 2 0 (length j),.mmp 3]]),some (6,map zf j),some (2,map (F5 (λx=>iA x)) z.1)]) (λb=>[(0,cL a),(4,Vg)]) (λb=>[some (1,[[Vh]]),some (2,[[.msl 2 0 (length j),.mmp 3]]),some (6,map zf j),some (2,map (F5 (λx=>iA x)) b)]) (pG f22 (λr=>.tup [Xz 2 XX r.1,iA r.2])) (z6 [3,2,0,1]) ?_ ?_
 .rintro⟨I,J⟩ r h;refine A ?_;apply ze;apply Xa h y<;>intro K h;.refine zc<|ze<|zg ?_;obtain⟨L,q6,h⟩:=bs h;refine A ?_;refine XA [(0,_),(4,_),(25,_),(26,_),(27,_)] [some (1,[[Vh]]),some (2,[[.msl 2 0 (length j),.mmp 3]]),some (6,map zf j),some (2,map (F5 (λx=>iA x)) (XO L.Name J I))] [7] Y2 [(38,_),(37,_),(36,_),(35,_),(34,_),(33,_),(32,_)] 1 (Xd (z:=by exact⟨(λ_ _=>⟨_,y,y,MK (v:=J) (g:=(λx=>iA x)) (l:=I) (s:=L.Name) y y y y y y<|⟨.any,[],[],y,y,y,t,Xg (z:=z6 [0,1,2,3])⟩⟩),t⟩)) ?_;refine A ?_;cases h;exact⟨_,y,zl [0,1,2,3]⟩
  exact Mg
 rintro v9 rfl;refine zm<|ze<|A ?_;obtain⟨o,ho,h⟩:=bs h;refine F7 ho (λz=>[(0,cL a),(4,Vg),(40,cL a),(41,iA (length a:Int)),(42,iA z.2.2)]) (λz=>[some (1,[[Vh]]),some (2,[[.msl 2 0 (length z.1),.mmp 3]]),some (6,map zf z.1),some (2,map (F5 (λx=>iA x)) z.2.1)]) (λb=>[(0,cL a),(4,Vg)]) (λb=>[some (1,[[Vh]]),some (2,[[.msl 2 0 (length b.1),.mmp 3]]),some (6,map zf b.1),some (2,map (F5 (λx=>iA x)) b.2)]) (pG f22 (λr=>.tup [Xz 2 XX r.1,iA r.2])) (z6 [0,1,2,3]) ?_ ?_
 .rintro⟨d,n,U⟩ r h;refine A ?_;apply ze;apply Xa h y<;>intro B h
  .refine zc<|ze<|zg ?_;obtain⟨m,V,h⟩:=bs h;refine A ?_;apply ze;refine Lc [(0,_),(4,_),(8,_),(10,_),(40,_),(41,_),(42,_)] [some (1,[[Vh]]),some (2,[[.msl 2 0 (length d),.mmp 3]]),some (6,map zf d),some (2,map (F5 (λx=>iA x)) n),some (6,[(zf m)])] [] Y4 [(10,_),(9,_),(55,_),(54,_),(46,_),(53,_),(52,_),(51,_),(50,_),(49,_),(48,_),(47,_)] 0 (Xg ⟨F1,F1,F1,F1,F1,F1,(by exact pb y (RA (g:=(λx=>iA x)) (z:=0) (l:=n) y ti y y y y<|w)),F1,F1,F1,F1,F1,t⟩ (z6 [0,1,2,3,4])) ?_;obtain⟨W,X,h⟩:=bs h;refine A ?_;apply Xa h y<;>intro C h
   .refine A ?_;apply zA;cases h;exact⟨_,y,_,y,Xb []⟩
   apply zc;refine Lc [(0,_),(4,_),(8,_),(40,_),(41,_),(42,_)] [some (1,[[Vh]]),some (2,[[.msl 2 0 (length d),.mmp 3]]),some (6,map zf d),some (2,map (F5 (λx=>iA x)) (XO m.Name ((length d):Int) n)),some (6,[(zf m)])] [11] Y0 [(72,_),(71,_),(70,_),(69,_),(68,_),(67,_),(66,_),(65,_),(64,_),(63,_),(62,_)] 1 (Xd (z:=by exact⟨(λ_ _=>⟨_,y,y,MK (v:=((length d):Int)) (g:=(λx=>iA x)) (l:=n) (s:=m.Name) y y y y y y<|⟨.any,[],[],y,y,y,t,Xg (z:=z6 [0,1,2,3,4])⟩⟩),t⟩)) ?_;obtain⟨p,M,h⟩:=bs h;refine XA [(0,_),(4,_),(40,_),(41,_),(42,_)] [some (1,[[Vh]]),some (2,[[.msl 2 0 (length p),.mmp 3]]),some (6,map zf p),some (2,map (F5 (λx=>iA x)) (XO m.Name ((length d):Int) n))] [6,7,10] [0,1,2,3,4,5] [(78,_),(77,_),(76,_),(75,_),(74,_),(73,_)] 3 (Xd (z:=by exact⟨(λ_ _=>⟨_,y,y,bl 5 ti y ti y YB YB y y y<|⟨(.msl 5 0 1),[],[(79,_)],y,y,y,y,Xd (z:=by exact⟨nv,(λ_ _=>⟨_,y,y,Lo 6 ti y ti y y YB ti y y y y (Lx (f:=zf) (z:=[m]) y y) (λ_=>y) y M<|⟨(.msl 6 0 (length p)),[8,9],[(82,_),(81,_),(80,_)],y,y,y,y,Xd (z:=by exact⟨nv,nv,(λ_ _=>⟨_,y,y,La ti y y y<|⟨.any,[],[],y,y,y,t,Xg (z:=z6 [0,1,6,3])⟩⟩),t⟩)⟩⟩),nw,t⟩)⟩⟩),nw,nw,t⟩)) ?_;refine A ?_;cases h;exact⟨_,y,zl [0,1,2,3]⟩
  exact Mg
 rintro⟨c,i⟩ rfl;refine zm<|ze<|A ?_;obtain⟨o,ho,h⟩:=bs h;refine F7 ho (λz=>[(0,cL a),(4,Vg),(84,cL a),(85,iA (length a:Int)),(86,iA z)]) (λz=>[some (1,[[Vh]]),some (2,[[.msl 2 0 (length c),.mmp 3]]),some (6,map zf c),some (2,map (F5 (λx=>iA x)) i)]) (λb=>[(0,cL a),(4,Vg)]) (λb=>[some (1,[[Vh]]),some (2,[[.msl 2 0 (length c),.mmp 3]]),some (6,map zf c),some (2,map (F5 (λx=>iA x)) i)]) (pG f22 (λr=>.tup [Xz 2 XX r.1,iA r.2])) (z6 [0,1,2,3]) ?_ ?_
 .rintro N r h;refine A ?_;apply ze;apply Xa h y<;>intro D h
  .refine zc<|ze<|zg ?_;obtain⟨O,Y,h⟩:=bs h;refine A ?_;obtain⟨q,P,Z,Q,h⟩:=F6 h;refine rg y<|u<|ld ti y y<|u<|sx [] (kF P)<|zw (VC:=[(0,cL a),(4,Vg),(84,cL a),(85,iA (length a:Int)),(86,iA N),(91,.msl 4 0 (length q))]) (VJ:=[some (1,[[Vh]]),some (2,[[.msl 2 0 (length c),.mmp 3]]),some (6,map zf c),some (2,map (F5 (λx=>iA x)) i),sT q]) (zl [0,1,2,3,5])<|u<|mf y y<|u<|Lj (jE q c i Q) y y (.cons (XU y (λ_=>y)) (.cons (ZB t ⟨(XC y ⟨(XC y ⟨(XU y (λ_=>y)),(Ee y (λ_=>y)),t⟩),t⟩),t⟩) .nil)) Xx<|zx ?_;apply Xa h y<;>intro E h
   .refine A ?_;apply zA;cases h;exact⟨_,y,_,y,Xb []⟩
   refine zc<|A ?_;cases h;exact⟨_,y,zl [0,1,2,3]⟩
  exact Mg
 rintro⟨⟩ rfl;refine zm<|ze<|A ?_;obtain⟨o,ho,h⟩:=bs h;refine F7 ho (λz=>[(4,Vg),(95,cL a),(96,iA (length a:Int)),(97,iA z)]) (λz=>[some (1,[[Vh]]),some (2,[[.msl 2 0 (length c),.mmp 3]]),some (6,map zf c),some (2,map (F5 (λx=>iA x)) i)]) (λb=>[(4,Vg)]) (λb=>[some (1,[[Vh]]),some (2,[[.msl 2 0 (length c),.mmp 3]]),some (6,map zf c),some (2,map (F5 (λx=>iA x)) i)]) (pG f22 (λr=>.tup [Xz 2 XX r.1,iA r.2])) (z6 [0,1,2,3]) ?_ ?_
 .rintro v37 r h;refine A ?_;apply ze;apply Xa h y<;>intro F h
  .refine zc<|ze<|zg ?_;obtain⟨R,q36,h⟩:=bs h;refine A ?_;obtain⟨v39,S,h⟩:=bs h;refine A ?_;refine u<|Lj (io c i R S) y y (.cons (XC y ⟨(XU y (λ_=>y)),(Ee y (λ_=>y)),t⟩) (.cons (si y) .nil)) Xx<|A ?_;apply Xa h y<;>intro G h
   .refine A ?_;apply zA;cases h;exact⟨_,y,_,y,Xb []⟩
   refine zc<|A ?_;cases h;exact⟨_,y,zl [0,1,2,3]⟩
  exact Mg
 rintro⟨⟩ rfl;refine zm<|A ?_;apply zA;cases h;exact⟨_,y,[],RM ⟨(fK y y ⟨(Gu y y (λ_=>y)),(zF0 y y (λ_=>y)),t⟩ y),(ci y),t⟩,y,t,y,k⟩
variable {V5:Vt}{n:Nat}
instance :VF 22 [cL a] (Wb a) (λr=>(.tup [Xz 2 XX r.1,iA r.2])):=⟨λ_=>Ta a⟩
def wX(x:zh):Prop:=(wS) x.Name/\(wS) x.Type_/\(wT) x.Static
theorem zDh(h:ZF prog (n+2) 42 V5):∃x:zh,V5=zv x/\wX x:=by
 obtain⟨parts,rfl,hl,hg⟩:=ML underlying42 h
 match parts,hl with
 |[p0,p1,p2],_ =>
  obtain⟨x0,rfl,w0⟩:=L6 underlying9 (hg 0 _ p0 rfl rfl);obtain⟨x1,rfl,w1⟩:=L6 underlying9 (hg 1 _ p1 rfl rfl);obtain⟨x2,rfl,w2⟩:=gdB underlying4 (hg 2 _ p2 rfl rfl);exact⟨⟨x0,x1,x2⟩,rfl,w0,w1,w2⟩
def yu(x:zp):Prop:=(wI .i64) x.Op/\(wI .i64) x.A/\(wS) x.C/\(wS) x.M
theorem cN(h:ZF prog (n+2) 40 V5):∃x:zp,V5=zs x/\yu x:=by
 obtain⟨parts,rfl,hl,hg⟩:=ML underlying40 h
 match parts,hl with
 |[p0,p1,p2,p3],_ =>
  obtain⟨x0,rfl,w0⟩:=MB underlying3 (hg 0 _ p0 rfl rfl);obtain⟨x1,rfl,w1⟩:=MB underlying3 (hg 1 _ p1 rfl rfl);obtain⟨x2,rfl,w2⟩:=L6 underlying9 (hg 2 _ p2 rfl rfl);obtain⟨x3,rfl,w3⟩:=L6 underlying9 (hg 3 _ p3 rfl rfl);exact⟨⟨x0,x1,x2,x3⟩,rfl,w0,w1,w2,w3⟩
def yt(x:zZ):Prop:=(wI .i64) x.At/\(wL (wS)) x.Locals/\(wL (wS)) x.Stack
theorem cM(h:ZF prog (n+3) 80 V5):∃x:zZ,V5=zV x/\yt x:=by
 obtain⟨parts,rfl,hl,hg⟩:=ML underlying80 h
 match parts,hl with
 |[p0,p1,p2],_ =>
  obtain⟨x0,rfl,w0⟩:=MB underlying3 (hg 0 _ p0 rfl rfl);obtain⟨x1,rfl,w1⟩:=gdL (k:=1) underlying22 YD (λh=>L6 underlying9 h) (hg 1 _ p1 rfl rfl);obtain⟨x2,rfl,w2⟩:=gdL (k:=1) underlying22 YD (λh=>L6 underlying9 h) (hg 2 _ p2 rfl rfl);exact⟨⟨x0,x1,x2⟩,rfl,w0,w1,w2⟩
def vD(x:zU):Prop:=(wI .i64) x.From/\(wI .i64) x.To/\(wI .i64) x.At/\(wS) x.C
theorem zEZ(h:ZF prog (n+2) 88 V5):∃x:zU,V5=XF x/\vD x:=by
 obtain⟨parts,rfl,hl,hg⟩:=ML underlying88 h
 match parts,hl with
 |[p0,p1,p2,p3],_ =>
  obtain⟨x0,rfl,w0⟩:=MB underlying3 (hg 0 _ p0 rfl rfl);obtain⟨x1,rfl,w1⟩:=MB underlying3 (hg 1 _ p1 rfl rfl);obtain⟨x2,rfl,w2⟩:=MB underlying3 (hg 2 _ p2 rfl rfl);obtain⟨x3,rfl,w3⟩:=L6 underlying9 (hg 3 _ p3 rfl rfl);exact⟨⟨x0,x1,x2,x3⟩,rfl,w0,w1,w2,w3⟩
def uC(x:zb):Prop:=(wS) x.Name/\(wL (wS)) x.Params/\(wS) x.Ret/\(wT) x.Static/\(wT) x.Abstract/\(wI .i64) x.Locals/\(wI .i64) x.Stack/\(wL (yu)) x.Code/\(wL (yt)) x.Maps/\(wL (vD)) x.Traps
theorem zAu(h:ZF prog (n+5) 38 V5):∃x:zb,V5=zd x/\uC x:=by
 obtain⟨parts,rfl,hl,hg⟩:=ML underlying38 h
 match parts,hl with
 |[p0,p1,p2,p3,p4,p5,p6,p7,p8,p9],_ =>
  obtain⟨x0,rfl,w0⟩:=L6 underlying9 (hg 0 _ p0 rfl rfl);obtain⟨x1,rfl,w1⟩:=gdL (k:=1) underlying22 YD (λh=>L6 underlying9 h) (hg 1 _ p1 rfl rfl);obtain⟨x2,rfl,w2⟩:=L6 underlying9 (hg 2 _ p2 rfl rfl);obtain⟨x3,rfl,w3⟩:=gdB underlying4 (hg 3 _ p3 rfl rfl);obtain⟨x4,rfl,w4⟩:=gdB underlying4 (hg 4 _ p4 rfl rfl);obtain⟨x5,rfl,w5⟩:=MB underlying3 (hg 5 _ p5 rfl rfl);obtain⟨x6,rfl,w6⟩:=MB underlying3 (hg 6 _ p6 rfl rfl);obtain⟨x7,rfl,w7⟩:=gdL (k:=4) underlying34 YD (λh=>cN h) (hg 7 _ p7 rfl rfl);obtain⟨x8,rfl,w8⟩:=gdL (k:=3) underlying35 YD (λh=>cM h) (hg 8 _ p8 rfl rfl);obtain⟨x9,rfl,w9⟩:=gdL (k:=4) underlying36 YD (λh=>zEZ h) (hg 9 _ p9 rfl rfl);exact⟨⟨x0,x1,x2,x3,x4,x5,x6,x7,x8,x9⟩,rfl,w0,w1,w2,w3,w4,w5,w6,w7,w8,w9⟩
def Em(x:za):Prop:=(wS) x.Name/\(wS) x.Super/\(wT) x.Interface/\(wL (wS)) x.Impl/\(wL (wX)) x.Fields/\(wL (uC)) x.Methods
theorem zDf(h:ZF prog (n+7) 26 V5):∃x:za,V5=zf x/\Em x:=by
 obtain⟨parts,rfl,hl,hg⟩:=ML underlying26 h
 match parts,hl with
 |[p0,p1,p2,p3,p4,p5],_ =>
  obtain⟨x0,rfl,w0⟩:=L6 underlying9 (hg 0 _ p0 rfl rfl);obtain⟨x1,rfl,w1⟩:=L6 underlying9 (hg 1 _ p1 rfl rfl);obtain⟨x2,rfl,w2⟩:=gdB underlying4 (hg 2 _ p2 rfl rfl);obtain⟨x3,rfl,w3⟩:=gdL (k:=1) underlying22 YD (λh=>L6 underlying9 h) (hg 3 _ p3 rfl rfl);obtain⟨x4,rfl,w4⟩:=gdL (k:=3) underlying23 YD (λh=>zDh h) (hg 4 _ p4 rfl rfl);obtain⟨x5,rfl,w5⟩:=gdL (k:=10) underlying24 YD (λh=>zAu h) (hg 5 _ p5 rfl rfl);exact⟨⟨x0,x1,x2,x3,x4,x5⟩,rfl,w0,w1,w2,w3,w4,w5⟩
structure zG where
  L:Vr
def Kx(x:zG):Vt:=[cL x.L]
def lz(a:Vr):Option ((Vr)):=some a
def kx(c:Vr)(d:Int)(e:T0)(a:T0):zL ((Vr)×Int) ((Vr)) ((Vr)):=(Xu 112 c ([(za.mk e a false [] [] [])])).bind λb=>some (.inl (b,(i64.wrap (d+1))))
def ky(b:Vr)(a:Int)(c:T0)(d:T0):zL ((Vr)×Int) ((Vr)) ((Vr)):=cond (a==1) (kx b a c [79,98,106,101,99,116]) (kx b a c d)
def ly(b:Vr)(a:Int):zL ((Vr)×Int) ((Vr)) ((Vr)):=cond (decide (a<((length (KS)):Int))) ((idx (KS) a).bind λc=>cond (a==0) (ky b a c []) (ky b a c [84,104,114,111,119,110])) (some (.inr (.inl b)))
def uG:Option ((Vr)):=(zk (λz=>ly z.1 z.2) ([],0)).bind λo=>zE o (λb=>lz b) some
theorem lx{r:(Vr)}(h:uG=some r):VE 110 [] [] (.msl 0 0 (length r)) [.many 6 (map zf r)]:=by
 refine⟨⟨Xo (sz:=6) (λ_=>y),t⟩,zK func110 y kz y ?_⟩;refine A ?_;refine rg y<|u<|sx [] (lB y)<|zw (VC:=[(5,.msl 0 0 (length (KS)))]) (VJ:=[sT (KS)]) (zl [0])<|A ?_;refine A ?_;refine ze<|A ?_;obtain⟨o,ho,h⟩:=bs h;refine F7 ho (λz=>[(1,.msl 0 0 (length (KS))),(2,.msl 1 0 (length z.1)),(3,iA z.2)]) (λz=>[sT (KS),some (6,map zf z.1)]) (λb=>[(2,.msl 0 0 (length b))]) (λb=>[some (6,map zf b)]) (pF f110 (λr=>.msl 0 0 (length r)) λr=>[some (6,map zf r)]) ⟨[0,.fresh 6],cv y (.msl y)<|cv y (.nilown y)<|ce y y<|cn,y,⟨⟨_,y,XL (λ_=>y)⟩,w,t⟩,y,k⟩ ?_ ?_
 .rintro⟨a,d⟩ r h;refine ze<|A ?_;apply Xa h y<;>intro f h
  .refine zc<|ze<|zg ?_;obtain⟨c,q,h⟩:=bs h;refine A ?_;refine zY (X:=T0) (λz=>[(1,.msl 0 0 (length (KS))),(2,.msl 1 0 (length a)),(3,iA d),(4,Vj)]) (λz=>[sT (KS),some (6,map zf a),some (6,[[sA c,sA z,bA false,nS,nS,nS]])]) (λz=>ky a d c z=some r) ?_ ?_
   .refine A ?_;apply Xa h y<;>intro i h;.refine A ?_;exact(⟨[],h,zl [0,1,2]⟩)
    apply zc;exact⟨[84,104,114,111,119,110],h,zl [0,1,2]⟩
   rintro j h;refine zY (X:=T0) (λz=>[(1,.msl 0 0 (length (KS))),(2,.msl 1 0 (length a)),(3,iA d),(4,Vj)]) (λz=>[sT (KS),some (6,map zf a),some (6,[[sA c,sA z,bA false,nS,nS,nS]])]) (λz=>kx a d c z=some r) ?_ ?_
   .refine A ?_;apply Xa h y<;>intro l h;.refine A ?_;exact(⟨[79,98,106,101,99,116],h,zl [0,1,2]⟩)
    apply zc;exact⟨j,h,zl [0,1,2]⟩
   rintro e h;obtain⟨n,m,h⟩:=bs h;refine A ?_;refine zw (VC:=[(1,.msl 0 0 (length (KS))),(3,iA d),(23,.msl 1 0 (length a)),(25,.msl 2 0 (length ([(za.mk c e false [] [] [])])))]) (VJ:=[sT (KS),some (6,map zf a),some (6,map zf ([(za.mk c e false [] [] [])]))]) (zl [0,1,3])<|u<|Lo 3 ti y ti y y YB ti y y y y (Mx y) (λ_=>y) y m<|A ?_;refine A ?_;cases h;exact⟨_,y,zl [0,3]⟩
  apply zr;cases h;exact⟨y,_,y,zl [1]⟩
 rintro p rfl;refine zm<|A ?_;exact LP
def eL:Option (Int):=some (-1)
def T8(b:Vr)(c:T0)(a:Int):zL (Int) (Unit) (Int):=cond (decide (a<(length b:Int))) ((idx b a).bind λd=>cond (d.Name==c) (some (.inr (.inr a))) (some (.inl (i64.wrap (a+1))))) (some (.inr (.inl ())))
def zR(a:Vr)(c:T0):Option (Int):=(zk (λz=>T8 a c z) 0).bind λo=>zE o (λb=>eL) some
theorem BW(a:Vr)(c:T0){r:Int}(h:zR a c=some r):VD 56 [.ipt 1 [[cL a]] 0 0,sA c] (iA r):=by
 refine zi func56 y kz y y<|A ?_;refine ze<|A ?_;obtain⟨o,ho,h⟩:=bs h;refine F7 ho (λz=>[(0,.ipt 1 [[cL a]] 0 0),(1,sA c),(5,iA z)]) (λz=>[]) (λb=>[]) (λb=>[]) (pG f56 iA) (z6 []) ?_ ?_
 .rintro f r h;refine ze<|A ?_;apply Xa h y<;>intro d h
  .refine zc<|ze<|zg ?_;obtain⟨i,j,h⟩:=bs h;refine A ?_;apply Xa h y<;>intro e h
   .refine A ?_;apply zA;cases h;exact⟨_,y,_,y,Xb []⟩
   refine zc<|A ?_;exact LB
  exact Ll
 rintro⟨⟩ rfl;refine zm<|A ?_;exact F4
instance :VF 56 [.ipt 1 [[cL a]] 0 0,sA b] (zR a b) iA:=⟨λ_=>BW a b⟩
def nr(c:Int)(a:List Bool):Option (Bool):=(idx a c).bind λb=>some b
def iI(a:List Bool)(b:Bool):zL ((List Bool)×Bool×Bool) ((List Bool)) (Bool):=some (.inl (a,b,false))
def Az(a:Int)(b:List Bool)(c:Bool):zL ((List Bool)×Bool×Int) ((List Bool)×Bool) (Bool):=some (.inl (b,c,(i64.wrap (a+1))))
def AL(a:Int)(b:List Bool)(c:Bool):zL ((List Bool)×Bool×Int) ((List Bool)×Bool) (Bool):=Az a b c
def AA(a:Int)(b:List Bool)(c:Bool):zL ((List Bool)×Bool×Int) ((List Bool)×Bool) (Bool):=some (.inl (b,c,(i64.wrap (a+1))))
def IW(l:Vr)(d:T1)(a:List Bool)(e:Bool)(b:Int):zL ((List Bool)×Bool×Int) ((List Bool)×Bool) (Bool):=cond (decide (b<((length d):Int))) ((idx d b).bind λf=>(zR l f).bind λc=>(cond (decide (0<=c)) ((idx a c).bind λi=>some (!i)) (some false)).bind λj=>cond j ((idx a c).bind λm=>AA b (List.set a (Int.toNat c) true) true) (AA b a e)) (some (.inr (.inl (a,e))))
def Oe(e:Vr)(n:Int)(m:Bool)(c:List Bool)(d:Bool)(a:Int):zL ((List Bool)×Bool×Int) ((List Bool)×Bool) (Bool):=cond (decide (a<(length e:Int))) ((idx c a).bind λf=>cond ((!f)&&(!(m&&(a==n)))) (Az a c d) ((idx e a).bind λi=>(idx e a).bind λj=>(Xu 16 [i.Super] j.Impl).bind λl=>(zk (λz=>IW e l z.1 z.2.1 z.2.2) (c,d,0)).bind λo=>zE o (λb=>AL a b.1 b.2) (λr=>some (.inr (.inr r))))) (some (.inr (.inl (c,d))))
def Od(e:Vr)(f:Int)(a:List Bool)(c:Bool)(d:Bool):zL ((List Bool)×Bool×Bool) ((List Bool)) (Bool):=cond c ((zk (λz=>Oe e f d z.1 z.2.1 z.2.2) (a,false,0)).bind λo=>zE o (λb=>iI b.1 b.2) (λr=>some (.inr (.inr r)))) (some (.inr (.inl a)))
def PN(a:Vr)(c:Int):Option (Bool):=(Mj 1 (length a:Int)).bind λd=>(zk (λz=>Od a c z.1 z.2.1 z.2.2) ((List.replicate d false),true,true)).bind λo=>zE o (λb=>nr c b) some
theorem ik(a:Vr)(i:Int)(h:PN a i=some r):VD 112 [.ipt 1 [[cL a]] 0 0,iA i] (bA r):=by
 refine zi func112 y kz y y<|A ?_;obtain⟨v3,M,h⟩:=bs h;refine A ?_;refine u<|wB (f:=rB) (z:=false) 0 ti y ti y y y y y y M<|A ?_;refine ze<|A ?_;obtain⟨o,ho,h⟩:=bs h;refine F7 ho (λz=>[(0,.ipt 1 [[cL a]] 0 0),(1,iA i),(5,.msl 0 0 (length z.1)),(6,bA z.2.1),(7,bA z.2.2)]) (λz=>[some (1,map rB z.1)]) (λb=>[(1,iA i),(5,.msl 0 0 (length b))]) (λb=>[some (1,map rB b)]) (pG f112 bA) (z6 [0]) ?_ ?_
 .rintro⟨v71,v72,e⟩ r h;refine ze<|A ?_;apply Xa h y<;>intro C h
  .refine zc<|ze<|zg<|A ?_;refine A ?_;obtain⟨o,ho,h⟩:=bs h;refine LG ho (λz=>[(0,.ipt 1 [[cL a]] 0 0),(1,iA i),(5,.msl 0 0 (length z.1)),(6,bA z.2.1),(7,bA e),(8,iA z.2.2)]) (λz=>[some (1,map rB z.1)]) (λb=>[(0,.ipt 1 [[cL a]] 0 0),(1,iA i),(5,.msl 0 0 (length b.1)),(6,bA b.2)]) (λb=>[some (1,map rB b.1)]) (pG f112 bA) (z6 [0]) ?_ ?_ ?_
   .rintro⟨m,p,c⟩ r h;refine ze<|A ?_;apply Xa h y<;>intro D h
    .apply zc;refine zY (X:=(List Bool)×Bool) (λz=>[(0,.ipt 1 [[cL a]] 0 0),(1,iA i),(5,.msl 0 0 (length z.1)),(6,bA z.2),(7,bA e),(8,iA c)]) (λz=>[some (1,map rB z.1)]) (λz=>Az c z.1 z.2=some r) ?_ ?_
     .refine zg<|ze ?_;obtain⟨N,q74,h⟩:=bs h;refine A ?_;apply Xa h y<;>intro E h
      .apply zr;exact⟨⟨m,p⟩,h,zl [0]⟩
      apply zc;obtain⟨q,n,F,j,d,K,h⟩:=LA h;refine Lc [(0,.ipt 1 [[cL a]] 0 0),(1,iA i),(5,.msl 0 0 (length m)),(6,bA p),(7,bA e),(8,iA c),(9,.msl 1 0 (length d))] [some (1,map rB m),sT d] [8,17] [16,15,14,13,12,11,10,9,7,6,5,4,3,2,1,0] [(58,tL F.Impl),(57,.ipt 6 (map zf a) (Int.toNat c) 3),(56,.ipt 6 (map zf a) (Int.toNat c) 0),(55,iA c),(54,cL a),(53,.ipt 1 [[cL a]] 0 0),(52,.ipt 1 [[cL a]] 0 0),(51,.ipt 1 [[cL a]] 0 0),(49,sA q.Super),(48,.ipt 6 (map zf a) (Int.toNat c) 1),(47,.ipt 6 (map zf a) (Int.toNat c) 0),(46,iA c),(45,cL a),(44,.ipt 1 [[cL a]] 0 0),(43,.ipt 1 [[cL a]] 0 0),(42,.ipt 1 [[cL a]] 0 0)] 2 (Z1 ⟨(pb y (Lt ti y (zT j).2.2 y w)),(pb y (fa ti y y y w)),(pb y (Lp ti y ti y y y j w)),pe,(pb y (ld ti y y w)),(pb y (fa ti y y y w)),pe,pe,(pb y (Lt ti y (zT n).2.2 y w)),(pb y (fa ti y y y w)),(pb y (Lp ti y ti y y y n w)),pe,(pb y (ld ti y y w)),(pb y (fa ti y y y w)),pe,pe,t⟩ ⟨(λ_ _=>⟨_,y,y,bl 1 ti y ti y YB YB y y y<|⟨(.msl 1 0 1),[],[(50,.msl 1 0 1)],y,y,kz,y,Z1 ⟨(pb y (Lt ti y (zT j).2.2 y w)),(pb y (fa ti y y y w)),(pb y (Lp ti y ti y y y j w)),pe,(pb y (ld ti y y w)),(pb y (fa ti y y y w)),pe,pe,pe,(pb y (fa ti y y y w)),(pb y (Lp ti y ti y y y n w)),pe,(pb y (ld ti y y w)),(pb y (fa ti y y y w)),pe,pe,t⟩ ⟨nv,(λ_ _=>⟨_,y,y,Lo (l:=[q.Super]) (f:=Xe) 2 ti y ti y y YB ti y y y y Mc (λ_=>y) y K<|⟨(.msl 2 0 (length d)),[18],[(9,.msl 2 0 (length d)),(59,.msl 2 0 (length d))],y,y,kz,y,U5 ⟨pe,pe,(pb y (fa ti y y y w)),(pb y (Lp ti y ti y y y j w)),pe,(pb y (ld ti y y w)),(pb y (fa ti y y y w)),pe,pe,pe,(pb y (fa ti y y y w)),(pb y (Lp ti y ti y y y n w)),pe,(pb y (ld ti y y w)),(pb y (fa ti y y y w)),pe,pe,t⟩ (zl [0,2])⟩⟩),t⟩⟩⟩),nw,t⟩) ?_;refine A ?_;obtain⟨o,ho,h⟩:=bs h;refine LG ho (λz=>[(0,.ipt 1 [[cL a]] 0 0),(1,iA i),(5,.msl 0 0 (length z.1)),(6,bA z.2.1),(7,bA e),(8,iA c),(9,.msl 1 0 (length d)),(10,iA z.2.2)]) (λz=>[some (1,map rB z.1),sT d]) (λb=>[(0,.ipt 1 [[cL a]] 0 0),(1,iA i),(5,.msl 0 0 (length b.1)),(6,bA b.2),(7,bA e),(8,iA c)]) (λb=>[some (1,map rB b.1)]) (pG f112 bA) (z6 [0,1]) ?_ ?_ ?_
      .rintro⟨s,G,v⟩ r h;refine ze<|A ?_;apply Xa h y<;>intro H h
       .apply zc;refine zY (X:=(List Bool)×Bool) (λz=>[(0,.ipt 1 [[cL a]] 0 0),(1,iA i),(5,.msl 0 0 (length z.1)),(6,bA z.2),(7,bA e),(8,iA c),(9,.msl 1 0 (length d)),(10,iA v)]) (λz=>[some (1,map rB z.1),sT d]) (λz=>AA v z.1 z.2=some r) ?_ ?_
        .apply zg;obtain⟨O,q90,I,q91,h⟩:=F6 h;refine A ?_;obtain⟨P,q94,h⟩:=bs h;refine A ?_;apply Xa h y<;>intro J h;.obtain⟨Q,L,h⟩:=bs h;refine A ?_;refine u<|W4 (c':=true) ti y y (zT L).2.2 y y y y y<|A ?_;exact(⟨⟨(List.set s (Int.toNat I) true),true⟩,h,[0,1],ce y y<|ce y y<|cv y (HX (by simp) y)<|ce y y<|ce y y<|ce y y<|cv y (.msl y)<|ce y y<|cn,y,⟨⟨_,y,XL (λ_=>y)⟩,⟨_,y,XL (λ_=>y)⟩,t⟩,y,k⟩)
         apply zc;exact⟨⟨s,G⟩,h,zl [0,1]⟩
        rintro⟨R,S⟩ h;refine A ?_;exact LH
       exact Lv
      .rintro⟨x,B⟩ rfl;replace h:AL c x B=some r:=h;unfold AL at h;apply zm;exact⟨⟨x,B⟩,h,zl [0]⟩
      rintro r' rfl env st hp;cases h;exact⟨_,y,hp⟩
     rintro⟨T,U⟩ h;refine A ?_;exact LC
    exact Lv
   .rintro⟨V,W⟩ rfl;refine zm<|A ?_;exact LC
   rintro r' rfl env st hp;cases h;exact⟨_,y,hp⟩
  exact Lv
 rintro Y rfl;apply zm;obtain⟨Z,q97,h⟩:=bs h;refine A ?_;exact F4
instance :VF 112 [.ipt 1 [[cL a]] 0 0,iA i] (PN a i) bA:=⟨λ_=>ik a i⟩
def lr(a:Vr):Option ((Option zG)×Int):=some ((some (zG.mk a)),0)
def oS(a:Int)(b:Bool):zL (Int) (Unit) ((Option zG)×Int):=cond b (some (.inr (.inr (none,1)))) (some (.inl (i64.wrap (a+1))))
def Dr(b:Vr)(c:za)(d:Bool)(a:Int):zL (Bool×Int) (Bool) ((Option zG)×Int):=cond (decide (a<(length c.Impl:Int))) (cond d (some (.inl (true,(i64.wrap (a+1))))) ((idx c.Impl a).bind λe=>(zR b e).bind λf=>(idx b f).bind λi=>some (.inl ((!i.Interface),(i64.wrap (a+1)))))) (some (.inr (.inl d)))
def Tq(a:Vr)(c:Int)(d:za)(e:Bool):zL (Int) (Unit) ((Option zG)×Int):=(zk (λz=>Dr a d z.1 z.2) (e,0)).bind λo=>zE o (λb=>oS c b) (λr=>some (.inr (.inr r)))
def EI(a:Vr)(b:Int):zL (Int) (Unit) ((Option zG)×Int):=cond (decide (b<((length a):Int))) ((idx a b).bind λc=>(zR a c.Super).bind λd=>(idx a d).bind λe=>cond e.Interface (Tq a b c true) ((PN a b).bind λf=>Tq a b c f)) (some (.inr (.inl ())))
def ov(a:Vr):Option ((Option zG)×Int):=(zk (λz=>EI a z) 1).bind λo=>zE o (λb=>lr a) some
def ow(a:Int):zL (Int) (Unit) ((Option zG)×Int):=some (.inl (i64.wrap (a+1)))
def EU(c:Vr)(b:za)(a:Int):zL (Int) (Unit) ((Option zG)×Int):=cond (decide (a<(length b.Impl:Int))) ((idx b.Impl a).bind λd=>(zR c d).bind λe=>cond (decide (e<0)) (some (.inr (.inr (none,4)))) (some (.inl (i64.wrap (a+1))))) (some (.inr (.inl ())))
def ET(a:Vr)(c:Int):zL (Int) (Unit) ((Option zG)×Int):=cond (decide (c<((length a):Int))) ((idx a c).bind λd=>(zR a d.Super).bind λe=>cond (decide (e<0)) (some (.inr (.inr (none,4)))) ((zk (λz=>EU a d z) 0).bind λo=>zE o (λb=>ow c) (λr=>some (.inr (.inr r))))) (some (.inr (.inl ())))
def ox(a:Vr):Option ((Option zG)×Int):=(zk (λz=>ET a z) 1).bind λo=>zE o (λb=>ov a) some
def Dq(c:Vr)(b:Vr)(a:Int):zL ((Vr)×Int) ((Vr)) ((Option zG)×Int):=cond (decide (a<(length c:Int))) ((idx c a).bind λd=>(TV d).bind λe=>(cond (!e) (some true) ((idx c a).bind λf=>(zR b f.Name).bind λi=>some (decide (0<=i)))).bind λj=>cond j (some (.inr (.inr (none,1)))) ((idx c a).bind λl=>(Xu 112 b [l]).bind λm=>some (.inl (m,(i64.wrap (a+1)))))) (some (.inr (.inl b)))
def Sy(a:Vr):Option ((Option zG)×Int):=cond (decide (16<(length a:Int))) (some (none,3)) ((uG).bind λc=>(zk (λz=>Dq a z.1 z.2) (c,0)).bind λo=>zE o (λb=>ox b) some)
instance :VF 27 [cL a] (Sy a) (λr=>(.tup [Xz 1 Kx r.1,iA r.2])):=⟨λr h=>by
 refine zi func27 y kz y (xi (Kk (Zo (λ_=>y)) (y))) ?_;refine A ?_;refine ze<|A ?_;apply Xa h y<;>intro N h
 .refine A ?_;exact F4
 apply zc;obtain⟨O,q2,h⟩:=bs h;refine rg y<|u<|sx [] (lx q2)<|zw (VC:=[(0,cL a),(16,.msl 0 0 (length O))]) (VJ:=[some (6,map zf O)]) (zl [0])<|A ?_;refine ze<|A ?_;obtain⟨o,ho,h⟩:=bs h;refine F7 ho (λz=>[(0,cL a),(4,Vg),(5,iA z.2)]) (λz=>[some (1,[[.msl 1 0 (length z.1)]]),some (6,map zf z.1)]) (λb=>[(4,Vg)]) (λb=>[some (1,[[.msl 1 0 (length b)]]),some (6,map zf b)]) (pG f27 (λr=>.tup [Xz 1 Kx r.1,iA r.2])) (z6 [1,0]) ?_ ?_
 .rintro⟨P,v13⟩ r h;refine ze<|A ?_;apply Xa h y<;>intro E h
  .refine zc<|ze<|zg<|ze ?_;obtain⟨v14,q14,v15,q15,Q,e,h⟩:=LA h;refine A ?_;refine Uj (x:=Q) (j:=6) 8 y y y y y Lr (λd=>by replace e:=bF d e;obtain⟨R,q,e⟩:=bs e;obtain⟨v17,S,e⟩:=bs e;obtain rfl:=sm e;exact g y d<|mv y<|g y d<|mv y<|g y d<|mv y<|g y d<|Lp ti y ti y y y q<|g y d<|fa ti y y y<|g y d<|Lt ti y (zT q).2.2 y<|g y d<|Lj (BW P R.Name S) y y (.cons (XC y ⟨(XU y (λ_=>y)),t⟩) (.cons (si y) .nil)) Xx<|g y d<|geq ti y y<|zx (eg [32,33,34,35,36,37,38,39] 8 y y y y)) (λhb=>(sm (bT hb e)).symm)<|zx ?_;apply Xa h y<;>intro F h
   .refine A ?_;apply zA;cases h;exact⟨_,y,_,y,Xb []⟩
   apply zc;obtain⟨T,q21,p,U,h⟩:=F6 h;refine XA [(0,_),(4,_),(5,_)] [some (1,[[.msl 1 0 (length p)]]),some (6,map zf p)] [9,10,13] Y1 [(49,_),(48,_),(47,_),(46,_),(45,_),(44,_),(43,_),(42,_),(41,_)] 3 (Xd (z:=by exact⟨(λ_ _=>⟨_,y,y,bl 2 ti y ti y YB YB y y y<|⟨(.msl 2 0 1),[],[(50,_)],y,y,y,y,Xd (z:=by exact⟨nv,(λ_ _=>⟨_,y,y,Lo 3 ti y ti y y YB ti y y y y (Lx (f:=zf) (z:=[T]) y y) (λ_=>y) y U<|⟨(.msl 3 0 (length p)),[11,12],[(53,_),(52,_),(51,_)],y,y,y,y,Xd (z:=by exact⟨nv,nv,(λ_ _=>⟨_,y,y,La ti y y y<|⟨.any,[],[],y,y,y,t,Xg (z:=z6 [0,3])⟩⟩),t⟩)⟩⟩),nw,t⟩)⟩⟩),nw,nw,t⟩)) ?_;refine A ?_;exact LH
  exact LW
 rintro c rfl;refine zm<|ze<|A ?_;obtain⟨o,ho,h⟩:=bs h;refine F7 ho (λz=>[(4,Vg),(6,iA z)]) (λz=>[some (1,[[.msl 1 0 (length c)]]),some (6,map zf c)]) (λb=>[(4,Vg)]) (λb=>[some (1,[[.msl 1 0 (length c)]]),some (6,map zf c)]) (pG f27 (λr=>.tup [Xz 1 Kx r.1,iA r.2])) (z6 [0,1]) ?_ ?_
 .rintro s r h;refine ze<|A ?_;apply Xa h y<;>intro G h
  .refine zc<|ze<|zg ?_;obtain⟨v,q36,h⟩:=bs h;refine A ?_;apply ze;obtain⟨v33,V,h⟩:=bs h;refine A ?_;refine u<|Lj (BW c v.Super V) y y (.cons (XC y ⟨(XU y (λ_=>y)),t⟩) (.cons (si y) .nil)) Xx<|A ?_;apply Xa h y<;>intro H h
   .refine A ?_;apply zA;cases h;exact⟨_,y,_,y,Xb []⟩
   refine zc<|A ?_;obtain⟨o,ho,h⟩:=bs h;refine LG ho (λz=>[(4,Vg),(6,iA s),(7,Vj),(8,iA z)]) (λz=>[some (1,[[.msl 1 0 (length c)]]),some (6,map zf c),some (6,[(zf v)])]) (λb=>[(4,Vg),(6,iA s)]) (λb=>[some (1,[[.msl 1 0 (length c)]]),some (6,map zf c)]) (pG f27 (λr=>.tup [Xz 1 Kx r.1,iA r.2])) (z6 [0,1,2]) ?_ ?_ ?_
   .rintro v37 r h;refine ze<|A ?_;apply Xa h y<;>intro I h
    .refine zc<|ze<|zg ?_;obtain⟨W,q44,v39,Y,h⟩:=F6 h;refine A ?_;refine u<|Lj (BW c W Y) y y (.cons (XC y ⟨(XU y (λ_=>y)),t⟩) (.cons (si y) .nil)) Xx<|A ?_;apply Xa h y<;>intro J h
     .refine A ?_;apply zA;cases h;exact⟨_,y,_,y,Xb []⟩
     refine zc<|A ?_;exact Mh
    exact LW
   .rintro⟨⟩ rfl;refine zm<|A ?_;exact LH
   rintro r' rfl env st hp;cases h;exact⟨_,y,hp⟩
  exact LW
 rintro⟨⟩ rfl;refine zm<|ze<|A ?_;obtain⟨o,ho,h⟩:=bs h;refine F7 ho (λz=>[(4,Vg),(9,iA z)]) (λz=>[some (1,[[.msl 1 0 (length c)]]),some (6,map zf c)]) (λb=>[(4,Vg)]) (λb=>[some (1,[[.msl 1 0 (length c)]]),some (6,map zf c)]) (pG f27 (λr=>.tup [Xz 1 Kx r.1,iA r.2])) (z6 [0,1]) ?_ ?_
 .rintro n r h;refine ze<|A ?_;apply Xa h y<;>intro K h
  .refine zc<|ze<|zg ?_;obtain⟨i,q65,h⟩:=bs h;refine A ?_;refine zY (X:=Bool) (λz=>[(4,Vg),(9,iA n),(10,Vj),(11,bA z)]) (λz=>[some (1,[[.msl 1 0 (length c)]]),some (6,map zf c),some (6,[(zf i)])]) (λz=>Tq c n i z=some r) ?_ ?_
   .obtain⟨v59,B,C,q67,h⟩:=F6 h
    rcases bb C.Interface with l|l
    .replace h:=bT l h;exact LU [] Y5 [(11,_),(121,_),(120,_),(119,_),(118,_),(117,_),(116,_),(115,_),(114,_),(113,_),(112,_),(111,_),(110,_),(109,_),(108,_),(107,_),(106,_)] 0 (Xg ⟨F1,F1,F1,F1,F1,F1,F1,(by exact pb y (Lj (BW c i.Super B) y y (.cons (XC y ⟨(XU y (λ_=>y)),t⟩) (.cons (si y) .nil)) Xx<|w)),F1,F1,F1,F1,F1,F1,F1,F1,F1,t⟩ (by exact⟨true,h,z6 [0,1,2]⟩))
    replace h:=bF l h;obtain⟨Z,q69,h⟩:=bs h;exact LU [] Y5 [(11,_),(121,_),(120,_),(119,_),(118,_),(117,_),(116,_),(115,_),(114,_),(113,_),(112,_),(111,_),(110,_),(109,_),(108,_),(107,_),(106,_)] 0 (Xg ⟨F1,F1,F1,F1,F1,F1,F1,(by exact pb y (Lj (BW c i.Super B) y y (.cons (XC y ⟨(XU y (λ_=>y)),t⟩) (.cons (si y) .nil)) Xx<|w)),F1,F1,F1,F1,F1,F1,(by exact λ_=>Le (b:=C.Interface) y y y y l y (Lj (ik c n q69) y y (.cons (XC y ⟨(XU y (λ_=>y)),t⟩) (.cons (si y) .nil)) Xx<|w)),F1,F1,t⟩ (by exact⟨Z,h,z6 [0,1,2]⟩))
   rintro v62 h;refine ze<|A ?_;obtain⟨o,ho,h⟩:=bs h;refine LG ho (λz=>[(4,Vg),(9,iA n),(10,Vj),(11,bA z.1),(12,iA z.2)]) (λz=>[some (1,[[.msl 1 0 (length c)]]),some (6,map zf c),some (6,[(zf i)])]) (λb=>[(4,Vg),(9,iA n),(11,bA b)]) (λb=>[some (1,[[.msl 1 0 (length c)]]),some (6,map zf c)]) (pG f27 (λr=>.tup [Xz 1 Kx r.1,iA r.2])) (z6 [0,1,2]) ?_ ?_ ?_
   .rintro⟨D,v69⟩ r h;refine ze<|A ?_;apply Xa h y<;>intro L h
    .refine zc<|ze<|zg ?_
     rcases bb D with m|m
     .replace h:=bT m h;refine XA [(4,_),(9,_),(10,_),(11,_),(12,_)] [some (1,[[.msl 1 0 (length c)]]),some (6,map zf c),some (6,[(zf i)])] [] Y6 [(11,_),(146,_),(145,_),(144,_),(143,_),(142,_),(141,_),(140,_),(139,_),(138,_),(137,_),(136,_),(135,_),(134,_),(133,_),(132,_),(131,_),(130,_),(129,_)] 0 (Xg (z:=z6 [0,1,2])) ?_;refine A ?_;exact Mh
     replace h:=bF m h;obtain⟨v70,q77,v71,q78,v72,q79,h⟩:=LA h;refine XA [(4,_),(9,_),(10,_),(11,_),(12,_)] [some (1,[[.msl 1 0 (length c)]]),some (6,map zf c),some (6,[(zf i)])] [] Y6 [(11,_),(146,_),(145,_),(144,_),(143,_),(142,_),(141,_),(140,_),(139,_),(138,_),(137,_),(136,_),(135,_),(134,_),(133,_),(132,_),(131,_),(130,_),(129,_)] 0 (Xg ⟨F1,F1,F1,F1,F1,F1,F1,F1,F1,F1,F1,F1,(by exact λ_=>Le (b:=D) y y y y m y (Lj (BW c v70 q78) y y (.cons (XC y ⟨(XU y (λ_=>y)),t⟩) (.cons (si y) .nil)) Xx<|w)),F1,F1,F1,F1,F1,F1,t⟩ (z6 [0,1,2])) ?_;refine A ?_;exact Mh
    exact LW
   .rintro v73 rfl;refine zm<|A ?_;apply Xa h y<;>intro M h
    .refine A ?_;apply zA;cases h;exact⟨_,y,_,y,Xb []⟩
    refine zc<|A ?_;exact LH
   rintro r' rfl env st hp;cases h;exact⟨_,y,hp⟩
  exact LW
 rintro⟨⟩ rfl;refine zm<|A ?_;apply zA;cases h
 exact⟨_,y,[],RM ⟨(fK y y ⟨(Gu y y (λ_=>y)),t⟩ y),(ci y),t⟩,y,t,y,k⟩⟩

end
end Go.Proofs.YthmnlfenkhmmhaaGreat
