/- ClosedTurn: for every input the law returns true, and each argument reads as it read before. No further condition. Part 2 of 8. -/
import Derived.Test.YthmnlfenkhmmhaaGreatTw1
namespace Go.Proofs.YthmnlfenkhmmhaaGreat
noncomputable section
open List (length map)
open IntKind (i64)
open Go.Proofs.Tryz
set_option linter.unusedSimpArgs false
set_option linter.unusedVariables false
set_option linter.unusedSectionVars false
variable [Flo]
inductive Rn(ρ:Nat->Option Nat):AV->AV->Prop
 |any (x):Rn ρ .any x
 |imm {x} (h:Imm x):Rn ρ x x
 |nilI {k:Nat}:Rn ρ (.isl k []) (.lit (.slice none 0 0))
 |nil0 {l l':Nat} (h:ρ l=some l'):Rn ρ (.msl l 0 0) (.lit (.slice none 0 0))
 |msl {l l' i n:Nat} (h:ρ l=some l'):Rn ρ (.msl l i n) (.msl l' i n)
 |mpt {l l' i j:Nat} (h:ρ l=some l'):Rn ρ (.mpt l i j) (.mpt l' i j)
 |mmp {l l':Nat} (h:ρ l=some l'):Rn ρ (.mmp l) (.mmp l')
 |agg {cs cs':List AV} (hl:cs.length=cs'.length) (hr:∀i (h:i<cs.length) (h':i<cs'.length),Rn ρ cs[i] cs'[i]):Rn ρ (.agg cs) (.agg cs')
 |tup {cs cs':List AV} (hl:cs.length=cs'.length) (hr:∀i (h:i<cs.length) (h':i<cs'.length),Rn ρ cs[i] cs'[i]):Rn ρ (.tup cs) (.tup cs')
 |fn {f:Fn} {cs cs' ds ds':List AV} (hl:cs.length=cs'.length) (hr:∀i (h:i<cs.length) (h':i<cs'.length),Rn ρ cs[i] cs'[i])
   (hl':ds.length=ds'.length) (hr':∀i (h:i<ds.length) (h':i<ds'.length),Rn ρ ds[i] ds'[i]):Rn ρ (.fn f cs ds) (.fn f cs' ds')
theorem Rn.v{ρ A m m' nb nb'}{w:World}(hm:∀l l',ρ l=some l'->m' l=m l'/\l<nb'){av0 av:AV}(h:Rn ρ av0 av):∀{v},V A m nb w av v->V A m' nb' w av0 v:=by
 induction h with
 |any x=>exact λ{v} _=>.imm (.any v)
 |imm h=>exact λ{v} hv=>.imm (h.vi hv)
 |nilI=>intro v hv;rw [hv.lit_inv];exact .imm (.inil _ _ _ (.inl rfl))
 |nil0 h =>
  intro v hv;rw [hv.lit_inv];exact .msl _ _ _ _ _ _ (hm _ _ h).2 λb hb=>⟨rfl,Qk _,.inl rfl⟩
 |msl h =>
  intro v hv;obtain ⟨hl,a,n',cap,rfl,hb⟩:=hv.msl_inv;obtain ⟨h1,h2⟩:=hm _ _ h;exact .msl _ _ _ _ _ _ h2 λb hb'=>hb b (h1 ▸ hb')
 |mpt h =>
  intro v hv;obtain ⟨hl,a,rfl,hb⟩:=hv.mpt_inv;obtain ⟨h1,h2⟩:=hm _ _ h;exact .mpt _ _ _ _ h2 λb hb'=>hb b (h1 ▸ hb')
 |mmp h =>
  intro v hv;obtain ⟨hl,a,rfl,hb⟩:=hv.mmp_inv;obtain ⟨h1,h2⟩:=hm _ _ h;exact .mmp _ _ h2 λb hb'=>hb b (h1 ▸ hb')
 |agg hl hr ih =>
  intro v hv;obtain ⟨a,rfl,h1,h2⟩:=hv.agg_inv;exact .agg _ _ (by omega) λi hi=>ih i hi (by omega) (h2 i (by omega))
 |tup hl hr ih =>
  intro v hv;obtain ⟨a,rfl,h1,h2⟩:=hv.tup_inv;exact .tup _ _ (by omega) λi hi=>ih i hi (by omega) (h2 i (by omega))
 |fn hl hr hl' hr' ih ih' =>
  intro v hv;obtain ⟨a,b,rfl,⟨h1,h2⟩,⟨h3,h4⟩⟩:=hv.fn_inv;exact .fn _ _ _ _ _ (by omega) (λi hi=>ih i hi (by omega) (h2 i (by omega))) (by omega) λi hi=>ih' i hi (by omega) (h4 i (by omega))
def U0(ρ:Nat->Option Nat)(els0 els:List (List AV)):Prop:=
 els0.length=els.length/\∀i (h:i<els0.length) (h':i<els.length),els0[i].length=els[i].length/\∀j (h1:j<els0[i].length) (h2:j<els[i].length),Rn ρ els0[i][j] els[i][j]
structure zFF(ρ:Nat->Option Nat)(st0 st:St):Prop where
 live:∀l l',ρ l=some l'->∃k els0 els,st0[l]?=some (some (k,els0))/\st[l']?=some (some (k,els))/\U0 ρ els0 els
 all:∀l k els0,st0[l]?=some (some (k,els0))->∃l',ρ l=some l'
 inj:∀l1 l2 x,ρ l1=some x->ρ l2=some x->l1=l2
theorem zFF.lt{ρ st0 st}(h:zFF ρ st0 st){l l'}(hl:ρ l=some l'):l<st0.length/\l'<st.length:=by
 obtain ⟨k,els0,els,h1,h2,_⟩:=h.live l l' hl;exact ⟨(Qb.1 h1).1,(Qb.1 h2).1⟩
theorem R.rn{ρ A m w st st0}(hR:R A m w st)(h:zFF ρ st0 st):R A (λl=>(ρ l).bind m) w st0:=by
 have hmm:∀l b,(ρ l).bind m=some b->∃l',ρ l=some l'/\m l'=some b:=λl b hb=>by
  cases hl:ρ l with
  |none=>rw [hl] at hb;cases hb
  |some l'=>rw [hl] at hb;exact ⟨l',rfl,hb⟩
 refine ⟨hR.aLow,λB q l b hA hb hh=>?_,hR.aFun,hR.nLe,λl b hb hh=>?_,λl1 l2 b1 b2 h1 h2 hh1 hh2 he=>?_,λl b hb=>?_,λl k els0 he=>?_⟩
 .obtain ⟨l',_,h2⟩:=hmm l b hb;exact hR.aOwn B q l' b hA h2 hh
 .obtain ⟨l',_,h2⟩:=hmm l b hb;exact hR.nOwn l' b h2 hh
 .obtain ⟨x1,k1,k2⟩:=hmm l1 b1 h1;obtain ⟨x2,k3,k4⟩:=hmm l2 b2 h2;have:=hR.inj x1 x2 b1 b2 k2 k4 hh1 hh2 he;subst this;exact h.inj l1 l2 x1 k1 k3
 .obtain ⟨l',h1,h2⟩:=hmm l b hb;obtain ⟨k,els0,els,h3,h4,_⟩:=h.live l l' h1;exact ⟨els0,by rw [h3];rw [(hR.at h2 h4).1]⟩
 .obtain ⟨l',h1⟩:=h.all l k els0 he;obtain ⟨k',els0',els,h3,h4,h5⟩:=h.live l l' h1;rw [he] at h3;cases h3;obtain ⟨b,h6,h7,h8,h9⟩:=hR.blk l' k els h4;refine ⟨b,by rw [h1];exact h6,h7,λhh=>?_,λhh=>?_⟩
  .exact (h8 hh).rel h5.1 λi hi hi'=>⟨(h5.2 i hi hi').1,λj hj hj' v hv=>((h5.2 i hi hi').2 j hj hj').v (λl l' hl=>⟨by rw [hl];rfl,(h.lt hl).1⟩) hv⟩
  .have:=h9 hh;subst this;exact Qf h5.1
theorem Xp.rn{ρ A m nb0 w A' m' nb' w' st0 st'}(h:zFF ρ st0 st')(hS:Xp A m nb0 w A' m' nb' w')(hid:∀l l',ρ l=some l'->l<nb0->l'=l)(hn:nb0≤st0.length):
  Xp A m nb0 w A' (λl=>(ρ l).bind m') st0.length w':=by
 refine ⟨hn,hS.size,hS.aSub,hS.aNew,λl hl=>?_,λl b hb hh=>?_,hS.heap,hS.os,hS.tape,hS.output⟩
 .cases hr:ρ l with
  |none=>exact .inr rfl
  |some l' =>
   have:=hid l l' hr hl;subst this;exact hS.mOld l' hl
 .cases hr:ρ l with
  |none=>simp [hr] at hb
  |some l'=>simp only [hr,Qa] at hb;exact hS.mNew l' b hb hh
def zBX(ρ:Nat->Option Nat):Ev->Ev->Prop
 | [],_=>True
 |(t,v0)::r,env=>(∃v,look env t=some v/\Rn ρ v0 v)/\zBX ρ r env
theorem zBX.get{ρ}:∀{env0 env:Ev},zBX ρ env0 env->∀t v0,look env0 t=some v0->∃v,look env t=some v/\Rn ρ v0 v
 | [],_,_,t,v0,h=>by cases h
 |(k,x)::r,env,h,t,v0,hl=>by
  simp only [look] at hl;split at hl
  .rename_i e;subst e;cases hl;exact h.1
  .exact zBX.get h.2 t v0 hl
mutual
def rn(τ:Nat->Nat):AV->AV
 |.msl l i n=>.msl (τ l) i n
 |.mpt l i j=>.mpt (τ l) i j
 |.agg cs=>.agg (rnL τ cs)
 |.tup cs=>.tup (rnL τ cs)
 |.fn f cs ds=>.fn f (rnL τ cs) (rnL τ ds)
 |.any=>.any
 |.lit v=>.lit v
 |.isl k els=>.isl k els
 |.ipt k els i j=>.ipt k els i j
 |.imp els=>.imp els
 |.mmp l=>.mmp (τ l)
 |.fr x=>.fr x
def rnL(τ:Nat->Nat):List AV->List AV
 | []=>[]
 |x ::l=>rn τ x ::rnL τ l
end
theorem UL(τ:Nat->Nat):∀l,rnL τ l=l.map (rn τ)
 | []=>rfl
 |x ::l=>by rw [rnL,Yq,UL τ l]
theorem zHz{τ:Nat->Nat}{A m m' nb nb'}{w:World}(hm:∀l,l<nb->m' (τ l)=m l/\τ l<nb'){av:AV}{v:Value}(h:V A m nb w av v):V A m' nb' w (rn τ av) v:=by
 have immv:∀{A0:Am} {w0:World} {av v},VI A0 w0 av v->V A0 m' nb' w0 (rn τ av) v:=λ{A0 w0 av v} h=>by
  induction h with
  |any v=>exact .imm (.any v)
  |lit v=>exact .imm (.lit v)
  |isl k els B o cap vs hA hcap hk hc hv _=>exact .imm (.isl k els B o cap vs hA hcap hk hc hv)
  |inil k a cap hN=>exact .imm (.inil k a cap hN)
  |fr av v h _=>exact .imm (.fr av v h)
  |ipt k els i j B o vs hA hk hc hv _=>exact .imm (.ipt k els i j B o vs hA hk hc hv)
  |imp els r es clock hA hh hs hk hv _=>exact .imm (.imp els r es clock hA hh hs hk hv)
  |agg cs a hs _ ih=>rw [rn,UL];exact .agg _ _ (by simpa using hs) λi hi=>by simpa using ih i (by simpa using hi)
  |tup cs a hs _ ih=>rw [rn,UL];exact .tup _ _ (by simpa using hs) λi hi=>by simpa using ih i (by simpa using hi)
  |fn f cs ds a b hs _ hs' _ ih ih'=>rw [rn,UL,UL];exact .fn _ _ _ _ _ (by simpa using hs) (λi hi=>by simpa using ih i (by simpa using hi)) (by simpa using hs') λi hi=>by simpa using ih' i (by simpa using hi)
 induction h with
 |imm h=>exact immv h
 |msl l i n a n' cap hl h=>exact .msl _ _ _ _ _ _ (hm l hl).2 λb hb=>h b ((hm l hl).1 ▸ hb)
 |mpt l i j a hl h=>exact .mpt _ _ _ _ (hm l hl).2 λb hb=>h b ((hm l hl).1 ▸ hb)
 |mmp l a hl h=>exact .mmp _ _ (hm l hl).2 λb hb=>h b ((hm l hl).1 ▸ hb)
 |agg cs a hs _ ih=>rw [rn,UL];exact .agg _ _ (by simpa using hs) λi hi=>by simpa using ih i (by simpa using hi)
 |tup cs a hs _ ih=>rw [rn,UL];exact .tup _ _ (by simpa using hs) λi hi=>by simpa using ih i (by simpa using hi)
 |fn f cs ds a b hs _ hs' _ ih ih'=>rw [rn,UL,UL];exact .fn _ _ _ _ _ (by simpa using hs) (λi hi=>by simpa using ih i (by simpa using hi)) (by simpa using hs') λi hi=>by simpa using ih' i (by simpa using hi)
def G5(τ:Nat->Nat)(els:List (List AV)):List (List AV):=els.map (rnL τ)
def K2(τ:Nat->Nat):Option (Nat×List (List AV))->Option (Nat×List (List AV))
 |some (k,els)=>some (k,G5 τ els)
 |none=>none
def tau(L:List Nat)(nb:Nat)(i:Nat):Nat:=
 match L[i]? with
 |some l=>l
 |none=>nb+(i-L.length)
def Gz(τ:Nat->Nat):St->List Nat->St->St
 |st,l ::L,b ::bs=>Gz τ (st.set l (K2 τ b)) L bs
 |st,_,_=>st
def Ue(L:List Nat)(st st':St):St:=
 Gz (tau L st.length) st L (st'.take L.length)++(st'.drop L.length).map (K2 (tau L st.length))
theorem OL(τ:Nat->Nat):∀(L:List Nat) (st bs:St),(Gz τ st L bs).length=st.length
 | [],_,bs=>by cases bs <;> rfl
 |l ::L,st,[]=>rfl
 |l ::L,st,b ::bs=>by rw [Gz,OL τ L];simp
theorem zqr(τ:Nat->Nat):∀(L:List Nat) (st bs:St) (x:Nat),L.Nodup->L.length=bs.length->(∀l∈L,l<st.length) ->
  (x ∉ L->(Gz τ st L bs)[x]?=st[x]?)/\∀i:Nat,L[i]?=some x->(Gz τ st L bs)[x]?=(bs[i]?).map (K2 τ)
 | [],st,bs,x,_,_,_=>⟨λ_=>by cases bs <;> rfl,λi h=>by simp at h⟩
 |l ::L,st,[],x,_,h,_=>by simp at h
 |l ::L,st,b ::bs,x,hn,hl,hlt=>by
  obtain ⟨hn1,hn2⟩:=Jp.1 hn;obtain ⟨h1,h2⟩:=zqr τ L (st.set l (K2 τ b)) bs x hn2 (by simpa using hl) (λy hy=>by simpa using hlt y (by simp [hy]));refine ⟨λhx=>?_,λi hi=>?_⟩
  .simp at hx;rw [Gz,h1 hx.2,QJ (Ne.symm hx.1)]
  .cases i with
   |zero =>
    simp at hi;subst hi;rw [Gz,h1 hn1,QP (hlt l (by simp))];rfl
   |succ i=>rw [Gz];simpa using h2 i (by simpa using hi)
theorem zwP{P:Program}{f:FuncId}{args args0:List AV}{st st0:St}{K0 K:AV->St->Prop}(h:Uv P f args0 st0 K0)(L:List Nat)(hL:L.length=st0.length)(hnd:L.Nodup)(hlt:∀l∈L,l<st.length)
  (ha:args0.length=args.length) (hargs:∀i (h:i<args0.length) (h':i<args.length),Rn (λi=>L[i]?) args0[i] args[i]) (hs:zFF (λi=>L[i]?) st0 st)
  (hk:∀av st',K0 av st'->K (rn (tau L st.length) av) (Ue L st st')):Uv P f args st K:=by
 refine ⟨h.1,λA m w vals hR hv=>?_⟩;have hR0:=hR.rn hs;refine (h.2 A _ w vals hR0 ⟨by rw [ha];exact hv.1,λi hi=>(hargs i hi (by omega)).v (λl l' hl=>⟨by rw [hl];rfl,(hs.lt hl).1⟩) (hv.2 i (by omega))⟩).mono λe w' ⟨v,A',m',st',av,he,hR',hS,hv',hK⟩=>?_;have hS0:=hS.nbLe
 have hLst:L.length≤st'.length:=by omega
 classical
 have hLlt:∀i l,L[i]?=some l->l<st.length:=λi l h=>hlt l (Qc h);obtain ⟨μ,hμ⟩:∃μ:BM,μ=λl=>if h:∃i:Nat,L[i]?=some l then m' h.choose else if l<st.length then m l else m' (L.length+(l-st.length)):=⟨_,rfl⟩
 have μ1:∀i l,L[i]?=some l->μ l=m' i:=λi l h=>by
  have hex:∃i:Nat,L[i]?=some l:=⟨i,h⟩;rw [hμ];simp only [dif_pos hex];rw [hs.inj hex.choose i l hex.choose_spec h]
 have μ2:∀l,(∀i,L[i]?≠some l)->l<st.length->μ l=m l:=λl h hl=>by
  have hex:¬∃i:Nat,L[i]?=some l:=λ⟨i,hi⟩=>h i hi;rw [hμ];simp only [dif_neg hex,if_pos hl]
 have μ3:∀l,st.length≤l->μ l=m' (L.length+(l-st.length)):=λl hl=>by
  have hex:¬∃i:Nat,L[i]?=some l:=λ⟨i,hi⟩=>by have:=hLlt i l hi;omega
  rw [hμ];simp only [dif_neg hex,if_neg (by omega:¬l<st.length)]
 have τ1:∀i l,L[i]?=some l->tau L st.length i=l:=λi l h=>by simp [tau,h]
 have τ2:∀i,L.length≤i->tau L st.length i=st.length+(i-L.length):=λi h=>by simp [tau,Jk h]
 have hlen:(Ue L st st').length=st.length+(st'.length-L.length):=by simp [Ue,OL]
 have hbs:L.length=(st'.take L.length).length:=by simp;omega
 have U1:∀i l,L[i]?=some l->(Ue L st st')[l]?=(st'[i]?).map (K2 (tau L st.length)):=λi l h=>by
  have hi:i<L.length:=(Qb.1 h).1;unfold Ue;rw [Qm (by rw [OL];exact hLlt i l h),(zqr _ L st _ l hnd hbs hlt).2 i h,Jy,if_pos hi]
 have U2:∀l,(∀i,L[i]?≠some l)->l<st.length->(Ue L st st')[l]?=st[l]?:=λl h hl=>by
  unfold Ue;rw [Qm (by rw [OL];exact hl),(zqr _ L st _ l hnd hbs hlt).1 λhm=>?_];obtain ⟨i,hi⟩:=List.getElem?_of_mem hm;exact h i hi
 have U3:∀l,st.length≤l->(Ue L st st')[l]?=(st'[L.length+(l-st.length)]?).map (K2 (tau L st.length)):=λl hl=>by
  unfold Ue;rw [Qs (by rw [OL];exact hl),OL,JU,Jz]
 have hmτ:∀i,i<st'.length->μ (tau L st.length i)=m' i/\tau L st.length i<(Ue L st st').length:=λi hi=>by
  rw [hlen];by_cases h1:i<L.length
  .have h2:=Qe h1;rw [τ1 i _ h2];exact ⟨μ1 i _ h2,by have:=hLlt i _ h2;omega⟩
  .rw [τ2 i (by omega)];refine ⟨by rw [μ3 _ (by omega)];congr 1;omega,by omega⟩
 have from_:∀l,l<(Ue L st st').length->(∃i,i<st'.length/\tau L st.length i=l/\μ l=m' i/\(Ue L st st')[l]?=(st'[i]?).map (K2 (tau L st.length))) ∨
   ((∀i:Nat,L[i]?≠some l)/\l<st.length/\μ l=m l/\(Ue L st st')[l]?=st[l]?):=λl hl=>by
  by_cases h1:∃i:Nat,L[i]?=some l
  .obtain ⟨i,hi⟩:=h1;have:i<L.length:=(Qb.1 hi).1;exact .inl ⟨i,by omega,τ1 i l hi,μ1 i l hi,U1 i l hi⟩
  .have h1':∀i:Nat,L[i]?≠some l:=λi hi=>h1 ⟨i,hi⟩;by_cases h2:l<st.length
   .exact .inr ⟨h1',h2,μ2 l h1' h2,U2 l h1' h2⟩
   .refine .inl ⟨L.length+(l-st.length),by omega,?_,μ3 l (by omega),U3 l (by omega)⟩;rw [τ2 _ (by omega)];omega
 have μlt:∀l b,μ l=some b->l<(Ue L st st').length:=λl b h=>by
  rw [hlen];by_cases h2:l<st.length
  .omega
  .rw [μ3 l (by omega)] at h;have:=hR'.lt h;omega
 have hown0:∀(i:Nat) (b:Blk),(L[i]?).bind m=some b->∃l,L[i]?=some l/\m l=some b:=λi b h=>by
  cases hl:L[i]? with
  |none=>rw [hl] at h;cases h
  |some l=>rw [hl] at h;exact ⟨l,rfl,h⟩
 have hSB:Xp A m st.length w A' μ (Ue L st st').length w':=by
  refine ⟨by omega,hS.size,hS.aSub,λB q hB=>(hS.aNew B q hB).imp id λh=>h.imp id λ⟨l0,b0,h4,h5,h6⟩=>(let ⟨x,_,h8⟩:=hown0 l0 b0 h4;⟨x,b0,h8,h5,h6⟩),λl hl=>?_,λl b hb hh=>?_,λB hB ho=>hS.heap B hB λi b hb hh=>?_,hS.os,hS.tape,hS.output⟩
  .by_cases h1:∃i:Nat,L[i]?=some l
   .obtain ⟨i,hi⟩:=h1
    have hi':i<st0.length:=by rw [<-hL];exact (Qb.1 hi).1
    rw [μ1 i l hi];have:=hS.mOld i hi';rw [hi] at this;exact this
   .exact .inl (μ2 l (λi hi=>h1 ⟨i,hi⟩) hl)
  .rcases from_ l (μlt l b hb) with ⟨i,_,_,h3,_⟩ |⟨_,_,h3,_⟩
   .rw [h3] at hb
    rcases hS.mNew i b hb hh with h4 |⟨l0,b0,h4,h5,h6⟩
    .exact .inl h4
    .obtain ⟨x,_,h7⟩:=hown0 l0 b0 h4;exact .inr ⟨x,b0,h7,h5,h6⟩
   .rw [h3] at hb;exact .inr ⟨l,b,hb,hh,rfl⟩
  .obtain ⟨x,_,h7⟩:=hown0 i b hb;exact ho x b h7 hh
 have hfr:∀(l:Nat) (b:Blk),(∀i:Nat,L[i]?≠some l)->m l=some b->b.has=true->∀(i:Nat) (b':Blk),m' i=some b'->b'.has=true->b'.B≠b.B:=λl b hnl hb hh i b' hb' hh' he=>by
  rcases hS.mNew i b' hb' hh' with h4 |⟨l0,b0,h4,h5,h6⟩
  .have:=hR.low hb hh;omega
  .obtain ⟨x,h7,h8⟩:=hown0 l0 b0 h4;have:=hR.inj x l b0 b h8 hb h5 hh (h6.trans he);subst this;exact hnl l0 h7
 have hrows:∀{els:List (List AV)} {i:Nat} (hi:i<(G5 (tau L st.length) els).length) (hi':i<els.length),(G5 (tau L st.length) els)[i]=els[i].map (rn (tau L st.length)):=λhi hi'=>by
  simp [G5,UL]
 refine ⟨v,A',μ,Ue L st st',rn (tau L st.length) av,he,⟨hR'.aLow,λB q0 l b hA hb hh=>?_,hR'.aFun,hR'.nLe,λl b hb hh=>?_,λl1 l2 b1 b2 h1 h2 hh1 hh2 hBB=>?_,λl b hb=>?_,λl k els hel=>?_⟩,hSB,zHz hmτ hv',hk av st' hK⟩
 .rcases from_ l (μlt l b hb) with ⟨i,_,_,h3,_⟩ |⟨_,_,h3,_⟩
  .rw [h3] at hb;exact hR'.aOwn B q0 i b hA hb hh
  .rw [h3] at hb;rename_i hnl _ _
   rcases hS.aNew B q0 hA with h4 |h4 |⟨l0,b0,h4,h5,h6⟩
   .exact hR.aOwn B q0 l b h4 hb hh
   .have:=hR.low hb hh;omega
   .obtain ⟨x,h7,h8⟩:=hown0 l0 b0 h4;intro he;have:=hR.inj x l b0 b h8 hb h5 hh (h6.trans he.symm);subst this;exact hnl l0 h7
 .rcases from_ l (μlt l b hb) with ⟨i,_,_,h3,_⟩ |⟨_,_,h3,_⟩
  .rw [h3] at hb;exact hR'.nOwn i b hb hh
  .rw [h3] at hb;exact hR.nOwn l b hb hh
 .rcases from_ l1 (μlt l1 b1 h1) with ⟨i1,_,e1,h3,_⟩ |⟨n1,_,h3,_⟩ <;> rcases from_ l2 (μlt l2 b2 h2) with ⟨i2,_,e2,h4,_⟩ |⟨n2,_,h4,_⟩ <;> rw [h3] at h1 <;> rw [h4] at h2
  .rw [<-e1,<-e2,hR'.inj i1 i2 b1 b2 h1 h2 hh1 hh2 hBB]
  .exact absurd hBB (hfr l2 b2 n2 h2 hh2 i1 b1 h1 hh1)
  .exact absurd hBB.symm (hfr l1 b1 n1 h1 hh1 i2 b2 h2 hh2)
  .exact hR.inj l1 l2 b1 b2 h1 h2 hh1 hh2 hBB
 .rcases from_ l (μlt l b hb) with ⟨i,_,_,h3,h4⟩ |⟨_,_,h3,h4⟩
  .rw [h3] at hb;obtain ⟨els,he'⟩:=hR'.live i b hb;exact ⟨G5 (tau L st.length) els,by rw [h4,he'];rfl⟩
  .rw [h3] at hb;obtain ⟨els,he'⟩:=hR.live l b hb;exact ⟨els,by rw [h4];exact he'⟩
 .rcases from_ l (Qb.1 hel).1 with ⟨i,_,_,h3,h4⟩ |⟨hn1,_,h3,h4⟩
  .rw [h4] at hel
   cases hi:st'[i]? with
   |none=>rw [hi] at hel;cases hel
   |some bl =>
    rw [hi] at hel
    cases bl with
    |none=>simp [K2] at hel
    |some kb =>
     obtain ⟨k',els'⟩:=kb;simp [K2] at hel;obtain ⟨rfl,rfl⟩:=hel;obtain ⟨b,h5,h6,h7,h8⟩:=hR'.blk i k' els' hi;refine ⟨b,by rw [h3];exact h5,h6,λhh=>?_,λhh=>by rw [h8 hh];rfl⟩;refine (h7 hh).rel (by simp [G5]) λq hq hq'=>⟨by rw [hrows hq hq'];simp,λj hj hj' v hv=>?_⟩
     have:(G5 (tau L st.length) els')[q][j]=rn (tau L st.length) els'[q][j]:=by simp [G5,UL]
     rw [this];exact zHz hmτ hv
  .rw [h4] at hel;obtain ⟨b,h5,h6,h7,h8⟩:=hR.blk l k els hel;refine ⟨b,by rw [h3];exact h5,h6,λhh=>(h7 hh).keep hS.size (hS.heap _ (h7 hh).low λi b' hb' hh'=>?_) λav v hv=>hv.step hR hSB,h8⟩;obtain ⟨x,h9,h10⟩:=hown0 i b' hb';intro he';have:=hR.inj x l b' b h10 h5 hh' hh he';subst this;exact hn1 i h9
theorem zpT{α β:Type}(f:α->β)(l:List α):(l.map f).take l.length=l.map f:=JB (by simp)
def Wm(L:List (Option Nat))(l:Nat):Option Nat:=(L[l]?).bind id
def GU(ρ:Nat->Option Nat):List (Option Nat)->St->St->Prop
 | [],[],_=>True
 |none ::L,none ::s0,st=>GU ρ L s0 st
 |some l' ::L,some (k,els0)::s0,st=>(∃els,st[l']?=some (some (k,els))/\U0 ρ els0 els)/\GU ρ L s0 st
 |_,_,_=>False
theorem GU.len{ρ}:∀{L:List (Option Nat)} {s0 st:St},GU ρ L s0 st->L.length=s0.length
 | [],[],_,_=>rfl
 | [],_ :: _,_,h=>h.elim
 |none ::L,[],_,h=>h.elim
 |some _ ::L,[],_,h=>h.elim
 |none ::L,none ::s0,st,h=>by simpa using GU.len (L:=L) (s0:=s0) (st:=st) h
 |none ::L,some _ ::s0,st,h=>h.elim
 |some _ ::L,none ::s0,st,h=>h.elim
 |some l' ::L,some (k,e)::s0,st,h=>by simpa using GU.len h.2
theorem GU.get{ρ}:∀{L:List (Option Nat)} {s0 st:St},GU ρ L s0 st->∀l,(∀l',Wm L l=some l'->∃k els0 els,s0[l]?=some (some (k,els0))/\st[l']?=some (some (k,els))/\U0 ρ els0 els) /\
  ∀k els0,s0[l]?=some (some (k,els0))->∃l',Wm L l=some l'
 | [],[],_,_,l=>⟨λl' h=>by simp [Wm] at h,λk e h=>by simp at h⟩
 | [],_ :: _,_,h,_=>h.elim
 |none ::L,[],_,h,_=>h.elim
 |some _ ::L,[],_,h,_=>h.elim
 |none ::L,some _ ::s0,st,h,_=>h.elim
 |some _ ::L,none ::s0,st,h,_=>h.elim
 |none ::L,none ::s0,st,h,l=>by
  cases l with
  |zero=>exact ⟨λl' h'=>by simp [Wm] at h',λk e h'=>by simp at h'⟩
  |succ l=>simpa [Wm] using GU.get (L:=L) (s0:=s0) (st:=st) h l
 |some x ::L,some (k,e)::s0,st,h,l=>by
  cases l with
  |zero =>
   obtain ⟨els,h1,h2⟩:=h.1;refine ⟨λl' h'=>?_,λk' e' h'=>⟨x,by simp [Wm]⟩⟩;simp [Wm] at h';subst h';exact ⟨k,e,els,by simp,h1,h2⟩
  |succ l=>simpa [Wm] using GU.get h.2 l
theorem U0.same{ρ}{els:List (List AV)}(h:∀r∈els,∀x∈r,Imm x):U0 ρ els els:=
 ⟨rfl,λi hi _=>⟨rfl,λj hj _=>.imm (h _ (Qh hi) _ (Qh hj))⟩⟩
theorem U0.bytes{ρ}(bs:List UInt8):U0 ρ (bs.map Zg) (bs.map Zg):=
 U0.same λr hr x hx=>by
  obtain ⟨b,_,rfl⟩:=QQ.1 hr;simp [Zg] at hx;subst hx;exact .lit _
theorem U0.nil{ρ}:U0 ρ [] []:=⟨rfl,λi hi=>by simp at hi⟩
theorem U0.one{ρ}{r r':List AV}(hl:r.length=r'.length)(h:∀j (h1:j<r.length) (h2:j<r'.length),Rn ρ r[j] r'[j]):U0 ρ [r] [r']:=
 ⟨rfl,λi hi _=>by
  have:i=0:=by simp at hi;exact hi
  subst this
  exact ⟨hl,h⟩⟩
inductive Ki:AV->Prop
 |any:Ki .any
 |lit (v):Ki (.lit v)
 |agg (cs) (h:∀x∈cs,Ki x):Ki (.agg cs)
 |tup (cs) (h:∀x∈cs,Ki x):Ki (.tup cs)
theorem Ki.vi{A A':Am}{w w':World}{av:AV}(hp:Ki av):∀{v},VI A w av v->VI A' w' av v:=by
 induction hp with
 |any=>exact λ{v} _=>.any v
 |lit x=>intro v h;cases h;exact .lit _
 |agg cs _ ih=>intro v h;cases h with |agg _ a hs hv=>exact .agg _ _ hs λi hi=>ih _ (Qh hi) (hv i hi)
 |tup cs _ ih=>intro v h;cases h with |tup _ a hs hv=>exact .tup _ _ hs λi hi=>ih _ (Qh hi) (hv i hi)
theorem zwQ{P:Program}{f:FuncId}{args args':List AV}{st:St}{r:AV}{K:AV->St->Prop}(h:Xm P f args' r)(hp:Ki r)(hs:Wy st args args')(hk:K r st):Uv P f args st K:=by
 refine ⟨h.1,λA m w vals hR hv=>(h.2 (zGh A m) w vals hR.ownAok ⟨by rw [<-hs.get.1];exact hv.1,λi hi'=>(hs.get.2 i (by rw [hs.get.1];exact hi') hi').vi hR (λ_ _ h=>.inl h) (λl b hb hh=>.inr ⟨l,b,hb,hh,rfl,rfl⟩) (hv.2 i (by rw [hs.get.1];exact hi'))⟩).mono λe w' ⟨v,A',he,hg,hx,hvi⟩=>?_⟩;obtain ⟨h1,h2⟩:=hR.grow' hg;exact ⟨v,A,m,st,_,he,h1,h2,.imm (hp.vi hvi),hk⟩
def Z6(P:Program)(op:Op)(env:Ev)(st:St)(K:AV->St->Prop):Prop:=
 match ZF op with
 |true =>
  match Kh env op with
  |some (g,args)=>Uv P g args st K
  |none=>False
 |false =>
  match aop P env st op with
  |some (av,st')=>K av st'
  |none=>False
theorem zDZ{P:Program}{A m w st n env a}{o:Oper}{K:AV->St->Prop}{next:Act->World->Prop}{Q:Exit->Act->World->Prop}(hR:R A m w st)(hE:Env A m st.length w n env a)
  (h:Z6 P o.op env st K)
  (hk:∀v w' A' m' st' av,R A' m' w' st'->Xp A m st.length w A' m' st'.length w'->V A' m' st'.length w' av v->K av st'->next (a.put o.dst v) w'):o.wp P a w next Q:=by
 unfold Z6 at h;unfold Oper.wp;split at h
 .rename_i hic;clear hic;split at h
  case h_2=>exact h.elim
  rename_i g args hc;have hs:=h;clear h;obtain ⟨dst,op,ty,pos,after,guard⟩:=o;simp only at hc hs;unfold Kh at hc;split at hc
  .rename_i c;split at hc
   .rename_i f hf;split at hc
    .rename_i g' first caps args' hfv hargs
     cases hc;have h1:=zV hE hfv;obtain ⟨p,q,e,hp,hq⟩:=h1.fn_inv;have hargs':=I8 hE hargs;obtain ⟨callee,cargs,cat⟩:=c;simp only at hf hargs hargs';subst hf
     have e2:(cargs.toList.map a.eval).toArray=cargs.map a.eval:=by apply Array.ext';simp
     rw [e2] at hargs'
     have hrun:(execOp a.eval { dst:=dst,op:=.call { callee:=.value f,args:=cargs,argTypes:=cat },type:=ty,pos:=pos,after:=after,guard:=guard }).run P w=.ok (.enter g (p++cargs.map a.eval++q)) w:=by
      have hce:=zok hs.1 (p++cargs.map a.eval++q) w;simp only [execOp,resolve,e,Deferred.ofValue,Sem.run_bind,Sem.run_pure,Result.andThen_ok,invoke];exact hce
     rw [hrun];simp only [Oper.upon];refine (hs.2 A m w _ hR ((hp.append hargs').append hq)).mono λe w' ⟨v,A',m',st',av,h1,h2,h3,h4,h5⟩=>?_;subst h1;exact hk _ _ _ _ _ _ h2 h3 h4 h5
    .cases hc
   .cases hc
  .cases hc
 .split at h
  case h_2=>exact h.elim
  rename_i av st' ha;have hK:=h;obtain ⟨nx,v,w',m',h1,h2,h3,h4,h5⟩:=zuN hR hE ha;rw [h1]
  rcases h2 with rfl |⟨rfl,rfl⟩
  .exact hk _ _ _ _ _ _ h3 h4 h5 hK
  .exact hk _ _ _ _ _ _ h3 h4 h5 hK
def X2(all:List Oper)(j:Nat):Option Tmp:=(all[j]?).bind (·.dst)
def Kb:List Oper->List Tmp
 | []=>[]
 |o ::os=>match o.dst with |some t=>t ::Kb os |none=>Kb os
def zF5(t:Tmp):List Tmp->Bool
 | []=>false
 |x ::l=>if x=t then true else zF5 t l
theorem ztY{t:Tmp}:∀{l:List Tmp},zF5 t l=true↔t∈l
 | []=>by simp [zF5]
 |x ::l=>by
  unfold zF5;split
  .rename_i h;simp [h]
  .rename_i h;simp [ztY (l:=l),Ne.symm h]
def Kg(ds:List Tmp):Ev->Ev
 | []=>[]
 |(k,v)::e=>match zF5 k ds with |true=>Kg ds e |false=>(k,v)::Kg ds e
structure COp where
 op:Op
 deps:List Tmp
 guard:Option (Option Tmp×Bool)
 dst:Option Tmp
def X6(all:List Oper):List Edge->List Tmp
 | []=>[]
 |e ::es=>match Region.binds .any e,X2 all e.on with |true,some t=>t ::X6 all es |_,_=>X6 all es
def GE(all:List Oper):Option (Nat×Bool)->Option (Option Tmp×Bool)
 |none=>none
 |some (j,w)=>some (X2 all j,w)
def sel(G:Ev)(env0:Ev):List Tmp->Ev
 | []=>env0
 |t ::ts=>match look G t with |some v=>(t,v)::sel G env0 ts |none=>sel G env0 ts
def K4(env:Ev):Option (Option Tmp×Bool)->Option Bool
 |none=>some true
 |some (none,_)=>none
 |some (some d,want) =>
  match look env d with
  |some (.lit (.bool b))=>some (b == want)
  |some (.lit (.tuple _))=>some false
  |_=>none
theorem zrp(all:List Oper)(env:Ev)(o:Oper):Zy all env o=K4 env (GE all o.guard):=by
 unfold Zy GE
 cases o.guard with
 |none=>rfl
 |some g =>
  obtain ⟨j,w⟩:=g;simp only [X2];cases (all[j]?).bind (·.dst) <;> rfl
def Wr(P:Program)(all:List Oper)(env0:Ev)(st:St)(G:Ev)(o:Oper)(v:AV):Prop:=
 match K4 (sel G env0 (X6 all o.after.toList)) (GE all o.guard) with
 |some true=>Z6 P o.op (sel G env0 (X6 all o.after.toList)) st (λav st'=>av=v/\st'=st)
 |some false=>v=.lit undef
 |none=>False
theorem znq{t u:Tmp}{v x:AV}{e:Ev}(h:look ((t,v)::e) u=some x):(t=u/\v=x)∨look e u=some x:=by
 simp only [look] at h;split at h
 .rename_i e;exact .inl ⟨e.symm ▸ rfl,Option.some.inj h⟩
 .exact .inr h
theorem ztT{G env0:Ev}{u:Tmp}{x:AV}:∀{ts:List Tmp},look (sel G env0 ts) u=some x->look env0 u=some x∨(u∈ts/\look G u=some x)
 | [],h=>.inl h
 |t ::ts,h=>by
  unfold sel at h;split at h
  .rename_i v hv
   rcases znq h with ⟨rfl,rfl⟩ |h1
   .exact .inr ⟨by simp,hv⟩
   .exact (ztT h1).imp id λh2=>⟨by simp [h2.1],h2.2⟩
  .exact (ztT h).imp id λh2=>⟨by simp [h2.1],h2.2⟩
theorem ztR{u:Tmp}{x:AV}{e:Ev}:∀{G:Ev},look (G++e) u=some x->look e u=some x∨look G u=some x
 | [],h=>.inl h
 |(t,v)::G,h=>by
  rcases znq h with ⟨rfl,rfl⟩ |h1
  .exact .inr (by simp [look])
  .rcases ztR h1 with h2 |h2
   .exact .inl h2
   .by_cases ht:t=u
    .subst ht;refine .inr ?_;simp only [J0,look,if_true] at h;simpa [look] using h
    .exact .inr (by simp only [look,if_neg ht];exact h2)
theorem ztE{all:List Oper}{t:Tmp}:∀{es:List Edge},t∈X6 all es->∃e∈es,Region.binds .any e=true/\X2 all e.on=some t
 | [],h=>by simp [X6] at h
 |e ::es,h=>by
  unfold X6 at h;split at h
  .rename_i h1 h2
   rcases Qr.1 h with rfl |h3
   .exact ⟨e,by simp,h1,h2⟩
   .obtain ⟨e',h4,h5⟩:=ztE h3;exact ⟨e',by simp [h4],h5⟩
  .obtain ⟨e',h4,h5⟩:=ztE h;exact ⟨e',by simp [h4],h5⟩
theorem zxk{t:Tmp}:∀{os:List Oper} {i:Nat},X2 os i=some t->t∈Kb os
 | [],i,h=>by simp [X2] at h
 |o ::os,i,h=>by
  unfold Kb
  cases i with
  |zero =>
   have:o.dst=some t:=by simpa [X2] using h
   rw [this];simp
  |succ i =>
   have:=zxk (os:=os) (i:=i) (by simpa [X2] using h);split
   .simp [this]
   .exact this
def KZ(n:Nat)(all:List Oper):Bool:=
 (List.range all.length).all λi =>
  match all[i]? with
  |none=>true
  |some o=>o.dst.all (·<n)&&o.after.toList.all (λe=>!Region.binds .any e||decide (e.on<i)) &&
   (List.range i).all λj=>match o.dst,X2 all j with |some t,some u=>t != u |_,_=>true
theorem zs1{n:Nat}{all:List Oper}(h:KZ n all=true):(∀(i:Nat) o,all[i]?=some o->o.dst.all (·<n)=true/\∀e∈o.after.toList,Region.binds .any e=true->e.on<i) /\
  ∀i j t,X2 all i=some t->X2 all j=some t->i=j:=by
 have key:∀(i:Nat) o,all[i]?=some o->o.dst.all (·<n)=true/\(∀e∈o.after.toList,Region.binds .any e=true->e.on<i)/\∀j,j<i->∀t,o.dst=some t->X2 all j≠some t:=λi o ho=>by
  have hi:i<all.length:=(Qb.1 ho).1;have:=(Ql.1 h) i (Js.2 hi);rw [ho] at this;simp only [Qd] at this;obtain ⟨⟨h1,h2⟩,h3⟩:=this;refine ⟨h1,λe he hb=>?_,λj hj t ht hjt=>?_⟩
  .have:=(Ql.1 h2) e he;rw [hb] at this;simpa using this
  .have:=(Ql.1 h3) j (Js.2 hj);rw [ht,hjt] at this;simp at this
 refine ⟨λi o ho=>⟨(key i o ho).1,(key i o ho).2.1⟩,λi j t hi hj=>?_⟩
 have hex:∀i,X2 all i=some t->∃o,all[i]?=some o/\o.dst=some t:=λi h=>by
  unfold X2 at h
  cases ho:all[i]? with
  |none=>rw [ho] at h;cases h
  |some o=>rw [ho] at h;exact ⟨o,rfl,h⟩
 obtain ⟨oi,h1,h2⟩:=hex i hi;obtain ⟨oj,h3,h4⟩:=hex j hj
 rcases Yo i j with hlt |heq |hgt
 .exact absurd hi ((key j oj h3).2.2 i hlt t h4)
 .exact heq
 .exact absurd hj ((key i oi h1).2.2 j hgt t h2)
theorem zxl{A m nb w n env a}(hsz:a.tmps.size=n)(hdf:a.defers=[])(h:∀t v,look env t=some v->t<n/\V A m nb w v (a.tmps.getD t undef)):Env A m nb w n env a:=⟨hsz,h,hdf⟩
theorem IS{ds:List Tmp}{t:Tmp}:∀{e:Ev},(t∈ds->look (Kg ds e) t=none)/\∀v,look (Kg ds e) t=some v->look e t=some v
 | []=>⟨λ_=>rfl,λv h=>h⟩
 |p ::e=>by
  obtain ⟨h1,h2⟩:=IS (ds:=ds) (t:=t) (e:=e);obtain ⟨s,x⟩:=p;unfold Kg;split
  .rename_i hm;refine ⟨h1,λv h=>?_⟩;simp only [look];split
   .rename_i ets
    have:t∈ds:=by rw [<-ets];exact ztY.1 hm
    rw [h1 this] at h;cases h
   .exact h2 v h
  .rename_i hm;refine ⟨λht=>?_,λv h=>?_⟩
   .simp only [look];split
    .rename_i ets;rw [<-ets] at ht;rw [ztY.2 ht] at hm;cases hm
    .exact h1 ht
   .simp only [look] at h ⊢;split
    .rename_i ets;rw [if_pos ets] at h;exact h
    .rename_i ets;rw [if_neg ets] at h;exact h2 v h
section
variable {P : Program} {rest : List COp} {d : Option Tmp} {op : Op} {deps : List Tmp} {env env0 : Ev} {st : St} {G : Ev} {K : Ev -> Prop}
end
theorem bs{α β:Type}{m:Option α}{k:α->Option β}{r:β}(h:(m.bind k)=some r):∃x,m=some x/\k x=some r:=by
 cases m with
 |none=>cases h
 |some x=>exact ⟨x,rfl,h⟩
theorem sm{α:Type}{x y:α}(h:some x=some y):x=y:=Option.some.inj h
theorem bT{α:Type}{c:Bool}{x y r:α}(hc:c=true)(h:cond c x y=r):x=r:=by rw [hc] at h;exact h
theorem bF{α:Type}{c:Bool}{x y r:α}(hc:c=false)(h:cond c x y=r):y=r:=by rw [hc] at h;exact h
section
variable {X Y : Type}
def ZX(body:X->Option (Sum X Y)):Nat->X->Option Y
 | 0,_=>none
 |n+1,x =>
  match body x with
  |some (.inl x')=>ZX body n x'
  |some (.inr y)=>some y
  |none=>none
open Classical in
def zCK(body:X->Option (Sum X Y))(x:X):Option Y:=
 if h:∃n y,ZX body n x=some y then some h.choose_spec.choose else none
def zp(body:X->Option (Sum X Y))(x:X):Option Y:=
 match ZX body 3000 x with
 |some y=>some y
 |none=>zCK body x
theorem zqc{body:X->Option (Sum X Y)}:∀{n k:Nat} {x:X} {y:Y},ZX body n x=some y->n≤k->ZX body k x=some y
 | 0,_,_,_,h,_=>by cases h
 |n+1,0,_,_,_,hk=>by omega
 |n+1,k+1,x,y,h,hk=>by
  unfold ZX at h ⊢;split at h
  .rename_i x' hx;exact zqc h (by omega)
  .rename_i z hx;exact h
  .cases h
theorem ztU{body:X->Option (Sum X Y)}{n:Nat}{x:X}{y:Y}(h:ZX body n x=some y):zp body x=some y:=by
 have key:∀n k y z,ZX body n x=some y->ZX body k x=some z->y=z:=λn k y z h1 h2 =>
  sm ((zqc h1 (Nat.le_max_left n k)).symm.trans (zqc h2 (Nat.le_max_right n k)))
 unfold zp
 cases h0:ZX body 3000 x with
 |some z=>exact congrArg some (key _ _ _ _ h0 h)
 |none =>
  have hex:∃n y,ZX body n x=some y:=⟨n,y,h⟩;show zCK body x=some y;unfold zCK;rw [dif_pos hex];exact congrArg some (key _ _ _ _ hex.choose_spec.choose_spec h)
theorem Iw{body:X->Option (Sum X Y)}{x:X}{y:Y}(h:zp body x=some y):∃n,ZX body n x=some y:=by
 unfold zp at h;split at h
 .rename_i z h0;cases h;exact ⟨_,h0⟩
 .unfold zCK at h;split at h
  .rename_i hex;cases h;exact ⟨_,hex.choose_spec.choose_spec⟩
  .cases h
theorem zK(body:X->Option (Sum X Y))(x:X):zp body x=(body x).bind (Sum.elim (zp body) some):=by
 cases hb:body x with
 |none =>
  cases h:zp body x with
  |none=>rfl
  |some y =>
   obtain ⟨n,hn⟩:=Iw h
   cases n with
   |zero=>cases hn
   |succ n=>unfold ZX at hn;rw [hb] at hn;cases hn
 |some r =>
  cases r with
  |inr y=>exact ztU (n:=1) (by unfold ZX;rw [hb])
  |inl x' =>
   show zp body x=zp body x'
   cases h:zp body x' with
   |some y =>
    obtain ⟨n,hn⟩:=Iw h;exact ztU (n:=n+1) (by unfold ZX;rw [hb];exact hn)
   |none =>
    cases h2:zp body x with
    |none=>rfl
    |some y =>
     obtain ⟨n,hn⟩:=Iw h2
     cases n with
     |zero=>cases hn
     |succ n =>
      unfold ZX at hn;rw [hb] at hn;rw [ztU hn] at h;cases h
end
def zH{B R R':Type}(o:Sum B R)(k:B->Option R')(f:R->Option R'):Option R':=
 match o with
 |.inl b=>k b
 |.inr r=>f r
abbrev B(l:List UInt8):ByteArray:=⟨⟨l⟩⟩
def idx{α:Type}(l:List α)(i:Int):Option α:=if 0≤i then l[i.toNat]? else none
theorem zz{α:Type}{l:List α}{i:Int}{x:α}(h:idx l i=some x):0≤i/\i.toNat<l.length/\l[i.toNat]?=some x:=by
 unfold idx at h;split at h
 .rename_i h0;exact ⟨h0,(Qb.1 h).1,h⟩
 .cases h
def XJ{α:Type}(l:List α)(lo hi:Int):Option (List α):=if 0≤lo/\lo≤hi/\hi≤l.length then some ((l.drop lo.toNat).take (hi.toNat-lo.toNat)) else none
def Xx{α:Type}(w:Nat)(l x:List α):Option (List α):=if (l.length+x.length)*w≤140737488355328/\l.length+x.length≤9223372036854775807 then some (l++x) else none
theorem zuO{α:Type}{w:Nat}{l x r:List α}(h:Xx w l x=some r):r=l++x/\(l.length+x.length)*w≤140737488355328/\l.length+x.length≤9223372036854775807:=by
 unfold Xx at h;split at h
 .rename_i h1;cases h;exact ⟨rfl,h1⟩
 .cases h
def Wo(l x:List UInt8):Option (List UInt8):=if l.length+x.length≤9223372036854775807 then some (l++x) else none
def zHX(k:IntKind)(a b:Int):Option Int:=if b=0 then none else some (k.wrap (a.tdiv b))
def Z7(a b:Int):Option Int:=if b=0 then none else some (a.tmod b)
def zH3(k:IntKind)(a b:Int):Option Int:=if b<0 then none else some (k.wrap (a*2 ^ (min b.toNat k.bits)))
def zH4(k:IntKind)(a b:Int):Option Int:=if b<0 then none else some (a.fdiv (2 ^ (min b.toNat k.bits)))
def SR(P:Program)(n nb0:Nat)(all l1 l2:List Oper)(K:Ev->St->Prop)(env:Ev)(st:St):Prop:=
 ∀(ops:Array Oper) (i:Nat),ops.toList=all->all.drop i=l1++l2->all.all (λo=>o.dst.all (·<n))=true->∀A m w a,nb0≤st.length->R A m w st->Env A m st.length w n env a ->
  ∀Q:Exit->Act->World->Prop,(∀a' w',Kk A m nb0 w n K a' w'->wpOps P ops Q (List.range' (i+l1.length) l2.length) a' w')->wpOps P ops Q (List.range' i (l1.length+l2.length)) a w
section
variable {P : Program} {n nb0 : Nat} {all l1 l2 : List Oper} {K : Ev -> St -> Prop} {env : Ev} {st : St}
theorem zo(h:K env st):SR P n nb0 all [] l2 K env st:=λops i ho hd hn A m w a h0 hR hE Q hQ=>by
 have:=hQ a w ⟨A,m,env,st,hR,hE,Xp.refl0 _ _ _ _ h0,h⟩;simpa using this
theorem zG9{l1':List Oper}(h:SR P n nb0 all l1 (l1'++l2) (λenv st=>SR P n nb0 all l1' l2 K env st) env st):SR P n nb0 all (l1++l1') l2 K env st:=λops i ho hd hn A m w a h0 hR hE Q hQ=>by
 rw [Jv] at hd
 have h1:=h ops i ho hd hn A m w a h0 hR hE Q λa' w' ⟨A',m',e',s',k1,k2,k3,k4⟩=>by
  have h2:=k4 ops (i+l1.length) ho (by rw [<-List.drop_drop,hd,List.drop_left]) hn A' m' w' a' k3.nbLe k1 k2 Q λa2 w2 h3=>by
   have:=hQ a2 w2 (h3.trans k3)
   rwa [QA,<-QU] at this
  rwa [QA]
 rw [QA] at h1
 rwa [QA,QU]
theorem zub(k:Nat)(h:SR P n nb0 all (l1.take k) (l1.drop k++l2) (λenv st=>SR P n nb0 all (l1.drop k) l2 K env st) env st):SR P n nb0 all l1 l2 K env st:=by
 have:=zG9 h
 rwa [List.take_append_drop] at this
theorem zxY{K':Ev->St->Prop}(h:SR P n nb0 all l1 l2 K env st)(hk:∀env st,K env st->K' env st):SR P n nb0 all l1 l2 K' env st:=λops i ho hd hn A m w a h0 hR hE Q hQ =>
 h ops i ho hd hn A m w a h0 hR hE Q λa' w' ⟨A',m',e',s',k1,k2,k3,k4⟩=>hQ a' w' ⟨A',m',e',s',k1,k2,k3,hk _ _ k4⟩
theorem Dw{env':Ev}(hs:∀t v,look env' t=some v->look env t=some v)(h:SR P n nb0 all l1 l2 K env' st):SR P n nb0 all l1 l2 K env st:=λops i ho hd hn A m w a h0 hR hE Q hQ =>
 h ops i ho hd hn A m w a h0 hR (hE.less hs) Q hQ
theorem zHa{o:Oper}{ops:Array Oper}{i:Nat}(ho:ops.toList=all)(hd:all.drop i=o ::l1++l2)(hn:all.all (λo=>o.dst.all (·<n))=true):ops[i]?=some o/\all.drop (i+1)=l1++l2/\o.dst.all (·<n)=true:=by
 have hi:ops[i]?=some o:=by
  have:ops.toList[i]?=some o:=by
   have h1:(ops.toList.drop i)[0]?=some o:=by rw [ho,hd];rfl
   simpa using h1
  simpa using this
 refine ⟨hi,?_,?_⟩
 .have:=congrArg List.tail hd;simpa [Yf] using this
 .rw [Ql] at hn;refine hn o ?_;rw [<-ho];exact Qc (by simpa using hi:ops.toList[i]?=some o)
theorem GY{o:Oper}(hg:Zy all env o=some true)(h:SOp P o env st λenv' st'=>SR P n nb0 all l1 l2 K env' st'):SR P n nb0 all (o ::l1) l2 K env st:=λops i ho hd hn A m w a h0 hR hE Q hQ=>by
 obtain ⟨hi,hd',hdo⟩:=zHa ho hd hn
 have e:(o ::l1).length+l2.length=(l1.length+l2.length)+1:=by simp;omega
 rw [e,JJ];simp only [wpOps,hi];rw [DQ hE (ho.symm ▸ hg)];simp only [if_true];refine .inl (zGf hR hE hdo h λa' w' ⟨A',m',env',st',h1,h2,h3,h4⟩=>?_);refine h4 ops (i+1) ho hd' hn A' m' w' a' (QD h0 h3.nbLe) h1 h2 Q λa2 w2 k=>?_;have:=hQ a2 w2 (k.trans (h3.weak h0))
 rwa [Qu,Yc l1.length 1,<-QU] at this
variable {d : Option Tmp} {op : Op} {ty : TypeId} {pos : String} {aft : Array Edge}
theorem u(h:SOp P ⟨d,op,ty,pos,aft,none⟩ env st λenv' st'=>SR P n nb0 all l1 l2 K env' st'):SR P n nb0 all (⟨d,op,ty,pos,aft,none⟩::l1) l2 K env st:=
 GY rfl h
theorem zph{j:Nat}{want b:Bool}(hv:KS all j env=some (.lit (.bool b))):Zy all env ⟨d,op,ty,pos,aft,some (j,want)⟩=some (b == want):=by
 unfold KS at hv;unfold Zy;simp only
 cases hd:(all[j]?).bind (·.dst) with
 |none=>rw [hd] at hv;cases hv
 |some t =>
  rw [hd] at hv;simp only [Qa] at hv;simp only [hv]
theorem zuI{j:Nat}{want:Bool}(hv:KS all j env=some (.lit undef)):Zy all env ⟨d,op,ty,pos,aft,some (j,want)⟩=some false:=by
 unfold KS at hv;unfold Zy;simp only
 cases hd:(all[j]?).bind (·.dst) with
 |none=>rw [hd] at hv;cases hv
 |some t =>
  rw [hd] at hv;simp only [Qa] at hv;simp only [hv,undef]
theorem g{j:Nat}{want b:Bool}(hv:KS all j env=some (.lit (.bool b)))(hb:b=want)(h:SOp P ⟨d,op,ty,pos,aft,some (j,want)⟩ env st λenv' st'=>SR P n nb0 all l1 l2 K env' st'):
  SR P n nb0 all (⟨d,op,ty,pos,aft,some (j,want)⟩::l1) l2 K env st:=
 GY ((zph hv).trans (by rw [hb];simp)) h
theorem zD3{o:Oper}(hg:Zy all env o=some false)(h:SR P n nb0 all l1 l2 K (aput o.dst (.lit undef) env) st):SR P n nb0 all (o ::l1) l2 K env st:=λops i ho hd hn A m w a h0 hR hE Q hQ=>by
 obtain ⟨hi,hd',hdo⟩:=zHa ho hd hn
 have e:(o ::l1).length+l2.length=(l1.length+l2.length)+1:=by simp;omega
 rw [e,JJ];simp only [wpOps,hi];rw [DQ hE (ho.symm ▸ hg)];simp only [JA,if_false];refine h ops (i+1) ho hd' hn A m w _ h0 hR (hE.aput hdo (.imm (.lit _))) Q λa2 w2 k=>?_;have:=hQ a2 w2 k
 rwa [Qu,Yc l1.length 1,<-QU] at this
def Xr(t:Nat):List Nat->Bool
 | []=>false
 |x ::l=>Nat.beq x t||Xr t l
def Zp(ds:List Nat):Ev->Bool
 | []=>true
 |(t,_)::e=>(!Xr t ds)&&Zp ds e
def UH:List Oper->List Nat
 | []=>[]
 |o ::r=>match o.dst with |some t=>t ::UH r |none=>UH r
def K7(env:Ev):List Oper->Ev
 | []=>env
 |o ::r=>K7 (aput o.dst (.lit undef) env) r
theorem GH{t:Nat}:∀{l:List Nat},Xr t l=true↔t∈l
 | []=>by simp [Xr]
 |x ::l=>by
  unfold Xr;rw [Qp,Nat.beq_eq,GH (l:=l),Qr];exact ⟨λh=>h.imp Eq.symm id,λh=>h.imp Eq.symm id⟩
theorem Gm{ds:List Nat}{t:Nat}{v:AV}:∀{e:Ev},Zp ds e=true->look e t=some v->t ∉ ds
 | [],_,h=>by cases h
 |(k,x)::e,hk,h=>by
  simp only [Zp,Qd,Qn] at hk;simp only [look] at h;split at h
  .rename_i e';subst e';intro hm;rw [GH.2 hm] at hk;cases hk.1
  .exact Gm hk.2 h
theorem OK{t:Nat}:∀{l:List Oper} {env:Ev},t ∉ UH l->look (K7 env l) t=look env t
 | [],_,_=>rfl
 |o ::r,env,h=>by
  unfold K7;unfold UH at h
  cases hd:o.dst with
  |none=>rw [hd] at h;exact OK h
  |some d =>
   rw [hd] at h;simp only [Qr,not_or] at h;have h2:=OK (l:=r) (env:=aput (some d) (.lit undef) env) h.2;rw [h2];have:d≠t:=λe=>h.1 e.symm;simp [aput,look,this]
def Gr(all:List Oper)(j:Nat)(want:Bool)(Xc:List Nat):List Oper->Bool
 | []=>true
 |o ::r=>(match o.guard with
  |some (j',w')=>(Nat.beq j' j&&(w' == want))||(match (all[j']?).bind (·.dst) with |some t=>Xr t Xc |none=>false)
  |none=>false)&&Gr all j want (match o.dst with |some t=>t ::Xc |none=>Xc) r
theorem Is{j:Nat}{want b:Bool}{t:Nat}(ht:(all[j]?).bind (·.dst)=some t):∀(l:List Oper) {l1:List Oper} {env:Ev} {Xc:List Nat},Gr all j want Xc l=true->(∀x∈Xc,look env x=some (.lit undef))->t ∉ UH l->t ∉ Xc->look env t=some (.lit (.bool b))->b=!want ->
  SR P n nb0 all l1 l2 K (K7 env l) st->SR P n nb0 all (l++l1) l2 K env st
 | [],_,_,_,_,_,_,_,_,_,h=>h
 |o ::l,l1,env,Xc,ha,hs,hn,hts,hl,hb,h=>by
  unfold Gr at ha;obtain ⟨d,op,ty,pos,aft,gu⟩:=o
  cases gu with
  |none=>simp at ha
  |some jw =>
   obtain ⟨j',w'⟩:=jw;simp only [Qd,Qp] at ha;obtain ⟨h1,h2⟩:=ha
   have hsk:Zy all env ⟨d,op,ty,pos,aft,some (j',w')⟩=some false:=by
    rcases h1 with h1 |h1
    .obtain ⟨e1,e2⟩:=h1;have e1:=Qj e1;have e2:=beq_iff_eq.1 e2;subst e1 e2
     have hgv:KS all j' env=some (.lit (.bool b)):=by unfold KS;rw [ht];exact hl
     exact (zph hgv).trans (by rw [hb];simp)
    .split at h1
     .rename_i t' ht'
      have hgv:KS all j' env=some (.lit undef):=by unfold KS;rw [ht'];exact hs t' (GH.1 h1)
      exact zuI hgv
     .cases h1
   refine zD3 hsk ?_;have hn':t ∉ UH l:=λhm=>hn (by unfold UH;cases d <;> simp [hm]);have hd:∀d',d=some d'->d'≠t:=λd' e e'=>hn (by subst e;simp [UH,e']);refine Is ht l h2 (λx hx=>?_) hn' (λhm=>?_) ?_ hb h
   .cases d with
    |none=>exact hs x hx
    |some d =>
     rcases Qr.1 hx with rfl |hx
     .simp [aput,look]
     .by_cases e:d=x
      .simp [aput,look,e]
      .simpa [aput,look,e] using hs x hx
   .cases d with
    |none=>exact hts hm
    |some d =>
     rcases Qr.1 hm with h5 |h5
     .exact hd d rfl h5.symm
     .exact hts h5
   .cases d with
    |none=>exact hl
    |some d=>simpa [aput,look,hd d rfl] using hl
def KW(env:Ev)(st:St)(y:Operand)(x:Bool)(env':Ev)(st':St):Prop:=
 st'=st/\(∀t v,look env t=some v->look env' t=some v)/\ev env' y=some (.lit (.bool x))
theorem IN{ds:List Nat}{env:Ev}(hk:Zp ds env=true):∀(k:Nat) {env':Ev},env'.drop k=env->(∀p∈env'.take k,Xr p.1 ds=true)->∀t v,look env t=some v->look env' t=some v
 | 0,env',h,_,t,v,hl=>by simp at h;rw [h];exact hl
 |k+1,[],h,_,t,v,hl=>by simp at h;rw [h] at hl;cases hl
 |k+1,(a,x)::e,h,hm,t,v,hl=>by
  have h1:=IN hk k (env':=e) (by simpa using h) (λp hp=>hm p (by simp [hp])) t v hl;have h2:a∈ds:=GH.1 (hm (a,x) (by simp));have h3:a≠t:=λe=>Gm hk hl (e ▸ h2);simpa [look,h3] using h1
def WI(ds:List Nat):Nat->Ev->Bool
 | 0,_=>true
 |_+1,[]=>true
 |k+1,(a,_)::e=>Xr a ds&&WI ds k e
theorem I4{ds:List Nat}:∀{k:Nat} {e:Ev},WI ds k e=true->∀p∈e.take k,Xr p.1 ds=true
 | 0,_,_,p,hp=>by simp at hp
 |k+1,[],_,p,hp=>by simp at hp
 |k+1,(a,x)::e,h,p,hp=>by
  simp only [WI,Qd] at h;simp only [List.take_succ_cons,Qr] at hp
  rcases hp with rfl |hp
  .exact h.1
  .exact I4 h.2 p hp
theorem eg{env env':Ev}{st:St}{y:Operand}{x:Bool}(ds:List Nat)(k:Nat)(h1:env'.drop k=env)(h2:Zp ds env=true)(h3:WI ds k env'=true)(h4:ev env' y=some (.lit (.bool x))):KW env st y x env' st:=
 ⟨rfl,IN h2 k h1 (I4 h3),h4⟩
theorem X1(k:Nat){dp c:Nat}{y:Operand}{ty':TypeId}{pos':String}{aft':Array Edge}{gp:Option (Nat×Bool)}{j:Nat}{b x:Bool}{l:List Oper}(hl:l1.drop k=⟨some dp,.pick (.tmp c) y (.const (.bool false)),ty',pos',aft',gp⟩::l)
  (hj:(all[j]?).bind (·.dst)=some c) (hc:look env c=some (.lit (.bool b))) (hg:Gr all j true [] (l1.take k)=true) (hk:Zp (UH (l1.take k)) env=true)
  (hgp:∀env':Ev,(∀t v,look env t=some v->look env' t=some v)->Zy all env' ⟨some dp,.pick (.tmp c) y (.const (.bool false)),ty',pos',aft',gp⟩=some true)
  (hT:b=true->SR P n nb0 all (l1.take k) (l1.drop k++l2) (KW env st y x) env st) (hF:b=false->x=false) (h:SR P n nb0 all l l2 K ((dp,.lit (.bool x))::env) st):SR P n nb0 all l1 l2 K env st:=by
 refine zub k ?_;rw [hl]
 cases b with
 |true =>
  refine zxY (by rw [<-hl];exact hT rfl) ?_;rintro env' st' ⟨rfl,h2,h3⟩;refine GY (hgp env' h2) ?_;unfold SOp;simp only [ZF,aop];have:ev env' (.tmp c)=some (.lit (.bool true)):=h2 c _ hc;rw [this,h3];simp only [QO,aput];refine Dw (λt v ht=>?_) h;simp only [look] at ht ⊢;split
  .rename_i e;rw [if_pos e] at ht;exact ht
  .rename_i e;rw [if_neg e] at ht;exact h2 t v ht
 |false =>
  have hout:∀t v,look env t=some v->look (K7 env (l1.take k)) t=some v:=λt v ht=>by
   rw [OK (Gm hk ht)];exact ht
  have:=Is (P:=P) (n:=n) (nb0:=nb0) (l2:=l1.drop k++l2) (K:=λenv st=>SR P n nb0 all (l1.drop k) l2 K env st) (st:=st) (l1:=[]) hj (l1.take k) hg (λ_ h=>by cases h) (Gm hk hc) (λh=>by cases h) hc rfl ?_
  .rw [Qx] at this;rwa [hl] at this
  refine zo ?_;rw [hl];refine GY (hgp _ hout) ?_;unfold SOp;simp only [ZF,aop];have:ev (K7 env (l1.take k)) (.tmp c)=some (.lit (.bool false)):=hout c _ hc;rw [this];simp only [ev,QO,aput];rw [hF rfl] at h;refine Dw (λt v ht=>?_) h;simp only [look] at ht ⊢;split
  .rename_i e;rw [if_pos e] at ht;exact ht
  .rename_i e;rw [if_neg e] at ht;exact hout t v ht
theorem ZK(k:Nat){dp c:Nat}{y:Operand}{ty':TypeId}{pos':String}{aft':Array Edge}{gp:Option (Nat×Bool)}{j:Nat}{b x:Bool}{l:List Oper}(hl:l1.drop k=⟨some dp,.pick (.tmp c) (.const (.bool true)) y,ty',pos',aft',gp⟩::l)
  (hj:(all[j]?).bind (·.dst)=some c) (hc:look env c=some (.lit (.bool b))) (hg:Gr all j false [] (l1.take k)=true) (hk:Zp (UH (l1.take k)) env=true)
  (hgp:∀env':Ev,(∀t v,look env t=some v->look env' t=some v)->Zy all env' ⟨some dp,.pick (.tmp c) (.const (.bool true)) y,ty',pos',aft',gp⟩=some true)
  (hF:b=false->SR P n nb0 all (l1.take k) (l1.drop k++l2) (KW env st y x) env st) (hT:b=true->x=true) (h:SR P n nb0 all l l2 K ((dp,.lit (.bool x))::env) st):SR P n nb0 all l1 l2 K env st:=by
 refine zub k ?_;rw [hl]
 cases b with
 |false =>
  refine zxY (by rw [<-hl];exact hF rfl) ?_;rintro env' st' ⟨rfl,h2,h3⟩;refine GY (hgp env' h2) ?_;unfold SOp;simp only [ZF,aop];have:ev env' (.tmp c)=some (.lit (.bool false)):=h2 c _ hc;rw [this,h3];simp only [QO,aput];refine Dw (λt v ht=>?_) h;simp only [look] at ht ⊢;split
  .rename_i e;rw [if_pos e] at ht;exact ht
  .rename_i e;rw [if_neg e] at ht;exact h2 t v ht
 |true =>
  have hout:∀t v,look env t=some v->look (K7 env (l1.take k)) t=some v:=λt v ht=>by
   rw [OK (Gm hk ht)];exact ht
  have:=Is (P:=P) (n:=n) (nb0:=nb0) (l2:=l1.drop k++l2) (K:=λenv st=>SR P n nb0 all (l1.drop k) l2 K env st) (st:=st) (l1:=[]) hj (l1.take k) hg (λ_ h=>by cases h) (Gm hk hc) (λh=>by cases h) hc rfl ?_
  .rw [Qx] at this;rwa [hl] at this
  refine zo ?_;rw [hl];refine GY (hgp _ hout) ?_;unfold SOp;simp only [ZF,aop];have:ev (K7 env (l1.take k)) (.tmp c)=some (.lit (.bool true)):=hout c _ hc;rw [this];simp only [ev,QO,aput];rw [hT rfl] at h;refine Dw (λt v ht=>?_) h;simp only [look] at ht ⊢;split
  .rename_i e;rw [if_pos e] at ht;exact ht
  .rename_i e;rw [if_neg e] at ht;exact hout t v ht
theorem gpn{env:Ev}{o:Option Tmp}{op:Op}{ty:TypeId}{pos:String}{aft:Array Edge}:∀env':Ev,(∀t v,look env t=some v->look env' t=some v)->Zy all env' ⟨o,op,ty,pos,aft,none⟩=some true:=λ_ _=>rfl
theorem gps{env:Ev}{o:Option Tmp}{op:Op}{ty:TypeId}{pos:String}{aft:Array Edge}{j t:Nat}{want b:Bool}(hj:(all[j]?).bind (·.dst)=some t)(hv:look env t=some (.lit (.bool b)))(hb:b=want):
  ∀env':Ev,(∀t v,look env t=some v->look env' t=some v)->Zy all env' ⟨o,op,ty,pos,aft,some (j,want)⟩=some true:=λenv' h=>by
 have hgv:KS all j env'=some (.lit (.bool b)):=by unfold KS;rw [hj];exact h t _ hv
 exact (zph hgv).trans (by rw [hb];simp)
theorem egA{env env':Ev}{st:St}{y:Operand}{b v:Bool}(ds:List Nat)(k:Nat)(hb:b=true)(h1:env'.drop k=env)(h2:Zp ds env=true)(h3:WI ds k env'=true)(h4:ev env' y=some (.lit (.bool v))):KW env st y (b&&v) env' st:=
 ⟨rfl,IN h2 k h1 (I4 h3),by rw [hb];exact h4⟩
theorem egO{env env':Ev}{st:St}{y:Operand}{b v:Bool}(ds:List Nat)(k:Nat)(hb:b=false)(h1:env'.drop k=env)(h2:Zp ds env=true)(h3:WI ds k env'=true)(h4:ev env' y=some (.lit (.bool v))):KW env st y (b||v) env' st:=
 ⟨rfl,IN h2 k h1 (I4 h3),by rw [hb];exact h4⟩
theorem Hr{b v:Bool}(hb:b=false):(b&&v)=false:=by rw [hb];rfl
theorem orT{b v:Bool}(hb:b=true):(b||v)=true:=by rw [hb];rfl
theorem zD2(k:Nat)(h:SR P n nb0 all l1 l2 K env (st.take k++List.replicate (st.length-k) none))(hk:Nat.ble k st.length=true):SR P n nb0 all l1 l2 K env st:=λops i ho hd hn A m w a h0 hR hE Q hQ=>by
 have hk':=Qv hk
 have hlen:(st.take k++List.replicate (st.length-k) none).length=st.length:=by simp;omega
 let m':BM:=λl=>if l<k then m l else none
 have hm':∀l,l<st.length->m' l=m l∨m' l=none:=λl _=>by
  show (if l<k then m l else none)=m l∨(if l<k then m l else none)=none;split
  .exact .inl rfl
  .exact .inr rfl
 have hget:∀l b,m' l=some b->l<k/\m l=some b:=λl b h=>by
  change (if l<k then m l else none)=some b at h;split at h
  .exact ⟨by assumption,h⟩
  .cases h
 have hst:∀l,l<k->(st.take k++List.replicate (st.length-k) none)[l]?=st[l]?:=λl hl=>by
  rw [Qm (by simp;omega),Jy,if_pos hl]
 have hst2:∀l,k≤l->∀x,(st.take k++List.replicate (st.length-k) none)[l]?=some x->x=none:=λl hl x h=>by
  rw [Qs (by simp;omega)] at h;exact Yr (Qc h)
 have hS:Xp A m st.length w A m' st.length w:=⟨Qk _,Qk _,λ_ _ h=>h,λ_ _ h=>.inl h,hm',λl b h hh=>.inr ⟨l,b,(hget l b h).2,hh,rfl⟩,λ_ _ _=>rfl,rfl,rfl,rfl⟩
 have hR':R A m' w (st.take k++List.replicate (st.length-k) none):=by
  refine ⟨hR.aLow,λB q l b hA h hh=>hR.aOwn B q l b hA (hget l b h).2 hh,hR.aFun,hR.nLe,λl b h hh=>hR.nOwn l b (hget l b h).2 hh,λl l' b b' h h'=>hR.inj l l' b b' (hget l b h).2 (hget l' b' h').2,λl b h=>?_,λl kk els he=>?_⟩
  .obtain ⟨h1,h2⟩:=hget l b h;rw [hst l h1];exact hR.live l b h2
  .by_cases hl:l<k
   .rw [hst l hl] at he;obtain ⟨b,h1,h2,h3,h4⟩:=hR.blk l kk els he;refine ⟨b,by show (if l<k then m l else none)=some b;rw [if_pos hl];exact h1,h2,λhh=>?_,h4⟩;rw [hlen];exact (h3 hh).keep (Qk _) rfl λav v hv=>hv.step hR hS
   .cases hst2 l (by omega) _ he
 have hE':Env A m' (st.take k++List.replicate (st.length-k) none).length w n env a:=by rw [hlen];exact hE.step hR hS
 exact h ops i ho hd hn A m' w a (by rw [hlen];exact h0) hR' hE' Q λa' w' k'=>hQ a' w' (k'.trans (hS.weak h0))
theorem zGo(j:Nat)(h:SR P n nb0 all l1 l2 K env (st++List.replicate j none)):SR P n nb0 all l1 l2 K env st:=λops i ho hd hn A m w a h0 hR hE Q hQ=>by
 have hlen:(st++List.replicate j none).length=st.length+j:=by simp
 have hm0:∀l b,m l=some b->l<st.length:=λl b h=>hR.lt h;have hS:Xp A m st.length w A m (st.length+j) w:=⟨by omega,Qk _,λ_ _ h=>h,λ_ _ h=>.inl h,λ_ _=>.inl rfl,λl b h hh=>.inr ⟨l,b,h,hh,rfl⟩,λ_ _ _=>rfl,rfl,rfl,rfl⟩
 have hR':R A m w (st++List.replicate j none):=by
  refine ⟨hR.aLow,hR.aOwn,hR.aFun,hR.nLe,hR.nOwn,hR.inj,λl b h=>?_,λl kk els he=>?_⟩
  .rw [Qm (hm0 l b h)];exact hR.live l b h
  .by_cases hl:l<st.length
   .rw [Qm hl] at he;obtain ⟨b,h1,h2,h3,h4⟩:=hR.blk l kk els he;refine ⟨b,h1,h2,λhh=>?_,h4⟩;rw [hlen];exact (h3 hh).keep (Qk _) rfl λav v hv=>hv.step hR hS
   .rw [Qs (by omega)] at he;cases Yr (Qc he)
 have hE':Env A m (st++List.replicate j none).length w n env a:=by rw [hlen];exact hE.step hR hS
 exact h ops i ho hd hn A m w a (by rw [hlen];omega) hR' hE' Q λa' w' k'=>hQ a' w' (k'.trans (hS.weak h0))
theorem ph(kk:Nat)(h:SR P n nb0 all l1 l2 K env (st++[some (kk,[])])):SR P n nb0 all l1 l2 K env st:=λops i ho hd hn A m w a h0 hR hE Q hQ=>by
 have hp:=hR.push (XK.refl w) ⟨false,0,0,kk,0,false⟩ [] (λh=>by cases h) (λ_=>rfl)
  (λh=>by cases h) (λh=>by cases h) (λh=>by cases h) (λq hq=>by cases hq) (λh=>by cases h)
 have hlen:(st++[some (kk,[])]).length=st.length+1:=by simp
 have hE':=hE.step hR hp.2;rw [<-hlen] at hE';exact h ops i ho hd hn A _ w a (by rw [hlen];omega) hp.1 hE' Q λa' w' k=>hQ a' w' (k.trans (hp.2.weak h0))
def zGP(jj:Nat)(env:Ev)(st:St)(y:Operand)(x:Bool)(env':Ev)(st':St):Prop:=
 st'.take st.length=st/\st'.length=st.length+jj/\(∀t v,look env t=some v->look env' t=some v)/\ev env' y=some (.lit (.bool x))
theorem xg{jj:Nat}{env env':Ev}{st st':St}{y:Operand}{x:Bool}(ds:List Nat)(k:Nat)(h5:st'.take st.length=st)(h6:st'.length=st.length+jj)(h1:env'.drop k=env)(h2:Zp ds env=true)(h3:WI ds k env'=true)(h4:ev env' y=some (.lit (.bool x))):zGP jj env st y x env' st':=
 ⟨h5,h6,IN h2 k h1 (I4 h3),h4⟩
theorem zGm(k jj:Nat){dp c:Nat}{y:Operand}{ty':TypeId}{pos':String}{aft':Array Edge}{gp:Option (Nat×Bool)}{j:Nat}{b x:Bool}{l:List Oper}(hl:l1.drop k=⟨some dp,.pick (.tmp c) y (.const (.bool false)),ty',pos',aft',gp⟩::l)
  (hj:(all[j]?).bind (·.dst)=some c) (hc:look env c=some (.lit (.bool b))) (hg:Gr all j true [] (l1.take k)=true) (hk:Zp (UH (l1.take k)) env=true)
  (hgp:∀env':Ev,(∀t v,look env t=some v->look env' t=some v)->Zy all env' ⟨some dp,.pick (.tmp c) y (.const (.bool false)),ty',pos',aft',gp⟩=some true)
  (hT:b=true->SR P n nb0 all (l1.take k) (l1.drop k++l2) (zGP jj env st y x) env st) (hF:b=false->x=false) (h:SR P n nb0 all l l2 K ((dp,.lit (.bool x))::env) (st++List.replicate jj none)):SR P n nb0 all l1 l2 K env st:=by
 refine zub k ?_;rw [hl]
 cases b with
 |true =>
  refine zxY (by rw [<-hl];exact hT rfl) ?_;rintro env' st' ⟨h5,h6,h2,h3⟩;refine zD2 st.length ?_ (by rw [Nat.ble_eq];omega);rw [h5,show st'.length-st.length=jj by omega];refine GY (hgp env' h2) ?_;unfold SOp;simp only [ZF,aop];have:ev env' (.tmp c)=some (.lit (.bool true)):=h2 c _ hc;rw [this,h3];simp only [QO,aput];refine Dw (λt v ht=>?_) h;simp only [look] at ht ⊢;split
  .rename_i e;rw [if_pos e] at ht;exact ht
  .rename_i e;rw [if_neg e] at ht;exact h2 t v ht
 |false =>
  have hout:∀t v,look env t=some v->look (K7 env (l1.take k)) t=some v:=λt v ht=>by
   rw [OK (Gm hk ht)];exact ht
  have:=Is (P:=P) (n:=n) (nb0:=nb0) (l2:=l1.drop k++l2) (K:=λenv st=>SR P n nb0 all (l1.drop k) l2 K env st) (st:=st) (l1:=[]) hj (l1.take k) hg (λ_ h=>by cases h) (Gm hk hc) (λh=>by cases h) hc rfl ?_
  .rw [Qx] at this;rwa [hl] at this
  refine zo ?_;refine zGo jj ?_;rw [hl];refine GY (hgp _ hout) ?_;unfold SOp;simp only [ZF,aop];have:ev (K7 env (l1.take k)) (.tmp c)=some (.lit (.bool false)):=hout c _ hc;rw [this];simp only [ev,QO,aput];rw [hF rfl] at h;refine Dw (λt v ht=>?_) h;simp only [look] at ht ⊢;split
  .rename_i e;rw [if_pos e] at ht;exact ht
  .rename_i e;rw [if_neg e] at ht;exact hout t v ht
theorem zGn(k jj:Nat){dp c:Nat}{y:Operand}{ty':TypeId}{pos':String}{aft':Array Edge}{gp:Option (Nat×Bool)}{j:Nat}{b x:Bool}{l:List Oper}(hl:l1.drop k=⟨some dp,.pick (.tmp c) (.const (.bool true)) y,ty',pos',aft',gp⟩::l)
  (hj:(all[j]?).bind (·.dst)=some c) (hc:look env c=some (.lit (.bool b))) (hg:Gr all j false [] (l1.take k)=true) (hk:Zp (UH (l1.take k)) env=true)
  (hgp:∀env':Ev,(∀t v,look env t=some v->look env' t=some v)->Zy all env' ⟨some dp,.pick (.tmp c) (.const (.bool true)) y,ty',pos',aft',gp⟩=some true)
  (hF:b=false->SR P n nb0 all (l1.take k) (l1.drop k++l2) (zGP jj env st y x) env st) (hT:b=true->x=true) (h:SR P n nb0 all l l2 K ((dp,.lit (.bool x))::env) (st++List.replicate jj none)):SR P n nb0 all l1 l2 K env st:=by
 refine zub k ?_;rw [hl]
 cases b with
 |false =>
  refine zxY (by rw [<-hl];exact hF rfl) ?_;rintro env' st' ⟨h5,h6,h2,h3⟩;refine zD2 st.length ?_ (by rw [Nat.ble_eq];omega);rw [h5,show st'.length-st.length=jj by omega];refine GY (hgp env' h2) ?_;unfold SOp;simp only [ZF,aop];have:ev env' (.tmp c)=some (.lit (.bool false)):=h2 c _ hc;rw [this,h3];simp only [QO,aput];refine Dw (λt v ht=>?_) h;simp only [look] at ht ⊢;split
  .rename_i e;rw [if_pos e] at ht;exact ht
  .rename_i e;rw [if_neg e] at ht;exact h2 t v ht
 |true =>
  have hout:∀t v,look env t=some v->look (K7 env (l1.take k)) t=some v:=λt v ht=>by
   rw [OK (Gm hk ht)];exact ht
  have:=Is (P:=P) (n:=n) (nb0:=nb0) (l2:=l1.drop k++l2) (K:=λenv st=>SR P n nb0 all (l1.drop k) l2 K env st) (st:=st) (l1:=[]) hj (l1.take k) hg (λ_ h=>by cases h) (Gm hk hc) (λh=>by cases h) hc rfl ?_
  .rw [Qx] at this;rwa [hl] at this
  refine zo ?_;refine zGo jj ?_;rw [hl];refine GY (hgp _ hout) ?_;unfold SOp;simp only [ZF,aop];have:ev (K7 env (l1.take k)) (.tmp c)=some (.lit (.bool true)):=hout c _ hc;rw [this];simp only [ev,QO,aput];rw [hT rfl] at h;refine Dw (λt v ht=>?_) h;simp only [look] at ht ⊢;split
  .rename_i e;rw [if_pos e] at ht;exact ht
  .rename_i e;rw [if_neg e] at ht;exact hout t v ht
theorem rg{id:Nat}{ops:Array Oper}{y:Code}{Q:Exit->Ev->St->Prop}(hd:ops.toList.all (λo=>o.dst.all (·<n))=true)(h:SR P n nb0 ops.toList ops.toList [] (λenv st=>SW P n nb0 y Q env st) env st):
  SW P n nb0 (.seq (.region id ops false) y) Q env st:=by
 refine ze ?_;intro A m w a h0 hR hE;refine wp_region ?_
 have:=h ops 0 rfl (by simp) hd A m w a h0 hR hE (λe a' w'=>Kk A m nb0 w n (Do (SW P n nb0 y Q) Q e) a' w') λa' w' ho=>by
  simp only [Je,Yt,wpOps];exact ho
 rw [JH,show ops.size=ops.toList.length by simp];simpa using this
theorem rl{id:Nat}{ops:Array Oper}{Q:Exit->Ev->St->Prop}(hd:ops.toList.all (λo=>o.dst.all (·<n))=true)(h:SR P n nb0 ops.toList ops.toList [] (Q .normal) env st):
  SW P n nb0 (.region id ops false) Q env st:=by
 intro A m w a h0 hR hE;refine wp_region ?_
 have:=h ops 0 rfl (by simp) hd A m w a h0 hR hE (λe a' w'=>Kk A m nb0 w n (Q e) a' w') λa' w' ho=>by
  simpa [wpOps] using ho
 rw [JH,show ops.size=ops.toList.length by simp];simpa using this
end
abbrev zL(S U R:Type):Type:=Option (Sum S (Sum U R))
theorem skF{P:Program}{n nb0:Nat}{all l1 l2:List Oper}{K:Ev->St->Prop}{env:Ev}{st:St}{d:Option Nat}{op:Op}{ty:TypeId}{pos:String}{aft:Array Edge}{j:Nat}{want:Bool}(hv:KS all j env=some (.lit (.bool (!want))))
  (h:SR P n nb0 all l1 l2 K (aput d (.lit undef) env) st):SR P n nb0 all (⟨d,op,ty,pos,aft,some (j,want)⟩::l1) l2 K env st:=zD3 (by rw [zph hv];cases want <;> rfl) h
mutual
def KQ:AV->Bool
 |.any=>true
 |.lit _=>true
 |.isl _ _=>true
 |.ipt _ _ _ _=>true
 |.imp _=>true
 |.fr _=>true
 |.mmp _=>false
 |.msl _ _ _=>false
 |.mpt _ _ _=>false
 |.agg cs=>Ze cs
 |.tup cs=>Ze cs
 |.fn _ a b=>Ze a&&Ze b
def Ze:List AV->Bool
 | []=>true
 |x ::l=>KQ x&&Ze l
end
theorem Dg.mem{l:List AV}(h:Dg l):∀x∈l,Imm x:=by
 induction h with
 |nil=>exact λx hx=>by cases hx
 |cons h _ ih =>
  intro x hx
  rcases Qr.1 hx with h1 |h1
  .exact h1 ▸ h
  .exact ih x h1
mutual
theorem DG:∀{x:AV},KQ x=true->Imm x
 |.any,_=>.any
 |.lit v,_=>.lit v
 |.isl k e,_=>.isl k e
 |.ipt k e i j,_=>.ipt k e i j
 |.imp e,_=>.imp e
 |.fr x,_=>.fr x
 |.mmp _,h=>by cases h
 |.msl _ _ _,h=>by cases h
 |.mpt _ _ _,h=>by cases h
 |.agg cs,h=>.agg cs (Uf h).mem
 |.tup cs,h=>.tup cs (Uf h).mem
 |.fn f a b,h=>.fn f a b (Uf (QV.1 h).1).mem (Uf (QV.1 h).2).mem
theorem Uf:∀{l:List AV},Ze l=true->Dg l
 | [],_=>.nil
 |x ::l,h=>.cons (DG (QV.1 h).1) (Uf (QV.1 h).2)
end
inductive Src where
 |old (l:Nat)
 |dead
 |fresh (k:Nat)
instance{n:Nat}:OfNat Src n:=⟨.old n⟩
abbrev Xt:=List Src
def XS(L:Xt)(l:Nat):Option Nat:=match L[l]? with |some (.old x)=>some x |_=>none
def Ur(L:Xt)(x:Nat):Bool:=match L with | []=>false |.old y ::r=>Nat.beq y x||Ur r x |_ ::r=>Ur r x
theorem ztL:∀{L:Xt} {l x:Nat},XS L l=some x->Ur L x=true
 | [],l,x,h=>by simp [XS] at h
 |s ::L,0,x,h=>by
  cases s with
  |old y=>simp [XS] at h;subst h;simp [Ur]
  |dead=>simp [XS] at h
  |fresh k=>simp [XS] at h
 |s ::L,l+1,x,h=>by
  have:=ztL (L:=L) (l:=l) (x:=x) (by simpa [XS] using h);cases s <;> simp [Ur,this]
inductive Rs(st:St)(L:Xt):AV->AV->Prop
 |any (x):Rs st L .any x
 |imm {x} (h:Imm x):Rs st L x x
 |nil {k:Nat}:Rs st L (.isl k []) (.lit (.slice none 0 0))
 |nilown {l k:Nat} (h:L[l]?=some (.fresh k)):Rs st L (.msl l 0 0) (.lit (.slice none 0 0))
 |msl {l l' i n:Nat} (h:XS L l=some l'):Rs st L (.msl l i n) (.msl l' i n)
 |mpt {l l' i j:Nat} (h:XS L l=some l'):Rs st L (.mpt l i j) (.mpt l' i j)
 |mmp {l l':Nat} (h:XS L l=some l'):Rs st L (.mmp l) (.mmp l')
 |sl {l i n k:Nat} {els els':List (List AV)} (hD:Ur L l=false) (h:st[l]?=some (some (k,els))) (hin:i+n≤els.length) (hl:els'.length=n) (hi:∀r∈els',∀x∈r,Imm x)
   (hrl:∀q (h:q<n) (h1:i+q<els.length) (h2:q<els'.length),els[i+q].length=els'[q].length)
   (hr:∀q (h:q<n) (h1:i+q<els.length) (h2:q<els'.length) j (h3:j<els[i+q].length) (h4:j<els'[q].length),Rs st L els'[q][j] els[i+q][j]):
   Rs st L (.isl k els') (.msl l i n)
 |slp {l i j k:Nat} {els els':List (List AV)} (hD:Ur L l=false) (h:st[l]?=some (some (k,els))) (hl:els'.length=els.length) (hi:∀r∈els',∀x∈r,Imm x)
   (hrl:∀q (h1:q<els.length) (h2:q<els'.length),els[q].length=els'[q].length)
   (hr:∀q (h1:q<els.length) (h2:q<els'.length) j (h3:j<els[q].length) (h4:j<els'[q].length),Rs st L els'[q][j] els[q][j]):
   Rs st L (.ipt k els' i j) (.mpt l i j)
 |sm {l:Nat} {els els':List (List AV)} (hD:Ur L l=false) (h:st[l]?=some (some (2,els))) (hl:els'.length=els.length) (hi:∀r∈els',∀x∈r,Imm x)
   (hrl:∀q (h1:q<els.length) (h2:q<els'.length),els[q].length=els'[q].length)
   (hr:∀q (h1:q<els.length) (h2:q<els'.length) j (h3:j<els[q].length) (h4:j<els'[q].length),Rs st L els'[q][j] els[q][j]):
   Rs st L (.imp els') (.mmp l)
 |sf {l n k:Nat} {els els':List (List AV)} (hD:Ur L l=false) (h:st[l]?=some (some (k,els))) (hin:n≤els.length) (hl:els'.length=n)
   (hrl:∀q (h1:q<els.length) (h2:q<els'.length),els[q].length=els'[q].length)
   (hr:∀q (h1:q<els.length) (h2:q<els'.length) j (h3:j<els[q].length) (h4:j<els'[q].length),UnF els[q][j] els'[q][j]):
   Rs st L (.fr (.isl k els')) (.msl l 0 n)
 |nilf {k:Nat}:Rs st L (.fr (.isl k [])) (.lit (.slice none 0 0))
 |agg {cs cs':List AV} (hl:cs.length=cs'.length) (hr:∀i (h:i<cs.length) (h':i<cs'.length),Rs st L cs[i] cs'[i]):Rs st L (.agg cs) (.agg cs')
 |tup {cs cs':List AV} (hl:cs.length=cs'.length) (hr:∀i (h:i<cs.length) (h':i<cs'.length),Rs st L cs[i] cs'[i]):Rs st L (.tup cs) (.tup cs')
 |fn {f:Fn} {cs cs' ds ds':List AV} (hl:cs.length=cs'.length) (hr:∀i (h:i<cs.length) (h':i<cs'.length),Rs st L cs[i] cs'[i])
   (hl':ds.length=ds'.length) (hr':∀i (h:i<ds.length) (h':i<ds'.length),Rs st L ds[i] ds'[i]):Rs st L (.fn f cs ds) (.fn f cs' ds')
def BZ(st:St)(L:Xt)(els0 els:List (List AV)):Prop:=
 els0.length=els.length/\∀i (h:i<els0.length) (h':i<els.length),els0[i].length=els[i].length/\∀j (h1:j<els0[i].length) (h2:j<els[i].length),Rs st L els0[i][j] els[i][j]
structure Ke(L:Xt)(st0 st:St):Prop where
 live:∀(l l':Nat),XS L l=some l'->∃k els0 els,st0[l]?=some (some (k,els0))/\st[l']?=some (some (k,els))/\BZ st L els0 els
 all:∀(l k:Nat) els0,st0[l]?=some (some (k,els0))->(∃l',XS L l=some l')∨(L[l]?=some (Src.fresh k)/\els0=[])
 new:∀(l k:Nat),L[l]?=some (Src.fresh k)->st0[l]?=some (some (k,[]))
 inj:∀l1 l2 x,XS L l1=some x->XS L l2=some x->l1=l2
def Ky(A:Am)(m:BM)(L:Xt):Am:=λB q=>A B q∨∃l b,m l=some b/\b.has=true/\b.B=B/\b.k=q/\Ur L l=false
def Kc(m:BM)(L:Xt):BM:=λl=>match L[l]? with |some (.old x)=>m x |some (.fresh k)=>some ⟨false,0,0,k,0,false⟩ |_=>none
theorem zrb{m:BM}{L:Xt}{l x:Nat}(h:XS L l=some x):Kc m L l=m x:=by
 unfold XS at h;unfold Kc;split at h
 .rename_i y hy;cases h;rw [hy]
 .cases h
theorem zyT{m:BM}{L:Xt}{l k:Nat}(h:L[l]?=some (.fresh k)):Kc m L l=some ⟨false,0,0,k,0,false⟩:=by unfold Kc;rw [h]
theorem Iv{m:BM}{L:Xt}{l:Nat}{b:Blk}(h:Kc m L l=some b)(hh:b.has=true):∃x,XS L l=some x/\m x=some b:=by
 unfold Kc at h;split at h
 .rename_i y hy;exact ⟨y,by unfold XS;rw [hy],h⟩
 .cases h;cases hh
 .cases h
theorem Rs.v{A:Am}{m:BM}{w:World}{st st0:St}{L:Xt}(hR:R A m w st)(hs:Ke L st0 st){x y:AV}(h:Rs st L x y):∀{v},V A m st.length w y v->V (Ky A m L) (Kc m L) st0.length w x v:=by
 have hA':∀B q,A B q->Ky A m L B q:=λB q h=>.inl h
 induction h with
 |any x=>exact λ{v} _=>.imm (.any v)
 |imm h=>exact λ{v} hv=>.imm ((h.vi hv).widen hA')
 |nil=>intro v hv;rw [hv.lit_inv];exact .imm (.inil _ _ _ (.inl rfl))
 | @nilown l k h =>
  intro v hv;rw [hv.lit_inv];have h1:=hs.new l k h;exact .msl _ _ _ _ _ _ (Qb.1 h1).1 λb hb=>⟨rfl,Qk _,.inl rfl⟩
 | @msl l l' i n h =>
  intro v hv;obtain ⟨hl,a,n',cap,rfl,hb⟩:=hv.msl_inv;obtain ⟨_,_,_,h1,_,_⟩:=hs.live l l' h;exact .msl _ _ _ _ _ _ (Qb.1 h1).1 λb hb'=>hb b ((zrb (m:=m) h).symm.trans hb')
 | @mpt l l' i j h =>
  intro v hv;obtain ⟨hl,a,rfl,hb⟩:=hv.mpt_inv;obtain ⟨_,_,_,h1,_,_⟩:=hs.live l l' h;exact .mpt _ _ _ _ (Qb.1 h1).1 λb hb'=>hb b ((zrb (m:=m) h).symm.trans hb')
 | @mmp l l' h =>
  intro v hv;obtain ⟨hl,a,rfl,hb⟩:=hv.mmp_inv;obtain ⟨_,_,_,h1,_,_⟩:=hs.live l l' h;exact .mmp _ _ (Qb.1 h1).1 λb hb'=>hb b ((zrb (m:=m) h).symm.trans hb')
 | @sm l els els' hD h hl hi hrl hr ih =>
  intro v hv;obtain ⟨hlt,a,rfl,hb⟩:=hv.mmp_inv;obtain ⟨b,h1,h2,h3,h4⟩:=hR.blk l 2 els h;obtain ⟨h6,hm6,rfl⟩:=hb b h1;obtain ⟨h0,es,clock,h7,h8,h9⟩:=(h3 h6).mval hm6;have hw:=(h3 h6).wide
  exact .imm (.imp els' b.B es clock ⟨_,.inr ⟨l,b,h1,h6,rfl,rfl,hD⟩⟩ h7 (by omega) (λq hq=>by rw [<-hrl q (by omega) hq,hw q (by omega),h0])
   (λq hq j hj=>(hi _ (Qh hq) _ (Qh hj)).vi (ih q (by omega) hq j (by rw [hrl q (by omega) hq];exact hj) hj (h9 q (by omega) j (by rw [hrl q (by omega) hq];exact hj)))))
 | @sl l i n k els els' hD h hin hl hi hrl hr ih =>
  intro v hv;obtain ⟨hlt,a,n',cap,rfl,hb⟩:=hv.msl_inv;obtain ⟨b,h1,h2,h3,h4⟩:=hR.blk l k els h;obtain ⟨rfl,hcap,hc⟩:=hb b h1
  rcases hc with h5 |⟨h6,hm6,rfl,hfit⟩
  .have h0:n'=0:=by omega
   subst h0;obtain rfl:els'=[]:=Qf hl;exact .imm (.inil _ _ _ (.inl h5))
  .have hok:=(h3 h6).cells hm6;subst h2
   have hcell:∀q j,q<els'.length->j<b.k->∃u,w.cell? ⟨b.B,b.o+i*b.k+q*b.k+j,none⟩=some u/\∀(h4:q<els'.length) (h5:j<els'[q].length),VI (Ky A m L) w els'[q][j] u:=λq j hq hj=>by
    have hq1:i+q<els.length:=by omega
    have hj1:j<els[i+q].length:=by rw [hok.wide _ hq1];exact hj
    obtain ⟨u,h8,h9⟩:=hok.val (i+q) hq1 j hj1;refine ⟨u,by rw [<-h8];congr 2;rw [Qz];omega,λh10 h11=>?_⟩;exact (hi _ (Qh h10) _ (Qh h11)).vi (ih q (by omega) hq1 h10 j hj1 h11 h9)
   have hw':∀q (hq:q<els'.length),els'[q].length=b.k:=λq hq=>by
    rw [<-hrl q (by omega) (by omega) hq];exact hok.wide _ (by omega)
   have:=VI.isl (A:=Ky A m L) (w:=w) b.k els' b.B (b.o+i*b.k) cap (λq j=>(w.cell? ⟨b.B,b.o+i*b.k+q*b.k+j,none⟩).getD undef) (hR.okb h1 h6 hok (.inr ⟨l,b,h1,h6,rfl,rfl,hD⟩) hfit) (by omega) hw'
    (λq j hq hj=>by obtain ⟨u,h8,_⟩:=hcell q j hq hj;rw [h8];rfl)
    (λq hq j hj=>by
     obtain ⟨u,h8,h9⟩:=hcell q j hq (by rw [<-hw' q hq];exact hj);show VI _ w _ ((w.cell? _).getD undef)
     rw [h8];exact h9 hq hj)
   rw [hl] at this;exact .imm this
 | @slp l i j k els els' hD h hl hi hrl hr ih =>
  intro v hv;obtain ⟨hlt,a,rfl,hb⟩:=hv.mpt_inv;obtain ⟨b,h1,h2,h3,h4⟩:=hR.blk l k els h;obtain ⟨h6,hm6,rfl⟩:=hb b h1;have hok:=(h3 h6).cells hm6;subst h2
  have hcell:∀q j,q<els'.length->j<b.k->∃u,w.cell? ⟨b.B,b.o+q*b.k+j,none⟩=some u/\∀(h4:q<els'.length) (h5:j<els'[q].length),VI (Ky A m L) w els'[q][j] u:=λq j hq hj=>by
   have hq1:q<els.length:=by omega
   have hj1:j<els[q].length:=by rw [hok.wide _ hq1];exact hj
   obtain ⟨u,h8,h9⟩:=hok.val q hq1 j hj1;exact ⟨u,h8,λh10 h11=>(hi _ (Qh h10) _ (Qh h11)).vi (ih q hq1 h10 j hj1 h11 h9)⟩
  have hw':∀q (hq:q<els'.length),els'[q].length=b.k:=λq hq=>by
   rw [<-hrl q (by omega) hq];exact hok.wide _ (by omega)
  exact .imm (VI.ipt (A:=Ky A m L) (w:=w) b.k els' i j b.B b.o (λq j=>(w.cell? ⟨b.B,b.o+q*b.k+j,none⟩).getD undef) (by rw [hl];exact hR.okb0 h1 h6 hok (.inr ⟨l,b,h1,h6,rfl,rfl,hD⟩)) hw'
   (λq j hq hj=>by obtain ⟨u,h8,_⟩:=hcell q j hq hj;rw [h8];rfl)
   (λq hq j hj=>by
    obtain ⟨u,h8,h9⟩:=hcell q j hq (by rw [<-hw' q hq];exact hj);show VI _ w _ ((w.cell? _).getD undef)
    rw [h8];exact h9 hq hj))
 | @sf l n k els els' hD h hin hl hrl hr =>
  intro v hv;obtain ⟨hlt,a,n',cap,rfl,hb⟩:=hv.msl_inv;obtain ⟨b,h1,h2,h3,h4⟩:=hR.blk l k els h;obtain ⟨rfl,h5,h6⟩:=hb b h1;refine .imm (.fr _ _ ?_)
  rcases h6 with rfl |⟨h6,hm6,rfl,h7⟩
  .have hn0:n'=0:=by omega
   have:els'=[]:=Qf (by omega);subst this;rw [hn0];exact .inil _ _ _ (.inl rfl)
  .have hok:=(h3 h6).cells hm6;subst h2
   have hcell:∀q j,q<els'.length->j<b.k->∃u,w.cell? ⟨b.B,b.o+0*b.k+q*b.k+j,none⟩=some u/\∀(h4:q<els'.length) (h5:j<els'[q].length),VI (Afr (Ky A m L)) w els'[q][j] u:=λq j hq hj=>by
    have hq1:q<els.length:=by omega
    have hj1:j<els[q].length:=by rw [hok.wide _ hq1];exact hj
    obtain ⟨u,h8,h9⟩:=hok.val q hq1 j hj1;refine ⟨u,by rw [<-h8];congr 2;omega,λh10 h11=>?_⟩
    rcases hr q hq1 h10 j hj1 h11 with h12 |⟨x,h12,h13⟩
    .rw [h12] at h9
     cases h9.fr_inv with
     |fr _ _ h=>exact h.widen λB k hB=>⟨hA' B k hB.1,hB.2⟩
    .rw [h12] at h9;rw [h13,h9.lit_inv];exact .lit _
   have hw':∀q (hq:q<els'.length),els'[q].length=b.k:=λq hq=>by
    rw [<-hrl q (by omega) hq];exact hok.wide _ (by omega)
   have hAf:Afr (Ky A m L) b.B b.k:=⟨.inr ⟨l,b,h1,h6,rfl,rfl,hD⟩,(hR.nOwn l b h1 h6).1⟩
   have:=VI.isl (A:=Afr (Ky A m L)) (w:=w) b.k els' b.B (b.o+0*b.k) cap (λq j=>(w.cell? ⟨b.B,b.o+0*b.k+q*b.k+j,none⟩).getD undef) (hR.okb h1 h6 hok hAf h7) (by omega) hw'
    (λq j hq hj=>by obtain ⟨u,h8,_⟩:=hcell q j hq hj;rw [h8];rfl)
    (λq hq j hj=>by
     obtain ⟨u,h8,h9⟩:=hcell q j hq (by rw [<-hw' q hq];exact hj);show VI _ w _ ((w.cell? _).getD undef)
     rw [h8];exact h9 hq hj)
   rw [hl] at this;exact this
 |nilf=>intro v hv;rw [hv.lit_inv];exact .imm (.fr _ _ (.inil _ _ _ (.inl rfl)))
 |agg hl hr ih =>
  intro v hv;obtain ⟨a,rfl,h1,h2⟩:=hv.agg_inv;exact .agg _ _ (by omega) λi hi=>ih i hi (by omega) (h2 i (by omega))
 |tup hl hr ih =>
  intro v hv;obtain ⟨a,rfl,h1,h2⟩:=hv.tup_inv;exact .tup _ _ (by omega) λi hi=>ih i hi (by omega) (h2 i (by omega))
 |fn hl hr hl' hr' ih ih' =>
  intro v hv;obtain ⟨a,b,rfl,⟨h1,h2⟩,⟨h3,h4⟩⟩:=hv.fn_inv;exact .fn _ _ _ _ _ (by omega) (λi hi=>ih i hi (by omega) (h2 i (by omega))) (by omega) λi hi=>ih' i hi (by omega) (h4 i (by omega))
theorem R.rs{A:Am}{m:BM}{w:World}{st st0:St}{L:Xt}(hR:R A m w st)(h:Ke L st0 st):R (Ky A m L) (Kc m L) w st0:=by
 refine ⟨λB q hB=>?_,λB q l b hA hb hh=>?_,λB q q' hN h1 h2=>?_,hR.nLe,λl b hb hh=>?_,λl1 l2 b1 b2 h1 h2 hh1 hh2 he=>?_,λl b hb=>?_,λl k els0 he=>?_⟩
 .rcases hB with h1 |⟨l,b,h1,h2,rfl,_⟩
  .exact hR.aLow B q h1
  .exact hR.low h1 h2
 .obtain ⟨x,h1,h2⟩:=Iv hb hh
  rcases hA with h3 |⟨l3,b3,h3,h4,rfl,rfl,h5⟩
  .exact hR.aOwn B q x b h3 h2 hh
  .intro e;have:=hR.inj x l3 b b3 h2 h3 hh h4 e;subst this;rw [ztL h1] at h5;cases h5
 .exact hR.ownFun B q q' hN (h1.imp id λ⟨l,b,a1,a2,a3,a4,_⟩=>⟨l,b,a1,a2,a3,a4⟩) (h2.imp id λ⟨l,b,a1,a2,a3,a4,_⟩=>⟨l,b,a1,a2,a3,a4⟩)
 .obtain ⟨x,h1,h2⟩:=Iv hb hh;exact hR.nOwn x b h2 hh
 .obtain ⟨x1,k1,k2⟩:=Iv h1 hh1;obtain ⟨x2,k3,k4⟩:=Iv h2 hh2;have:=hR.inj x1 x2 b1 b2 k2 k4 hh1 hh2 he;subst this;exact h.inj l1 l2 x1 k1 k3
 .unfold Kc at hb;split at hb
  .rename_i x hx;obtain ⟨k,els0,els,h3,h4,_⟩:=h.live l x (by unfold XS;rw [hx]);exact ⟨els0,by rw [h3];rw [(hR.at hb h4).1]⟩
  .rename_i k hx;cases hb;exact ⟨[],h.new l k hx⟩
  .cases hb
 .rcases h.all l k els0 he with ⟨l',h1⟩ |⟨h1,rfl⟩
  .obtain ⟨k',els0',els,h3,h4,h5⟩:=h.live l l' h1;rw [he] at h3;cases h3;obtain ⟨b,h6,h7,h8,h9⟩:=hR.blk l' k els h4;refine ⟨b,by rw [zrb h1];exact h6,h7,λhh=>?_,λhh=>?_⟩
   .exact (h8 hh).rel h5.1 λi hi hi'=>⟨(h5.2 i hi hi').1,λj hj hj' v hv=>((h5.2 i hi hi').2 j hj hj').v hR h hv⟩
   .have:=h9 hh;subst this;exact Qf h5.1
  .exact ⟨_,zyT h1,rfl,(λhh=>by cases hh),λ_=>rfl⟩
def GR(nb0:Nat)(L:Xt):Bool:=(List.range nb0).all λl=>match L[l]? with |some (.old x)=>Nat.beq x l |some (.fresh _)=>false |_=>true
theorem zAt{nb0:Nat}{L:Xt}(h:GR nb0 L=true){l:Nat}(hl:l<nb0)(m:BM):Kc m L l=m l∨Kc m L l=none:=by
 have h1:=(Ql.1 h) l (Js.2 hl);unfold Kc
 cases hL:L[l]? with
 |none=>exact .inr rfl
 |some s =>
  rw [hL] at h1
  cases s with
  |old x=>simp at h1;subst h1;exact .inl rfl
  |dead=>exact .inr rfl
  |fresh k=>cases h1
theorem Xp.rs{A m nb0 w A' m' nb' w' st0 st'}{L:Xt}(h:Ke L st0 st')(hS:Xp A m nb0 w A' m' nb' w')(hid:GR nb0 L=true)(hn:nb0≤st0.length):Xp A m nb0 w (Ky A' m' L) (Kc m' L) st0.length w':=by
 refine ⟨hn,hS.size,λB q hB=>.inl (hS.aSub B q hB),λB q hB=>?_,λl hl=>?_,λl b hb hh=>?_,hS.heap,hS.os,hS.tape,hS.output⟩
 .rcases hB with h1 |⟨l,b,h1,h2,rfl,_⟩
  .exact hS.aNew B q h1
  .rcases hS.mNew l b h1 h2 with h3 |h3
   .exact .inr (.inl h3)
   .exact .inr (.inr h3)
 .rcases zAt hid hl m' with h1 |h1
  .rw [h1];exact hS.mOld l hl
  .exact .inr h1
 .obtain ⟨x,h1,h2⟩:=Iv hb hh;exact hS.mNew x b h2 hh
def Z1(st:St)(L:Xt):Ev->Ev->Prop
 | [],_=>True
 |(t,v0)::r,env=>(∃v,look env t=some v/\Rs st L v0 v)/\Z1 st L r env
theorem Z1.get{st L}:∀{env0 env:Ev},Z1 st L env0 env->∀t v0,look env0 t=some v0->∃v,look env t=some v/\Rs st L v0 v
 | [],_,_,t,v0,h=>by cases h
 |(k,x)::r,env,h,t,v0,hl=>by
  simp only [look] at hl;split at hl
  .rename_i e;subst e;cases hl;exact h.1
  .exact Z1.get h.2 t v0 hl
theorem Env.rs{A m w st st0 n env0 env a}{L:Xt}(hR:R A m w st)(hs:Ke L st0 st)(hE:Env A m st.length w n env a)(he:Z1 st L env0 env):Env (Ky A m L) (Kc m L) st0.length w n env0 a:=
 ⟨hE.size,λt v0 hl=>by
  obtain ⟨v,h1,h2⟩:=he.get t v0 hl;obtain ⟨h3,h4⟩:=hE.val t v h1
  exact ⟨h3,h2.v hR hs h4⟩,hE.defers⟩
def UK(st:St)(L:Xt):Xt->St->Prop
 | [],[]=>True
 |.dead ::r,none ::s=>UK st L r s
 |.fresh k ::r,some (k',els)::s=>(k'=k/\els=[])/\UK st L r s
 |.old x ::r,some (k,els0)::s=>(∃els,st[x]?=some (some (k,els))/\BZ st L els0 els)/\UK st L r s
 |_,_=>False
theorem UK.at{st:St}{L:Xt}:∀{r:Xt} {s:St},UK st L r s->∀l:Nat,
  (∀x,r[l]?=some (.old x)->∃k els0 els,s[l]?=some (some (k,els0))/\st[x]?=some (some (k,els))/\BZ st L els0 els) /\
  (∀k,r[l]?=some (.fresh k)->s[l]?=some (some (k,[])))/\(∀k els0,s[l]?=some (some (k,els0))->(∃x,r[l]?=some (.old x))∨(r[l]?=some (.fresh k)/\els0=[]))
 | [],[],_,l=>by simp
 | [],_ :: _,h,_=>by cases h
 |.dead :: _,[],h,_=>by cases h
 |.dead :: _,some _ :: _,h,_=>by cases h
 |.fresh _ :: _,[],h,_=>by cases h
 |.fresh _ :: _,none :: _,h,_=>by cases h
 |.old _ :: _,[],h,_=>by cases h
 |.old _ :: _,none :: _,h,_=>by cases h
 |.dead ::r,none ::s,h,l=>by
  cases l with
  |zero=>simp
  |succ l=>simpa using UK.at (r:=r) (s:=s) h l
 |.fresh k ::r,some (k',els)::s,h,l=>by
  obtain ⟨⟨rfl,rfl⟩,h2⟩:=h
  cases l with
  |zero=>simp
  |succ l=>simpa using UK.at (r:=r) (s:=s) h2 l
 |.old x ::r,some (k,els0)::s,h,l=>by
  obtain ⟨⟨els,h1,h3⟩,h2⟩:=h
  cases l with
  |zero =>
   refine ⟨λy hy=>?_,λk' hk=>by simp at hk,λk' e' he'=>.inl ⟨x,by simp⟩⟩;simp at hy;subst hy;exact ⟨k,els0,els,by simp,h1,h3⟩
  |succ l=>simpa using UK.at (r:=r) (s:=s) h2 l
def Ut:Xt->Bool
 | []=>true
 |.old x ::r=>(!Ur r x)&&Ut r
 |_ ::r=>Ut r
theorem zvp:∀{L:Xt},Ut L=true->∀l1 l2 x,XS L l1=some x->XS L l2=some x->l1=l2
 | [],_,l1,_,x,h,_=>by simp [XS] at h
 |s ::L,h,l1,l2,x,h1,h2=>by
  have hL:Ut L=true:=by cases s <;> simp [Ut] at h <;> first |exact h.2 |exact h
  cases l1 with
  |zero =>
   cases l2 with
   |zero=>rfl
   |succ l2 =>
    cases s with
    |old y =>
     simp [XS] at h1;subst h1;have:=ztL (L:=L) (l:=l2) (x:=y) (by simpa [XS] using h2);simp [Ut,this] at h
    |dead=>simp [XS] at h1
    |fresh k=>simp [XS] at h1
  |succ l1 =>
   cases l2 with
   |zero =>
    cases s with
    |old y =>
     simp [XS] at h2;subst h2;have:=ztL (L:=L) (l:=l1) (x:=y) (by simpa [XS] using h1);simp [Ut,this] at h
    |dead=>simp [XS] at h2
    |fresh k=>simp [XS] at h2
   |succ l2=>rw [zvp hL l1 l2 x (by simpa [XS] using h1) (by simpa [XS] using h2)]
theorem Ke.of{L:Xt}{st0 st:St}(ho:Ut L=true)(h:UK st L L st0):Ke L st0 st where
 live:=λl l' hl=>by
  unfold XS at hl;split at hl
  .rename_i x hx;cases hl;exact (h.at l).1 _ hx
  .cases hl
 all:=λl k els0 he=>by
  rcases (h.at l).2.2 k els0 he with ⟨x,hx⟩ |h1
  .exact .inl ⟨x,by unfold XS;rw [hx]⟩
  .exact .inr h1
 new:=λl k hk=>(h.at l).2.1 k hk
 inj:=zvp ho
def Can(nb0:Nat)(env0:Ev)(st0:St)(env:Ev)(st:St):Prop:=
 ∃L:Xt,Z1 st L env0 env/\Ut L=true/\UK st L L st0/\GR nb0 L=true/\nb0≤st0.length
section
variable {P : Program} {n nb0 : Nat} {env env0 : Ev} {st st0 : St}
theorem Wz{c:Code}{Q:Exit->Ev->St->Prop}(hc:Can nb0 env0 st0 env st)(h:SW P n nb0 c Q env0 st0):SW P n nb0 c Q env st:=by
 obtain ⟨L,h1,h2,h3,h4,h5⟩:=hc;intro A m w a h0 hR hE;have hs:=Ke.of h2 h3;exact wp_mono (h _ _ w a h5 (hR.rs hs) (hE.rs hR hs h1)) λ_ _ _ k=>k.trans ((Xp.refl0 A m st.length w h0).rs hs h4 h5)
theorem zx{all l1 l2:List Oper}{K:Ev->St->Prop}(hc:Can nb0 env0 st0 env st)(h:SR P n nb0 all l1 l2 K env0 st0):SR P n nb0 all l1 l2 K env st:=by
 obtain ⟨L,h1,h2,h3,h4,h5⟩:=hc;intro ops i ho hd hn A m w a h0 hR hE Q hQ;have hs:=Ke.of h2 h3;exact h ops i ho hd hn _ _ w a h5 (hR.rs hs) (hE.rs hR hs h1) Q λa' w' k=>hQ a' w' (k.trans ((Xp.refl0 A m st.length w h0).rs hs h4 h5))
theorem Xz{x y:Code}{Q:Exit->Ev->St->Prop}{X:Type}(E:X->Ev)(S:X->St)(I:X->Prop)
  (h:SW P n nb0 x (Do (λenv st=>∃z,I z/\Can nb0 (E z) (S z) env st) Q) env st) (k:∀z,I z->SW P n nb0 y Q (E z) (S z)):SW P n nb0 (.seq x y) Q env st:=
 ze (h.mono λe env st h=>by cases e <;> first |(obtain ⟨z,h1,h2⟩:=h;exact Wz h2 (k z h1)) |exact h)
def LQ(id:Nat){X B R:Type}(nb0:Nat)(E:X->Ev)(S:X->St)(E':B->Ev)(S':B->St)(post:R->Ev->St->Prop)(o:Sum X (Sum B R)):Exit->Ev->St->Prop
 |.normal,env,st=>∃z,o=.inl z/\Can nb0 (E z) (S z) env st
 |.exit i,env,st=>i=id/\∃b,o=.inr (.inl b)/\Can nb0 (E' b) (S' b) env st
 |.ret,env,st=>∃r,o=.inr (.inr r)/\post r env st
 |_,_,_=>False
theorem zHg{id:Nat}{c y:Code}{Q:Exit->Ev->St->Prop}{X B R:Type}(E:X->Ev)(S:X->St)(E':B->Ev)(S':B->St)(post:R->Ev->St->Prop){body:X->Option (Sum X (Sum B R))}{z0:X}{o:Sum B R}
  (ho:zp body z0=some o) (hc:Can nb0 (E z0) (S z0) env st) (round:∀z r,body z=some r->SW P n nb0 c (LQ id nb0 E S E' S' post r) (E z) (S z))
  (hb:∀b,o=.inl b->SW P n nb0 y Q (E' b) (S' b)) (hr:∀r,o=.inr r->∀env st,post r env st->Q .ret env st):SW P n nb0 (.seq (.block id (.loop c)) y) Q env st:=by
 obtain ⟨N,hN⟩:=Iw ho;refine ze (zh (zwX (λk env st=>∃z,ZX body k z=some o/\Can nb0 (E z) (S z) env st) N ⟨z0,hN,hc⟩ ?_));rintro k env st ⟨z,hz,hcan⟩
 cases k with
 |zero=>cases hz
 |succ k =>
  unfold ZX at hz
  cases hbz:body z with
  |none=>rw [hbz] at hz;cases hz
  |some r =>
   rw [hbz] at hz;refine Wz hcan ((round z r hbz).mono λe env st h=>?_)
   cases e with
   |normal =>
    obtain ⟨z',rfl,h2⟩:=h;exact ⟨k,QN k,z',hz,h2⟩
   |exit i =>
    obtain ⟨rfl,b,rfl,h2⟩:=h;show Hz i _ (.exit i) env st;simp only [Hz,if_true];exact Wz h2 (hb b (sm hz).symm)
   |ret =>
    obtain ⟨r',rfl,h2⟩:=h;exact hr r' (sm hz).symm env st h2
   |goto l=>exact h.elim
   |panic c=>exact h.elim
   |outgrown=>exact h.elim
end
def Xe(s:List UInt8):List AV:=[.lit (.string (B s))]
def rI(k:IntKind)(n:Int):List AV:=[.lit (.int k n)]
def rB(b:Bool):List AV:=[.lit (.bool b)]
def rL{α:Type}(k:Nat)(f:α->List AV)(l:List α):List AV:=[.isl k (l.map f)]
def E7(nb0:Nat)(av0:AV)(st0:St)(av:AV)(st:St):Prop:=
 ∃L:Xt,Rs st L av0 av/\Ut L=true/\UK st L L st0/\GR nb0 L=true/\nb0≤st0.length
def Ua(P:Program)(fn:Func)(nb0:Nat)(av0:AV)(st0:St)(env:Ev)(st:St):Prop:=∃av,KU P fn env st=some av/\E7 nb0 av0 st0 av st
def QF(P:Program)(fn:Func)(nb0:Nat)(av0:AV)(st0:St):Exit->Ev->St->Prop
 |.normal,env,st=>Ua P fn nb0 av0 st0 env st
 |.ret,env,st=>Ua P fn nb0 av0 st0 env st
 |_,_,_=>False
theorem zZ {P : Program} {f : FuncId} {fn : Func} {c : Code} {args : List AV} {st : St} {av0 : AV} {st0 : St} (hf : P.funcs[f]? = some fn) (hb : fn.body = some c) (hn : (fn.name == "runtime.NumGoroutine") = false) (hlen : Nat.ble args.length fn.ntmps = true)
  (h:SW P fn.ntmps st.length c (QF P fn st.length av0 st0) (GI 0 args) st):Uv P f args st (λav st'=>av=av0/\st'=st0):=by
 have h1:=zth (K:=λav st'=>E7 st.length av0 st0 av st') hf hb hn (Qv hlen) (h.mono λe env st h=>by cases e <;> exact h);refine ⟨h1.1,λA m w vals hR hv=>(h1.2 A m w vals hR hv).mono λe w' ⟨v,A',m',st',av,he,hR',hS,hv',L,k1,k2,k3,k4,k5⟩=>?_⟩;have hs:=Ke.of k2 k3;exact ⟨v,_,_,st0,av0,he,hR'.rs hs,hS.rs hs k4 k5,k1.v hR' hs hv',rfl,rfl⟩
theorem zi {P : Program} {f : FuncId} {fn : Func} {c : Code} {args : List AV} {res : AV} (hf : P.funcs[f]? = some fn) (hb : fn.body = some c) (hn : (fn.name == "runtime.NumGoroutine") = false) (hlen : Nat.ble args.length fn.ntmps = true) (hi : KQ res = true)
  (h:SW P fn.ntmps 0 c (QF P fn 0 res []) (GI 0 args) []):Xm P f args res:=
 zua ((zZ (st:=[]) hf hb hn hlen h).mono λav st ⟨h1,h2⟩=>by subst h1;exact .imm (DG hi))
inductive SB where
 |no
 |many (k:Nat) (els:List (List AV))
 |one (k:Nat) (cs:List AV)
 |xs (k:Nat) (rows:List (List AV))
def SB.b:SB->Option (Nat×List (List AV))
 |.no=>none
 |.many k els=>some (k,els)
 |.one k cs=>some (k,[cs])
 |.xs k rows=>some (k,rows)
def SBs:List SB->St
 | []=>[]
 |x ::r=>x.b ::SBs r
def SB.ok:SB->Prop
 |.many _ els=>∀r∈els,∀x∈r,Imm x
 |_=>True
def E6:List SB->Prop
 | []=>True
 |x ::r=>x.ok/\E6 r
def SC(P:Program)(f:FuncId)(args:List AV)(bs0:List SB)(av:AV)(bs1:List SB):Prop:=E6 bs1/\Uv P f args (SBs bs0) (λa s=>a=av/\s=SBs bs1)
def Hs(ρ:Nat->Option Nat):List AV->List AV->Prop
 | [],[]=>True
 |x ::l,y ::r=>Rn ρ x y/\Hs ρ l r
 |_,_=>False
theorem Hs.get{ρ}:∀{l r:List AV},Hs ρ l r->l.length=r.length/\∀i (h:i<l.length) (h':i<r.length),Rn ρ l[i] r[i]
 | [],[],_=>⟨rfl,λi h=>by cases h⟩
 | [],_ :: _,h=>h.elim
 |_ :: _,[],h=>h.elim
 |x ::l,y ::r,h=>by
  obtain ⟨h1,h2⟩:=Hs.get h.2;refine ⟨by simp [h1],λi hi hi'=>?_⟩
  cases i with
  |zero=>exact h.1
  |succ i=>exact h2 i (by simpa using hi) (by simpa using hi')
def InB(ρ:Nat->Option Nat)(st:St):List Nat->List SB->Prop
 | [],[]=>True
 |l ::L,.many k els ::bs=>(st[l]?=some (some (k,els))/\∀r∈els,∀x∈r,Imm x)/\InB ρ st L bs
 |l ::L,.one k cs ::bs=>(∃cs',st[l]?=some (some (k,[cs']))/\Hs ρ cs cs')/\InB ρ st L bs
 |_,_=>False
theorem InB.at{ρ st}:∀{L:List Nat} {bs:List SB},InB ρ st L bs->L.length=bs.length/\∀i l:Nat,L[i]?=some l->∃k els0 els,(SBs bs)[i]?=some (some (k,els0))/\st[l]?=some (some (k,els))/\U0 ρ els0 els
 | [],[],_=>⟨rfl,λi l h=>by simp at h⟩
 | [],_ :: _,h=>h.elim
 |_ :: _,[],h=>h.elim
 |_ :: _,.no :: _,h=>h.elim
 |_ :: _,.xs _ _ :: _,h=>h.elim
 |l ::L,.many k els ::bs,h=>by
  obtain ⟨h1,h2⟩:=InB.at h.2;refine ⟨by simp [h1],λi x hx=>?_⟩
  cases i with
  |zero =>
   simp at hx;subst hx;exact ⟨k,els,els,rfl,h.1.1,U0.same h.1.2⟩
  |succ i=>simpa [SBs] using h2 i x (by simpa using hx)
 |l ::L,.one k cs ::bs,h=>by
  obtain ⟨h1,h2⟩:=InB.at h.2;refine ⟨by simp [h1],λi x hx=>?_⟩
  cases i with
  |zero =>
   simp at hx;subst hx;obtain ⟨cs',h3,h4⟩:=h.1;exact ⟨k,[cs],[cs'],rfl,h3,U0.one h4.get.1 h4.get.2⟩
  |succ i=>simpa [SBs] using h2 i x (by simpa using hx)
theorem zpY:∀bs:List SB,(SBs bs).length=bs.length
 | []=>rfl
 |_ ::r=>by simp [SBs,zpY r]
def zHe(τ:Nat->Nat):SB->Option (Nat×List (List AV))
 |.no=>none
 |.many k els=>some (k,els)
 |.one k cs=>some (k,[rnL τ cs])
 |.xs k rows=>some (k,rows.map (rnL τ))
def zBd(τ:Nat->Nat):List SB->St
 | []=>[]
 |x ::r=>zHe τ x ::zBd τ r
def zDg(τ:Nat->Nat):St->List Nat->List SB->St
 |st,l ::L,b ::bs=>zDg τ (st.set l (zHe τ b)) L bs
 |st,_,_=>st
def BY(τ:Nat->Nat):List Nat->List SB->St
 |_ ::L,_ ::bs=>BY τ L bs
 |_,bs=>zBd τ bs
def zGN(L:List Nat)(st:St)(bs:List SB):St:=zDg (tau L st.length) st L bs++BY (tau L st.length) L bs
theorem Imm.rn{τ:Nat->Nat}{x:AV}(h:Imm x):rn τ x=x:=by
 induction h with
 |any=>rfl
 |lit v=>rfl
 |isl k e=>rfl
 |ipt k e i j=>rfl
 |imp e=>rfl
 |fr x=>rfl
 |agg cs _ ih =>
  rw [Go.Proofs.YthmnlfenkhmmhaaGreat.rn,UL];congr 1
  (conv=>rhs;rw [<-J4 cs]);exact Jq ih
 |tup cs _ ih =>
  rw [Go.Proofs.YthmnlfenkhmmhaaGreat.rn,UL];congr 1
  (conv=>rhs;rw [<-J4 cs]);exact Jq ih
 |fn f cs ds _ _ ih ih' =>
  rw [Go.Proofs.YthmnlfenkhmmhaaGreat.rn,UL,UL];congr 1
  ·(conv=>rhs;rw [<-J4 cs]);exact Jq ih
  .conv=>rhs;rw [<-J4 ds]
   exact Jq ih'
theorem zBc{τ:Nat->Nat}{b:SB}(h:b.ok):zHe τ b=K2 τ b.b:=by
 cases b with
 |no=>rfl
 |one k cs=>rfl
 |xs k rows=>rfl
 |many k els =>
  show some (k,els)=some (k,G5 τ els);congr 2;unfold G5
  conv=>lhs;rw [<-J4 els]
  refine Jq λr hr=>?_;rw [UL]
  conv=>lhs;rw [<-J4 (id r)]
  exact Jq λx hx=>((h r hr x hx).rn).symm
theorem zx1{τ:Nat->Nat}:∀{bs:List SB},E6 bs->zBd τ bs=(SBs bs).map (K2 τ)
 | [],_=>rfl
 |b ::bs,h=>by rw [zBd,SBs,Yq,zBc h.1,zx1 h.2]
theorem zx4{τ:Nat->Nat}:∀{L:List Nat} {st:St} {bs:List SB},E6 bs->zDg τ st L bs=Gz τ st L ((SBs bs).take L.length)
 | [],st,bs,_=>by cases bs <;> rfl
 |l ::L,st,[],_=>rfl
 |l ::L,st,b ::bs,h=>by
  rw [zDg,SBs,Qu,List.take_succ_cons,Gz,zBc h.1];exact zx4 h.2
theorem zuH{τ:Nat->Nat}:∀{L:List Nat} {bs:List SB},E6 bs->BY τ L bs=((SBs bs).drop L.length).map (K2 τ)
 | [],bs,h=>by unfold BY;exact zx1 h
 |l ::L,[],_=>by simp [BY,zBd,SBs]
 |l ::L,b ::bs,h=>by
  rw [BY,SBs,Qu,List.drop_succ_cons];exact zuH h.2
theorem zFy{L:List Nat}{st:St}{bs:List SB}(h:E6 bs):zGN L st bs=Ue L st (SBs bs):=by
 unfold zGN Ue;rw [zx4 h,zuH h]
def Id:List Nat->Bool
 | []=>true
 |x ::l=>(!Xr x l)&&Id l
theorem zqg:∀{l:List Nat},Id l=true->l.Nodup
 | [],_=>List.nodup_nil
 |x ::l,h=>by
  simp only [Id,Qd,Qn] at h;refine Jp.2 ⟨λhm=>?_,zqg h.2⟩;rw [GH.2 hm] at h;cases h.1
def Ia(k:Nat):List Nat->Bool
 | []=>true
 |x ::l=>Nat.blt x k&&Ia k l
theorem zuL{k:Nat}:∀{l:List Nat},Ia k l=true->∀x∈l,x<k
 | [],_,x,h=>by cases h
 |y ::l,h,x,hx=>by
  simp only [Ia,Qd] at h
  rcases Qr.1 hx with rfl |hx
  .exact Qv h.1
  .exact zuL h.2 x hx
section
variable {P : Program} {env : Ev} {st : St} {K : Ev -> St -> Prop} {d : Nat} {ty : TypeId} {pos : String} {aft : Array Edge} {gu : Option (Nat × Bool)}
theorem XV{op:Op}{av:AV}{st':St}(hc:ZF op=false)(h:aop P env st op=some (av,st'))(k:K ((d,av)::env) st'):SOp P ⟨some d,op,ty,pos,aft,gu⟩ env st K:=by
 unfold SOp;simp only [hc,h];exact k
theorem zG6{op:Op}{av:AV}{st':St}(hc:ZF op=false)(h:aop P env st op=some (av,st'))(k:K env st'):SOp P ⟨none,op,ty,pos,aft,gu⟩ env st K:=by
 unfold SOp;simp only [hc,h];exact k
theorem mv{x:Operand}{v:AV}(hx:ev env x=some v)(k:K ((d,v)::env) st):SOp P ⟨some d,.move x,ty,pos,aft,gu⟩ env st K:=XV rfl (by simp [aop,hx]) k
theorem asg{x:Operand}{v:AV}(hx:ev env x=some v)(k:K ((d,v)::env) st):SOp P ⟨some d,.assign x,ty,pos,aft,gu⟩ env st K:=XV rfl (by simp [aop,hx]) k
theorem bn{o:BinOp}{t u:TypeId}{x y:Operand}{ti:TI}{a b v:AV}(ht:Xf P t=some ti)(hx:ev env x=some a)(hy:ev env y=some b)(h:Up ti.k o a b=some v)(k:K ((d,v)::env) st):
  SOp P ⟨some d,.binOp o t x y u,ty,pos,aft,gu⟩ env st K:=XV rfl (by simp [aop,ht,hx,hy,h]) k
theorem lss{t u:TypeId}{x y:Operand}{ti:TI}{kk:IntKind}{a b:Int}(ht:Xf P t=some ti)(hx:ev env x=some (.lit (.int kk a)))(hy:ev env y=some (.lit (.int kk b)))(k:K ((d,.lit (.bool (decide (a<b))))::env) st):
  SOp P ⟨some d,.binOp .lss t x y u,ty,pos,aft,gu⟩ env st K:=bn ht hx hy (by simp [Up,shI,KT]) k
theorem leq{t u:TypeId}{x y:Operand}{ti:TI}{kk:IntKind}{a b:Int}(ht:Xf P t=some ti)(hx:ev env x=some (.lit (.int kk a)))(hy:ev env y=some (.lit (.int kk b)))(k:K ((d,.lit (.bool (decide (a≤b))))::env) st):
  SOp P ⟨some d,.binOp .leq t x y u,ty,pos,aft,gu⟩ env st K:=bn ht hx hy (by simp [Up,shI,KT]) k
theorem gtr{t u:TypeId}{x y:Operand}{ti:TI}{kk:IntKind}{a b:Int}(ht:Xf P t=some ti)(hx:ev env x=some (.lit (.int kk a)))(hy:ev env y=some (.lit (.int kk b)))(k:K ((d,.lit (.bool (decide (b<a))))::env) st):
  SOp P ⟨some d,.binOp .gtr t x y u,ty,pos,aft,gu⟩ env st K:=bn ht hx hy (by simp [Up,shI,KT]) k
theorem geq{t u:TypeId}{x y:Operand}{ti:TI}{kk:IntKind}{a b:Int}(ht:Xf P t=some ti)(hx:ev env x=some (.lit (.int kk a)))(hy:ev env y=some (.lit (.int kk b)))(k:K ((d,.lit (.bool (decide (b≤a))))::env) st):
  SOp P ⟨some d,.binOp .geq t x y u,ty,pos,aft,gu⟩ env st K:=bn ht hx hy (by simp [Up,shI,KT]) k
theorem eql{t u:TypeId}{x y:Operand}{ti:TI}{kk:IntKind}{a b:Int}(ht:Xf P t=some ti)(hx:ev env x=some (.lit (.int kk a)))(hy:ev env y=some (.lit (.int kk b)))(k:K ((d,.lit (.bool (a == b)))::env) st):
  SOp P ⟨some d,.binOp .eql t x y u,ty,pos,aft,gu⟩ env st K:=bn ht hx hy (by simp [Up,shI,KT]) k
theorem neq{t u:TypeId}{x y:Operand}{ti:TI}{kk:IntKind}{a b:Int}(ht:Xf P t=some ti)(hx:ev env x=some (.lit (.int kk a)))(hy:ev env y=some (.lit (.int kk b)))(k:K ((d,.lit (.bool (!(a == b))))::env) st):
  SOp P ⟨some d,.binOp .neq t x y u,ty,pos,aft,gu⟩ env st K:=bn ht hx hy (by simp [Up,shI,KT,bne]) k
theorem add{t u:TypeId}{x y:Operand}{ti:TI}{kk:IntKind}{a b:Int}(ht:Xf P t=some ti)(hx:ev env x=some (.lit (.int kk a)))(hy:ev env y=some (.lit (.int kk b)))(k:K ((d,.lit (.int kk (kk.wrap (a+b))))::env) st):
  SOp P ⟨some d,.binOp .add t x y u,ty,pos,aft,gu⟩ env st K:=bn ht hx hy (by simp [Up,shI,KT,arI]) k
theorem sub{t u:TypeId}{x y:Operand}{ti:TI}{kk:IntKind}{a b:Int}(ht:Xf P t=some ti)(hx:ev env x=some (.lit (.int kk a)))(hy:ev env y=some (.lit (.int kk b)))(k:K ((d,.lit (.int kk (kk.wrap (a-b))))::env) st):
  SOp P ⟨some d,.binOp .sub t x y u,ty,pos,aft,gu⟩ env st K:=bn ht hx hy (by simp [Up,shI,KT,arI]) k
theorem mul{t u:TypeId}{x y:Operand}{ti:TI}{kk:IntKind}{a b:Int}(ht:Xf P t=some ti)(hx:ev env x=some (.lit (.int kk a)))(hy:ev env y=some (.lit (.int kk b)))(k:K ((d,.lit (.int kk (kk.wrap (a*b))))::env) st):
  SOp P ⟨some d,.binOp .mul t x y u,ty,pos,aft,gu⟩ env st K:=bn ht hx hy (by simp [Up,shI,KT,arI]) k
theorem arb{o:BinOp}{t u:TypeId}{x y:Operand}{ti:TI}{kk kb:IntKind}{a b r:Int}(ht:Xf P t=some ti)(hx:ev env x=some (.lit (.int kk a)))(hy:ev env y=some (.lit (.int kb b)))
  (h:(shI kk o a b=some r)∨(shI kk o a b=none/\kk=kb/\KT o a b=none/\arI kk o a b=some r)) (k:K ((d,.lit (.int kk r))::env) st):SOp P ⟨some d,.binOp o t x y u,ty,pos,aft,gu⟩ env st K:=
 bn ht hx hy (by rcases h with h |⟨h1,rfl,h2,h3⟩ <;> simp [Up, *]) k
theorem quo{t u:TypeId}{x y:Operand}{ti:TI}{kk:IntKind}{a b r:Int}(ht:Xf P t=some ti)(hx:ev env x=some (.lit (.int kk a)))(hy:ev env y=some (.lit (.int kk b)))(h:zHX kk a b=some r)(k:K ((d,.lit (.int kk r))::env) st):
  SOp P ⟨some d,.binOp .quo t x y u,ty,pos,aft,gu⟩ env st K:=arb ht hx hy (.inr ⟨rfl,rfl,rfl,h⟩) k
theorem rem{t u:TypeId}{x y:Operand}{ti:TI}{kk:IntKind}{a b r:Int}(ht:Xf P t=some ti)(hx:ev env x=some (.lit (.int kk a)))(hy:ev env y=some (.lit (.int kk b)))(h:Z7 a b=some r)(k:K ((d,.lit (.int kk r))::env) st):
  SOp P ⟨some d,.binOp .rem t x y u,ty,pos,aft,gu⟩ env st K:=arb ht hx hy (.inr ⟨rfl,rfl,rfl,h⟩) k
theorem shl{t u:TypeId}{x y:Operand}{ti:TI}{kk kb:IntKind}{a b r:Int}(ht:Xf P t=some ti)(hx:ev env x=some (.lit (.int kk a)))(hy:ev env y=some (.lit (.int kb b)))(h:zH3 kk a b=some r)(k:K ((d,.lit (.int kk r))::env) st):
  SOp P ⟨some d,.binOp .shl t x y u,ty,pos,aft,gu⟩ env st K:=arb ht hx hy (.inl h) k
theorem shr{t u:TypeId}{x y:Operand}{ti:TI}{kk kb:IntKind}{a b r:Int}(ht:Xf P t=some ti)(hx:ev env x=some (.lit (.int kk a)))(hy:ev env y=some (.lit (.int kb b)))(h:zH4 kk a b=some r)(k:K ((d,.lit (.int kk r))::env) st):
  SOp P ⟨some d,.binOp .shr t x y u,ty,pos,aft,gu⟩ env st K:=arb ht hx hy (.inl h) k
theorem seq{t u:TypeId}{x y:Operand}{ti:TI}{a b:List UInt8}(ht:Xf P t=some ti)(hx:ev env x=some (.lit (.string (B a))))(hy:ev env y=some (.lit (.string (B b))))(k:K ((d,.lit (.bool (a == b)))::env) st):
  SOp P ⟨some d,.binOp .eql t x y u,ty,pos,aft,gu⟩ env st K:=bn ht hx hy rfl k
theorem sne{t u:TypeId}{x y:Operand}{ti:TI}{a b:List UInt8}(ht:Xf P t=some ti)(hx:ev env x=some (.lit (.string (B a))))(hy:ev env y=some (.lit (.string (B b))))(k:K ((d,.lit (.bool (!(a == b))))::env) st):
  SOp P ⟨some d,.binOp .neq t x y u,ty,pos,aft,gu⟩ env st K:=bn ht hx hy rfl k
theorem slt{t u:TypeId}{x y:Operand}{ti:TI}{a b:List UInt8}(ht:Xf P t=some ti)(hx:ev env x=some (.lit (.string (B a))))(hy:ev env y=some (.lit (.string (B b))))(k:K ((d,.lit (.bool (Op.bytesLess a b)))::env) st):
  SOp P ⟨some d,.binOp .lss t x y u,ty,pos,aft,gu⟩ env st K:=bn ht hx hy rfl k
theorem zH2{t u:TypeId}{x y:Operand}{ti:TI}{a b r:List UInt8}(ht:Xf P t=some ti)(hx:ev env x=some (.lit (.string (B a))))(hy:ev env y=some (.lit (.string (B b))))(h:Wo a b=some r)(k:K ((d,.lit (.string (B r)))::env) st):
  SOp P ⟨some d,.binOp .add t x y u,ty,pos,aft,gu⟩ env st K:=bn ht hx hy (by
   unfold Wo at h;split at h
   .rename_i h1;cases h;simp [Up,zHf,h1]
   .cases h) k
theorem beq{t u:TypeId}{x y:Operand}{ti:TI}{a b:Bool}(ht:Xf P t=some ti)(hk:ti.k=.bool)(hx:ev env x=some (.lit (.bool a)))(hy:ev env y=some (.lit (.bool b)))(k:K ((d,.lit (.bool (a == b)))::env) st):
  SOp P ⟨some d,.binOp .eql t x y u,ty,pos,aft,gu⟩ env st K:=bn ht hx hy (by rw [hk];rfl) k
theorem bne{t u:TypeId}{x y:Operand}{ti:TI}{a b:Bool}(ht:Xf P t=some ti)(hk:ti.k=.bool)(hx:ev env x=some (.lit (.bool a)))(hy:ev env y=some (.lit (.bool b)))(k:K ((d,.lit (.bool (!(a == b))))::env) st):
  SOp P ⟨some d,.binOp .neq t x y u,ty,pos,aft,gu⟩ env st K:=bn ht hx hy (by rw [hk];rfl) k
theorem nt{t:TypeId}{x:Operand}{b:Bool}(hx:ev env x=some (.lit (.bool b)))(k:K ((d,.lit (.bool (!b)))::env) st):SOp P ⟨some d,.unOp .not t x,ty,pos,aft,gu⟩ env st K:=XV rfl (by simp [aop,hx,aun]) k
theorem ng{t:TypeId}{x:Operand}{kk:IntKind}{a:Int}(hx:ev env x=some (.lit (.int kk a)))(k:K ((d,.lit (.int kk (kk.wrap (0-a))))::env) st):SOp P ⟨some d,.unOp .neg t x,ty,pos,aft,gu⟩ env st K:=XV rfl (by simp [aop,hx,aun]) k
theorem pk{c x y:Operand}{b:Bool}{v:AV}(hc:ev env c=some (.lit (.bool b)))(h:(match b with |true=>ev env x |false=>ev env y)=some v)(k:K ((d,v)::env) st):SOp P ⟨some d,.pick c x y,ty,pos,aft,gu⟩ env st K:=XV rfl (by cases b <;> simp at h <;> simp [aop,hc,h]) k
theorem ex{x:Operand}{i:Nat}{vs:List AV}{v:AV}(hx:ev env x=some (.tup vs))(h:vs[i]?=some v)(k:K ((d,v)::env) st):SOp P ⟨some d,.extract x i,ty,pos,aft,gu⟩ env st K:=XV rfl (by simp [aop,hx,h]) k
theorem al{t:TypeId}{ti:TI}(nn:Nat)(ht:Xf P t=some ti)(hn:st.length=nn)(k:K ((d,.mpt nn 0 0)::env) (st++[some (ti.size,[X7 ti.zero])])):SOp P ⟨some d,.alloc t,ty,pos,aft,gu⟩ env st K:=XV rfl (by simp [aop,ht,hn]) k
theorem bx{t:TypeId}{x:Operand}{v:AV}{cs:List AV}(nn kk:Nat)(hx:ev env x=some v)(hc:UZ v=some cs)(hl:cs.length=kk)(hn:st.length=nn)(k:K ((d,.mpt nn 0 0)::env) (st++[some (kk,[cs])])):
  SOp P ⟨some d,.box t x,ty,pos,aft,gu⟩ env st K:=XV rfl (by simp [aop,hx,hc,hn,hl]) k
theorem ld{t:TypeId}{x:Operand}{ti:TI}{p v:AV}(ht:Xf P t=some ti)(hx:ev env x=some p)(h:Dq st ti p=some v)(k:K ((d,v)::env) st):SOp P ⟨some d,.load t x,ty,pos,aft,gu⟩ env st K:=XV rfl (by simp [aop,ht,hx,h]) k
theorem sto{t:TypeId}{x y:Operand}{ti:TI}{p v:AV}{st':St}(ht:Xf P t=some ti)(hx:ev env x=some p)(hy:ev env y=some v)(h:B5 st ti p v=some st')(k:K env st'):SOp P ⟨none,.store t x y,ty,pos,aft,gu⟩ env st K:=zG6 (av:=.lit undef) rfl (by simp [aop,ht,hx,hy,h]) k
theorem fa{t:TypeId}{x:Operand}{f:Nat}{ti:TI}{p v:AV}(ht:Xf P t=some ti)(hx:ev env x=some p)(hl:Hv st p=true)(h:zw1 ti p f=some v)(k:K ((d,v)::env) st):SOp P ⟨some d,.fieldAddr t x f,ty,pos,aft,gu⟩ env st K:=XV rfl (by simp [aop,ht,hx,hl,h]) k
theorem nc{x:Operand}{p:AV}(hx:ev env x=some p)(hl:Hv st p=true)(k:K ((d,p)::env) st):SOp P ⟨some d,.nilCheck x,ty,pos,aft,gu⟩ env st K:=XV rfl (by simp [aop,hx,hl]) k
theorem mf{f:FuncId}{a b:Array Operand}{ax bx:List AV}(ha:Dz env a.toList=some ax)(hb:Dz env b.toList=some bx)(k:K ((d,.fn (.func f) ax bx)::env) st):SOp P ⟨some d,.makeFunc (.func f) a b,ty,pos,aft,gu⟩ env st K:=XV rfl (by simp [aop,ha,hb]) k
theorem lnS{x:Operand}{t:TypeId}{ti:TI}{l:List UInt8}(ht:Xf P t=some ti)(hk:ti.k=.str)(hx:ev env x=some (.lit (.string (B l))))(k:K ((d,.lit (.int .i64 (l.length:Nat)))::env) st):
  SOp P ⟨some d,.call ⟨.builtin .len,#[x],#[t]⟩,ty,pos,aft,gu⟩ env st K:=XV rfl (by simp [aop,Hb,Dt,ht,hk,hx]) k
theorem lnI{α:Type}{x:Operand}{t e:TypeId}{ti:TI}{kk:Nat}{l:List α}{f:α->List AV}(ht:Xf P t=some ti)(hk:ti.k=.slc e)(hx:ev env x=some (.isl kk (l.map f)))(k:K ((d,.lit (.int .i64 (l.length:Nat)))::env) st):
  SOp P ⟨some d,.call ⟨.builtin .len,#[x],#[t]⟩,ty,pos,aft,gu⟩ env st K:=XV rfl (by simp [aop,Hb,Dt,ht,hk,hx]) k
theorem lnM{x:Operand}{t e:TypeId}{ti:TI}{l i n:Nat}(ht:Xf P t=some ti)(hk:ti.k=.slc e)(hx:ev env x=some (.msl l i n))(hl:Hv st (.mpt l 0 0)=true)(k:K ((d,.lit (.int .i64 (n:Nat)))::env) st):
  SOp P ⟨some d,.call ⟨.builtin .len,#[x],#[t]⟩,ty,pos,aft,gu⟩ env st K:=XV rfl (by
   simp only [Hv] at hl
   cases hq:st[l]? with
   |none=>rw [hq] at hl;cases hl
   |some b =>
    cases b with
    |none=>rw [hq] at hl;cases hl
    |some b=>simp [aop,Hb,Dt,ht,hk,hx,hq]) k
theorem lnN{x:Operand}{t e:TypeId}{ti:TI}(ht:Xf P t=some ti)(hk:ti.k=.slc e)(hx:ev env x=some (.lit (.slice none 0 0)))(k:K ((d,.lit (.int .i64 0))::env) st):
  SOp P ⟨some d,.call ⟨.builtin .len,#[x],#[t]⟩,ty,pos,aft,gu⟩ env st K:=XV rfl (by simp [aop,Hb,Dt,ht,hk,hx]) k
theorem ixS{t:TypeId}{x y:Operand}{ti:TI}{kk:IntKind}{l:List UInt8}{i:Int}{c:UInt8}(ht:Xf P t=some ti)(hk:ti.k=.str)(hx:ev env x=some (.lit (.string (B l))))(hy:ev env y=some (.lit (.int kk i)))(h:idx l i=some c)
  (k:K ((d,.lit (.int .u8 (c.toNat:Int)))::env) st):SOp P ⟨some d,.index t x y,ty,pos,aft,gu⟩ env st K:=XV rfl (by
   obtain ⟨h0,_,h1⟩:=zz h
   simp [aop,ht,hk,hx,hy,zFr,h0,h1]) k
theorem ixI{α:Type}{t e:TypeId}{x y:Operand}{ti te:TI}{kk:IntKind}{sz:Nat}{l:List α}{f:α->List AV}{i:Int}{c:α}(ht:Xf P t=some ti)(hk:ti.k=.slc e)(he:Xf P e=some te)(hs:te.size=sz)(hx:ev env x=some (.isl sz (l.map f)))
  (hy:ev env y=some (.lit (.int kk i))) (h:idx l i=some c) (k:K ((d,.ipt sz (l.map f) i.toNat 0)::env) st):SOp P ⟨some d,.indexAddr t x y,ty,pos,aft,gu⟩ env st K:=XV rfl (by
   obtain ⟨h0,h2,h1⟩:=zz h
   have h3:i<(l.length:Int):=by omega
   simp [aop,ht,hk,he,hx,hy,Du,hs,h0,h3]) k
theorem ixM{α:Type}{t e:TypeId}{x y:Operand}{ti te:TI}{kk:IntKind}{sz b:Nat}{l:List α}{f:α->List AV}{i:Int}{c:α}(ht:Xf P t=some ti)(hk:ti.k=.slc e)(he:Xf P e=some te)(hs:te.size=sz)(hx:ev env x=some (.msl b 0 l.length))
  (hb:st[b]?=some (some (sz,l.map f))) (hy:ev env y=some (.lit (.int kk i))) (h:idx l i=some c) (k:K ((d,.mpt b i.toNat 0)::env) st):SOp P ⟨some d,.indexAddr t x y,ty,pos,aft,gu⟩ env st K:=XV rfl (by
   obtain ⟨h0,h2,h1⟩:=zz h
   have h3:i<(l.length:Int):=by omega
   simp [aop,ht,hk,he,hx,hy,Du,hs,h0,h3,hb]) k
theorem ixX{t e:TypeId}{x y:Operand}{ti te:TI}{kk:IntKind}{i:Int}{v p:AV}(ht:Xf P t=some ti)(hk:ti.k=.slc e)(he:Xf P e=some te)(hx:ev env x=some v)
  (hy:ev env y=some (.lit (.int kk i))) (h:Du st te.size v i=some p) (k:K ((d,p)::env) st):SOp P ⟨some d,.indexAddr t x y,ty,pos,aft,gu⟩ env st K:=XV rfl (by simp [aop,ht,hk,he,hx,hy,h]) k
def Ww(ti:TI)(r:List AV)(j:Nat):Option AV:=
 match ti.k.isAgg with
 |some true=>if j+ti.size≤r.length then some (.agg ((r.drop j).take ti.size)) else none
 |some false=>r[j]?
 |none=>none
theorem zrj{ti:TI}{p:AV}{r:List AV}{j:Nat}(h:Gv st p=some (r,j)):Dq st ti p=Ww ti r j:=by
 unfold Dq Ww;rw [h]
 cases ti.k.isAgg with
 |none=>rfl
 |some b=>cases b <;> rfl
theorem ldI{α:Type}{t:TypeId}{x:Operand}{ti:TI}{sz i j:Nat}{l:List α}{f:α->List AV}{c:α}{v:AV}(ht:Xf P t=some ti)(hx:ev env x=some (.ipt sz (l.map f) i j))(h:l[i]?=some c)(hv:Ww ti (f c) j=some v)(k:K ((d,v)::env) st):
  SOp P ⟨some d,.load t x,ty,pos,aft,gu⟩ env st K:=ld ht hx ((zrj (by simp [Gv,h])).trans hv) k
theorem ldM{α:Type}{t:TypeId}{x:Operand}{ti:TI}{sz b i j:Nat}{l:List α}{f:α->List AV}{c:α}{v:AV}(ht:Xf P t=some ti)(hx:ev env x=some (.mpt b i j))(hb:st[b]?=some (some (sz,l.map f)))(h:l[i]?=some c)(hv:Ww ti (f c) j=some v)(k:K ((d,v)::env) st):
  SOp P ⟨some d,.load t x,ty,pos,aft,gu⟩ env st K:=ld ht hx ((zrj (by simp [Gv,hb,h])).trans hv) k
theorem slS{t:TypeId}{x:Operand}{lo hi:Option Operand}{ti:TI}{l r:List UInt8}{a b:Int}(ht:Xf P t=some ti)(hk:ti.k=.str)(hx:ev env x=some (.lit (.string (B l))))(hlo:ZL env 0 lo=some a.toNat)(hhi:ZL env l.length hi=some b.toNat)
  (h:XJ l a b=some r) (k:K ((d,.lit (.string (B r)))::env) st):SOp P ⟨some d,.slice t x lo hi none,ty,pos,aft,gu⟩ env st K:=XV rfl (by
   unfold XJ at h;split at h
   .rename_i h1;cases h;have e:UD (.lit (.string (B l)))=some l.length:=rfl;simp only [aop,ht,hk,hx,e,hlo,hhi];rw [if_pos (by omega)]
   .cases h) k
theorem slI{α:Type}{t e:TypeId}{x:Operand}{lo hi:Option Operand}{ti te:TI}{sz:Nat}{l r:List α}{f:α->List AV}{a b:Int}(ht:Xf P t=some ti)(hk:ti.k=.slc e)(he:Xf P e=some te)(hs:te.size=sz)(hx:ev env x=some (.isl sz (l.map f)))
  (hlo:ZL env 0 lo=some a.toNat) (hhi:ZL env l.length hi=some b.toNat) (h:XJ l a b=some r) (k:K ((d,.isl sz (r.map f))::env) st):SOp P ⟨some d,.slice t x lo hi none,ty,pos,aft,gu⟩ env st K:=XV rfl (by
   unfold XJ at h;split at h
   .rename_i h1;cases h
    have e':UD (.isl sz (l.map f))=some l.length:=by simp [UD]
    simp only [aop,ht,hk,hx,e',he,hlo,hhi,Wq];rw [if_pos ⟨hs.symm,by omega,by rw [Ja];omega⟩];simp [List.map_drop,List.map_take]
   .cases h) k
theorem pc{c:Call}{g:FuncId}{args:List AV}{res:AV}(h:Xm P g args res)(hc:ZF (.call c)=true)(hg:Kh env (.call c)=some (g,args))(hi:Ze args=true)(k:K ((d,res)::env) st):SOp P ⟨some d,.call c,ty,pos,aft,gu⟩ env st K:=by
 unfold SOp;simp only [hc,hg];exact zti h (Uf hi) k
theorem pcs{c:Call}{g:FuncId}{args args':List AV}{res:AV}(h:Xm P g args' res)(hc:ZF (.call c)=true)(hg:Kh env (.call c)=some (g,args))(hs:Wy st args args')(hp:Ki res)(k:K ((d,res)::env) st):SOp P ⟨some d,.call c,ty,pos,aft,gu⟩ env st K:=by
 unfold SOp;simp only [hc,hg];exact zwQ h hp hs k
theorem sc(L:List Nat){c:Call}{g:FuncId}{args args0:List AV}{bs0 bs1:List SB}{av:AV}(h:SC P g args0 bs0 av bs1)(hc:ZF (.call c)=true)(hg:Kh env (.call c)=some (g,args))(hnd:Id L=true)(hlt:Ia st.length L=true)
  (ha:Hs (λi=>L[i]?) args0 args) (hs:InB (λi=>L[i]?) st L bs0) (k:K ((d,rn (tau L st.length) av)::env) (zGN L st bs1)):SOp P ⟨some d,.call c,ty,pos,aft,gu⟩ env st K:=by
 unfold SOp;simp only [hc,hg];refine zwP h.2 L (by rw [zpY];exact hs.at.1) (zqg hnd) (zuL hlt) ha.get.1 ha.get.2 ⟨λi l hl=>hs.at.2 i l hl,λi kk els he=>?_,λi1 i2 x h1 h2=>?_⟩ ?_
 .have:i<(SBs bs0).length:=(Qb.1 he).1;rw [zpY,<-hs.at.1] at this;exact ⟨L[i],Qe this⟩
 .obtain ⟨l1,e1⟩:=Qb.1 h1;obtain ⟨l2,e2⟩:=Qb.1 h2;exact (List.getElem_inj (zqg hnd)).1 (e1.trans e2.symm)
 .rintro a s ⟨rfl,rfl⟩;rw [<-zFy h.1];exact k
theorem apM{α:Type}{x y:Operand}{t u' e:TypeId}{ti te tu:TI}{e':TypeId}{sz b w:Nat}{l z r:List α}{f:α->List AV}{v:AV}(nn:Nat)(ht:Xf P t=some ti)(hk:ti.k=.slc e)(he:Xf P e=some te)(hs:te.size=sz)(hw:te.bytes=w)(hz:0<sz)(hu:Xf P u'=some tu)(hku:tu.k=.slc e')
  (hx:ev env x=some (.msl b 0 l.length)) (hb:st[b]?=some (some (sz,l.map f))) (hy:ev env y=some v) (hr:Ub st sz v=some (z.map f)) (h1:∀x,(f x).all AV.one=true) (hn:st.length=nn) (h:Xx w l z=some r)
  (k:K ((d,.msl nn 0 r.length)::env) (st.set b none++[some (sz,r.map f)])):SOp P ⟨some d,.call ⟨.builtin .append,#[x,y],#[t,u']⟩,ty,pos,aft,gu⟩ env st K:=XV rfl (by
   obtain ⟨rfl,h2,h3⟩:=zuO h
   have h4:Kj (z.map f)=true:=by unfold Kj;rw [List.all_map];simp [h1]
   have hbo:DB st sz (.msl b 0 l.length)=some (l.map f,st.set b none):=by simp [DB,hb,zpT]
   simp only [aop,Hb,Ij,ht,hx,hy,hu,hk,he,hs,hbo,hku,hr];rw [if_pos ⟨hz,h4,by simpa [hw] using h2,by simpa using h3⟩]
   simp [hn]) k
theorem apN{α:Type}{x y:Operand}{t u' e:TypeId}{ti te tu:TI}{e':TypeId}{sz w:Nat}{z r:List α}{f:α->List AV}{v:AV}(nn:Nat)(ht:Xf P t=some ti)(hk:ti.k=.slc e)(he:Xf P e=some te)(hs:te.size=sz)(hw:te.bytes=w)(hz:0<sz)(hu:Xf P u'=some tu)(hku:tu.k=.slc e')
  (hx:ev env x=some (.lit (.slice none 0 0))) (hy:ev env y=some v) (hr:Ub st sz v=some (z.map f)) (h1:∀x,(f x).all AV.one=true) (hn:st.length=nn) (h:Xx w [] z=some r)
  (k:K ((d,.msl nn 0 r.length)::env) (st++[some (sz,r.map f)])):SOp P ⟨some d,.call ⟨.builtin .append,#[x,y],#[t,u']⟩,ty,pos,aft,gu⟩ env st K:=XV rfl (by
   obtain ⟨hq,h2,h3⟩:=zuO h
   have hq':z=r:=by simpa using hq.symm
   subst hq'
   have h4:Kj (z.map f)=true:=by unfold Kj;rw [List.all_map];simp [h1]
   simp only [aop,Hb,Ij,ht,hx,hy,hu,hk,he,hs,DB,hku,hr];rw [if_pos ⟨hz,h4,by simpa [hw] using h2,by simpa using h3⟩]
   simp [hn]) k
theorem roI{α:Type}{sz:Nat}{z:List α}{f:α->List AV}:Ub st sz (.isl sz (z.map f))=some (z.map f):=by simp [Ub]
theorem roM{α:Type}{sz b:Nat}{z:List α}{f:α->List AV}(hb:st[b]?=some (some (sz,z.map f))):Ub st sz (.msl b 0 z.length)=some (z.map f):=by simp [Ub,hb,zpT]
theorem bd{t:TypeId}{ps:Array (Nat×Operand)}{ti:TI}{pl:List (Nat×Nat)}{parts:List (Nat×AV)}{cs:List AV}(ht:Xf P t=some ti)(hk:ti.k=.agg pl)(hp:HH env ps.toList=some parts)(h:Wt pl (X7 ti.zero) parts=some cs)(k:K ((d,.agg cs)::env) st):
  SOp P ⟨some d,.build t ps,ty,pos,aft,gu⟩ env st K:=XV rfl (by simp [aop,ht,hk,hp,h]) k
theorem bl{t e:TypeId}{len:Nat}{ps:Array (Nat×Operand)}{ti te:TI}{parts:List (Nat×AV)}{rows:List (List AV)}{sz:Nat}(nn:Nat)(ht:Xf P t=some ti)(hk:ti.k=.slc e)(he:Xf P e=some te)(hs:te.size=sz)(hz:0<sz)(hl:len*sz≤16777216)(hp:HH env ps.toList=some parts)
  (h:BO sz (List.replicate len (X7 te.zero)) parts=some rows) (hn:st.length=nn) (k:K ((d,.msl nn 0 len)::env) (st++[some (sz,rows)])):SOp P ⟨some d,.buildSlice t len ps,ty,pos,aft,gu⟩ env st K:=XV rfl (by
   simp only [aop,ht,hk,he,hp,hs,h];rw [if_pos ⟨hz,hl⟩]
   simp [hn]) k
end
theorem ci{st:St}{L:Xt}{v:AV}(h:KQ v=true):Rs st L v v:=.imm (DG h)
theorem ce{st:St}{L:Xt}{t:Nat}{v:AV}{e0 env:Ev}(h1:look env t=some v)(h2:KQ v=true)(r:Z1 st L e0 env):Z1 st L ((t,v)::e0) env:=⟨⟨v,h1,ci h2⟩,r⟩
theorem cv{st:St}{L:Xt}{t:Nat}{v0 v:AV}{e0 env:Ev}(h1:look env t=some v)(h2:Rs st L v0 v)(r:Z1 st L e0 env):Z1 st L ((t,v0)::e0) env:=⟨⟨v,h1,h2⟩,r⟩
theorem cn{st:St}{L:Xt}{env:Ev}:Z1 st L [] env:=trivial
theorem Zb{α:Type}{st:St}{L:Xt}{l:List α}{f:α->List AV}(h:∀x,Ze (f x)=true):BZ st L (l.map f) (l.map f):=
 ⟨rfl,λi hi _=>⟨rfl,λj hj _=>.imm (by
  obtain ⟨y,_,hy⟩:=QQ.1 (Qh hi);have:=(Uf (h y)).mem;rw [hy] at this
  exact this _ (Qh hj))⟩⟩
def Uq(st:St)(L:Xt):List AV->List AV->Prop
 | [],[]=>True
 |x ::l,y ::r=>Rs st L x y/\Uq st L l r
 |_,_=>False
theorem Uq.get{st:St}{L:Xt}:∀{l r:List AV},Uq st L l r->l.length=r.length/\∀i (h:i<l.length) (h':i<r.length),Rs st L l[i] r[i]
 | [],[],_=>⟨rfl,λi h=>by cases h⟩
 | [],_ :: _,h=>h.elim
 |_ :: _,[],h=>h.elim
 |x ::l,y ::r,h=>by
  obtain ⟨h1,h2⟩:=Uq.get h.2;refine ⟨by simp [h1],λi hi hi'=>?_⟩
  cases i with
  |zero=>exact h.1
  |succ i=>exact h2 i (by simpa using hi) (by simpa using hi')
def zv1(st:St)(L:Xt):List (List AV)->List (List AV)->Prop
 | [],[]=>True
 |x ::l,y ::r=>Uq st L x y/\zv1 st L l r
 |_,_=>False
theorem XG{st:St}{L:Xt}{r0 r:List AV}(h:Uq st L r0 r):BZ st L [r0] [r]:=
 ⟨rfl,λi hi _=>by
  have:i=0:=by simp at hi;exact hi
  subst this
  exact ⟨h.get.1,λj h1 h2=>h.get.2 j h1 h2⟩⟩
theorem GA{st:St}{L:Xt}:∀{l r:List (List AV)},zv1 st L l r->BZ st L l r
 | [],[],_=>⟨rfl,λi h=>by cases h⟩
 | [],_ :: _,h=>h.elim
 |_ :: _,[],h=>h.elim
 |x ::l,y ::r,h=>by
  obtain ⟨h1,h2⟩:=GA h.2;refine ⟨by simp [h1],λi hi hi'=>?_⟩
  cases i with
  |zero=>exact ⟨h.1.get.1,λj a b=>h.1.get.2 j a b⟩
  |succ i=>exact h2 i (by simpa using hi) (by simpa using hi')
theorem GX{st:St}{L:Xt}{l r:List AV}(h:Uq st L l r):Rs st L (.agg l) (.agg r):=.agg h.get.1 h.get.2
theorem zH1{st:St}{L:Xt}{f:Fn}{a a' b b':List AV}(h:Uq st L a a')(h':Uq st L b b'):Rs st L (.fn f a b) (.fn f a' b'):=.fn h.get.1 h.get.2 h'.get.1 h'.get.2
theorem Gu{st:St}{L:Xt}{l r:List AV}(h:Uq st L l r):Rs st L (.tup l) (.tup r):=.tup h.get.1 h.get.2
theorem K8{α:Type}{st:St}{L:Xt}{b sz:Nat}{l:List α}{f:α->List AV}(hD:Ur L b=false)(hb:st[b]?=some (some (sz,l.map f)))(h:∀x,Ze (f x)=true):Rs st L (.isl sz (l.map f)) (.msl b 0 l.length):=
 .sl hD hb (by simp) (by simp) (λr hr x hx=>by obtain ⟨y,_,rfl⟩:=QQ.1 hr;exact (Uf (h y)).mem x hx) (λq _ _ _=>by simp) (λq _ _ h2 j _ h4=>by
  have:(l.map f)[0+q]'(by simpa using h2)=(l.map f)[q]:=by simp
  simp only [this]
  exact .imm ((Uf (h l[q])).mem _ (by simp)))
def RsX(st:St)(L:Xt):List (List AV)->List (List AV)->Prop
 | [],[]=>True
 |r0 ::l,r ::q=>(Uq st L r0 r/\Ze r0=true)/\RsX st L l q
 |_,_=>False
theorem RsX.get{st:St}{L:Xt}:∀{l r:List (List AV)},RsX st L l r->l.length=r.length/\∀i (h:i<l.length) (h':i<r.length),Uq st L l[i] r[i]/\Ze l[i]=true
 | [],[],_=>⟨rfl,λi h=>by cases h⟩
 | [],_ :: _,h=>h.elim
 |_ :: _,[],h=>h.elim
 |x ::l,y ::r,h=>by
  obtain ⟨h1,h2⟩:=RsX.get h.2;refine ⟨by simp [h1],λi hi hi'=>?_⟩
  cases i with
  |zero=>exact h.1
  |succ i=>exact h2 i (by simpa using hi) (by simpa using hi')
theorem DF{st:St}{L:Xt}{b sz n:Nat}{els els':List (List AV)}(hD:Ur L b=false)(hb:st[b]?=some (some (sz,els)))(h:RsX st L els' els)(hn:els.length=n:=by rfl):Rs st L (.isl sz els') (.msl b 0 n):=by
 subst hn;refine .sl hD hb (by simp) h.get.1 (λr hr x hx=>?_) (λq _ h1 h2=>?_) (λq _ h1 h2 j h3 h4=>?_)
 .obtain ⟨i,hi,rfl⟩:=JM hr;exact (Uf (h.get.2 i hi (by rw [<-h.get.1];exact hi)).2).mem x hx
 .have:=(h.get.2 q h2 (by omega)).1.get.1;simp only [QM];exact this.symm
 .have:=(h.get.2 q h2 (by omega)).1.get.2 j h4 (by simpa using h3);simpa using this
theorem Xw{α:Type}{sz:Nat}{l:List α}{f:α->List AV}(h:∀x,Ze (f x)=true):(SB.many sz (l.map f)).ok:=λr hr x hx=>by
 obtain ⟨y,_,rfl⟩:=QQ.1 hr;exact (Uf (h y)).mem x hx
def OW(n nb0:Nat)(K:Ev->St->Prop)(env:Ev)(st:St):Prop:=∀A m w a,nb0≤st.length->R A m w st->Env A m st.length w n env a->Kk A m nb0 w n K a w
theorem zm{n nb0:Nat}{K:Ev->St->Prop}{env:Ev}{st:St}(h:K env st):OW n nb0 K env st:=λA m w a h0 hR hE=>⟨A,m,env,st,hR,hE,Xp.refl0 _ _ _ _ h0,h⟩
theorem HD{P:Program}{n nb0:Nat}{env:Ev}{st:St}{id:Nat}{c:Code}{Q:Exit->Ev->St->Prop}{X B R:Type}(E:X->Ev)(S:X->St)(E':B->Ev)(S':B->St)(post:R->Ev->St->Prop){body:X->Option (Sum X (Sum B R))}{z0:X}{o:Sum B R}
  (ho:zp body z0=some o) (hc:Can nb0 (E z0) (S z0) env st) (round:∀z r,body z=some r->SW P n nb0 c (LQ id nb0 E S E' S' post r) (E z) (S z))
  (hb:∀b,o=.inl b->OW n nb0 (Q .normal) (E' b) (S' b)) (hr:∀r,o=.inr r->∀env st,post r env st->Q .ret env st):SW P n nb0 (.block id (.loop c)) Q env st:=by
 obtain ⟨N,hN⟩:=Iw ho
 have key:SW P n nb0 (.block id (.loop c)) (λe env st=>match e with |.normal=>∃b,o=.inl b/\Can nb0 (E' b) (S' b) env st |e=>Q e env st) env st:=by
  refine zh (zwX (λk env st=>∃z,ZX body k z=some o/\Can nb0 (E z) (S z) env st) N ⟨z0,hN,hc⟩ ?_);rintro k env st ⟨z,hz,hcan⟩
  cases k with
  |zero=>cases hz
  |succ k =>
   unfold ZX at hz
   cases hbz:body z with
   |none=>rw [hbz] at hz;cases hz
   |some r =>
    rw [hbz] at hz;refine Wz hcan ((round z r hbz).mono λe env st h=>?_)
    cases e with
    |normal =>
     obtain ⟨z',rfl,h2⟩:=h;exact ⟨k,QN k,z',hz,h2⟩
    |exit i =>
     obtain ⟨rfl,b,rfl,h2⟩:=h;simp only [Do,Hz,if_true];exact ⟨b,(sm hz).symm,h2⟩
    |ret =>
     obtain ⟨r',rfl,h2⟩:=h;exact hr r' (sm hz).symm env st h2
    |goto l=>exact h.elim
    |panic c=>exact h.elim
    |outgrown=>exact h.elim
 intro A m w a h0 hR hE;refine wp_mono (key A m w a h0 hR hE) λe a' w' ho=>?_
 cases e with
 |normal =>
  obtain ⟨A',m',e',s',k1,k2,k3,b,hob,L,h1,h2,h3,h4,h5⟩:=ho;have hs:=Ke.of h2 h3;exact (hb b hob _ _ _ _ h5 (k1.rs hs) (k2.rs k1 hs h1)).trans (k3.rs hs h4 h5)
 |exit i=>exact ho
 |ret=>exact ho
 |goto l=>exact ho
 |panic c=>exact ho
 |outgrown=>exact ho
section
variable {P : Program} {env : Ev} {st : St} {K : Ev -> St -> Prop} {d : Nat} {ty : TypeId} {pos : String} {aft : Array Edge} {gu : Option (Nat × Bool)}
theorem roX{α:Type}{sz b n:Nat}{z:List α}{f:α->List AV}(hb:st[b]?=some (some (sz,z.map f)))(hn:n=z.length):Ub st sz (.msl b 0 n)=some (z.map f):=by subst hn;exact roM hb
theorem zxe{α:Type}{l r:List α}{a b:Int}(h:XJ l a b=some r):0≤a/\a≤b/\b≤l.length:=by
 unfold XJ at h;split at h
 .assumption
 .cases h
theorem K5{α:Type}{l r:List α}{a b:Int}{x:Operand}{k:Nat}(hx:ev env x=some (.lit (.int .i64 a)))(h:XJ l a b=some r):ZL env k (some x)=some a.toNat:=by
 simp [ZL,hx,zAE,(zxe h).1]
theorem DA{α:Type}{l r:List α}{a b:Int}{x:Operand}{k:Nat}(hx:ev env x=some (.lit (.int .i64 b)))(h:XJ l a b=some r):ZL env k (some x)=some b.toNat:=by
 have:=zxe h;simp [ZL,hx,zAE,show 0≤b by omega]
end
theorem si{st:St}{v:AV}(h:KQ v=true):Zo st v v:=.imm (DG h)
def HA(st:St):List AV->List AV->Prop
 | [],[]=>True
 |x ::l,y ::r=>Zo st x y/\HA st l r
 |_,_=>False
theorem HA.get{st:St}:∀{l r:List AV},HA st l r->l.length=r.length/\∀i (h:i<l.length) (h':i<r.length),Zo st l[i] r[i]
 | [],[],_=>⟨rfl,λi h=>by cases h⟩
 | [],_ :: _,h=>h.elim
 |_ :: _,[],h=>h.elim
 |x ::l,y ::r,h=>by
  obtain ⟨h1,h2⟩:=HA.get h.2;refine ⟨by simp [h1],λi hi hi'=>?_⟩
  cases i with
  |zero=>exact h.1
  |succ i=>exact h2 i (by simpa using hi) (by simpa using hi')
theorem X9{α:Type}{st:St}{b sz:Nat}{l:List α}{f:α->List AV}(hb:st[b]?=some (some (sz,l.map f)))(h:∀x,Ze (f x)=true):Zo st (.msl b 0 l.length) (.isl sz (l.map f)):=
 .msl hb (by simp) (by simp) (λq _ _ _=>by simp) (λq _ _ h2 j _ h4=>by
  have:(l.map f)[0+q]'(by simpa using h2)=(l.map f)[q]:=by simp
  simp only [this];refine .imm ?_;obtain ⟨y,_,hy⟩:=QQ.1 (Qh h2);have h6:=(Uf (h y)).mem;rw [hy] at h6
  exact h6 _ (Qh h4))
def zB2(st:St):List (List AV)->List (List AV)->Prop
 | [],[]=>True
 |x ::l,y ::r=>HA st x y/\zB2 st l r
 |_,_=>False
theorem zB2.get{st:St}:∀{l r:List (List AV)},zB2 st l r->l.length=r.length/\∀i (h:i<l.length) (h':i<r.length),HA st l[i] r[i]
 | [],[],_=>⟨rfl,λi h=>by cases h⟩
 | [],_ :: _,h=>h.elim
 |_ :: _,[],h=>h.elim
 |x ::l,y ::r,h=>by
  obtain ⟨h1,h2⟩:=zB2.get h.2;refine ⟨by simp [h1],λi hi hi'=>?_⟩
  cases i with
  |zero=>exact h.1
  |succ i=>exact h2 i (by simpa using hi) (by simpa using hi')
theorem XO{st:St}{b k j:Nat}{cs cs':List AV}(hb:st[b]?=some (some (k,[cs])))(h:HA st cs cs'):Zo st (.mpt b 0 j) (.ipt k [cs'] 0 j):=by
 refine .mpt hb rfl (λq h1 h2=>?_) (λq h1 h2 i h3 h4=>?_)
 .have:q=0:=by simp at h1;exact h1
  subst this;exact h.get.1
 .have:q=0:=by simp at h1;exact h1
  subst this;exact h.get.2 i h3 h4
theorem Zt{st:St}{f:Fn}{a a' b b':List AV}(h:HA st a a')(h':HA st b b'):Zo st (.fn f a b) (.fn f a' b'):=.fn h.get.1 h.get.2 h'.get.1 h'.get.2
mutual
def plB:AV->Bool
 |.any=>true
 |.lit _=>true
 |.agg cs=>zGL cs
 |.tup cs=>zGL cs
 |_=>false
def zGL:List AV->Bool
 | []=>true
 |x ::l=>plB x&&zGL l
end
inductive B2:List AV->Prop
 |nil:B2 []
 |cons {x l} (h:Ki x) (t:B2 l):B2 (x ::l)
theorem B2.mem{l:List AV}(h:B2 l):∀x∈l,Ki x:=by
 induction h with
 |nil=>exact λx hx=>by cases hx
 |cons h _ ih =>
  intro x hx
  rcases Qr.1 hx with h1 |h1
  .exact h1 ▸ h
  .exact ih x h1
mutual
theorem zD1:∀{x:AV},plB x=true->Ki x
 |.any,_=>.any
 |.lit v,_=>.lit v
 |.isl _ _,h=>by cases h
 |.ipt _ _ _ _,h=>by cases h
 |.msl _ _ _,h=>by cases h
 |.mpt _ _ _,h=>by cases h
 |.fn _ _ _,h=>by cases h
 |.agg cs,h=>.agg cs (zwD h).mem
 |.tup cs,h=>.tup cs (zwD h).mem
theorem zwD:∀{l:List AV},zGL l=true->B2 l
 | [],_=>.nil
 |x ::l,h=>.cons (zD1 (QV.1 h).1) (zwD (QV.1 h).2)
end
theorem XD{v:AV}(h:plB v=true:=by rfl):Ki v:=zD1 h
theorem mkI{α:Type}{l:List α}{f:α->List AV}(h:∀x,Ze (f x)=true):∀r∈l.map f,∀x∈r,Imm x:=λr hr x hx=>by
 obtain ⟨y,_,rfl⟩:=QQ.1 hr;exact (Uf (h y)).mem x hx
inductive Nl:AV->AV->Prop
 |imm {x} (h:Imm x):Nl x x
 |nil {k}:Nl (.lit (.slice none 0 0)) (.isl k [])
 |agg {cs cs':List AV} (hl:cs.length=cs'.length) (hr:∀i (h:i<cs.length) (h':i<cs'.length),Nl cs[i] cs'[i]):Nl (.agg cs) (.agg cs')
theorem Nl.vi{A:Am}{w:World}{x y:AV}(h:Nl x y):∀{v m nb},V A m nb w x v->VI A w y v:=by
 induction h with
 |imm h=>exact λhv=>h.vi hv
 |nil=>intro v m nb hv;rw [hv.lit_inv];exact .inil _ _ _ (.inl rfl)
 |agg hl hr ih =>
  intro v m nb hv;obtain ⟨a,rfl,h1,h2⟩:=hv.agg_inv;exact .agg _ _ (by omega) λi hi=>ih i (by omega) hi (h2 i (by omega))
def NlL:List AV->List AV->Prop
 | [],[]=>True
 |x ::l,y ::r=>Nl x y/\NlL l r
 |_,_=>False
theorem NlL.get:∀{l r:List AV},NlL l r->l.length=r.length/\∀i (h:i<l.length) (h':i<r.length),Nl l[i] r[i]
 | [],[],_=>⟨rfl,λi h=>by cases h⟩
 | [],_ :: _,h=>h.elim
 |_ :: _,[],h=>h.elim
 |x ::l,y ::r,h=>by
  obtain ⟨h1,h2⟩:=NlL.get h.2;refine ⟨by simp [h1],λi hi hi'=>?_⟩
  cases i with
  |zero=>exact h.1
  |succ i=>exact h2 i (by simpa using hi) (by simpa using hi')
theorem rnI{ρ:Nat->Option Nat}{v:AV}(h:KQ v=true):Rn ρ v v:=.imm (DG h)
def KC(all:List Oper)(s i:Nat):Bool:=
 match all[s]? with
 |some o=>o.after.toList.any λe=>Region.binds .any e&&Nat.beq e.on i
 |none=>false
def Wx(all:List Oper)(i:Nat):List Nat->Bool
 | []=>true
 |s ::p=>(!KC all s i)&&Wx all i p
def KH(all:List Oper)(ss p en:List Nat)(i:Nat):Bool:=
 match all[i]? with
 |some o=>o.after.toList.all λe=>!Region.binds .any e||(if Xr e.on ss then Xr e.on p else Xr e.on en)
 |none=>false
def U4(all:List Oper)(ss p en:List Nat):Bool:=
 (List.range all.length).all λi=>Xr i ss||Xr i en||!KH all ss p en i
def Z0(p:List Nat):List Nat->Bool
 | []=>true
 |s ::r=>Xr s p&&Z0 p r
def Dd(all:List Oper)(i:Nat):Nat->List Oper->List Tmp
 |_,[]=>[]
 |k,o ::r=>match o.dst with
  |some t=>if KC all k i then Dd all i (k+1) r else t ::Dd all i (k+1) r
  |none=>Dd all i (k+1) r
def ea(all:List Oper)(e0:Ev)(i:Nat):Ev:=Kg (Dd all i 0 all) e0
theorem zxO{all:List Oper}{i:Nat}:∀{l:List Oper} {k:Nat} {j:Nat} {t:Tmp},X2 l j=some t->KC all (k+j) i=false->t∈Dd all i k l
 | [],k,j,t,h,_=>by simp [X2] at h
 |o ::l,k,0,t,h,hw=>by
  have hd:o.dst=some t:=by simpa [X2] using h
  unfold Dd;rw [hd];simp only [Q6] at hw;simp [hw]
 |o ::l,k,j+1,t,h,hw=>by
  have h1:t∈Dd all i (k+1) l:=zxO (j:=j) (by simpa [X2] using h) (by rw [QU,Yc 1];exact hw);unfold Dd;split
  .split
   .exact h1
   .exact Jm _ h1
  .exact h1
theorem zED{all:List Oper}{e0:Ev}{i:Nat}{t:Tmp}{v:AV}(h:look (ea all e0 i) t=some v):look e0 t=some v/\∀j,X2 all j=some t->KC all j i=true:=by
 refine ⟨IS.2 v h,λj hj=>?_⟩
 cases hw:KC all j i with
 |true=>rfl
 |false =>
  have:=(IS (e:=e0) (ds:=Dd all i 0 all) (t:=t)).1 (zxO (k:=0) hj (by rw [QM];exact hw));unfold ea at h;rw [this] at h;cases h
def Ux(P:Program)(all:List Oper)(env0 F:Ev)(st:St)(i:Nat):Prop:=
 match all[i]? with
 |some o=>∃v,(match o.dst with |some t=>look F t=some v |none=>True)/\Wr P all (ea all env0 i) st F o v
 |none=>False
def UE(P:Program)(all:List Oper)(env0 F:Ev)(st:St)(p:List Nat):List Nat->Prop
 | []=>True
 |i ::r=>(Wx all i p=true->Ux P all env0 F st i)/\UE P all env0 F st p r
theorem UE.at{P all env0 F st p}:∀{l:List Nat},UE P all env0 F st p l->∀i,Xr i l=true->Wx all i p=true->Ux P all env0 F st i
 | [],_,i,h,_=>by cases h
 |x ::l,h,i,hm,hp=>by
  simp only [Xr,Qp] at hm
  rcases hm with h1 |h1
  .have:=Qj h1;subst this;exact h.1 hp
  .exact UE.at h.2 i h1 hp
def XT:Ev->List Nat
 | []=>[]
 |(t,_)::e=>t ::XT e
def Uc(all:List Oper)(l:List Nat):List Nat->Bool
 | []=>true
 |k ::r=>(l.any λj=>match X2 all j with |some t=>Nat.beq t k |none=>false)&&Uc all l r
theorem zl2{all:List Oper}{l:List Nat}:∀{ks:List Nat},Uc all l ks=true->∀k∈ks,∃j,Xr j l=true/\X2 all j=some k
 | [],_,k,h=>by cases h
 |x ::r,h,k,hk=>by
  simp only [Uc,Qd] at h
  rcases Qr.1 hk with rfl |hk
  .obtain ⟨j,h1,h2⟩:=Qy.1 h.1;refine ⟨j,GH.2 h1,?_⟩;split at h2
   .rename_i t ht;rw [ht,Qj h2]
   .cases h2
  .exact zl2 h.2 k hk
def DT(P:Program)(all:List Oper)(ss:List Nat)(env0:Ev)(K:Ev->St->Prop):Nat->List Nat->List Nat->Ev->St->Prop
 | 0,p,en,F,st=>UE P all env0 F st p en/\U4 all ss p en=true/\Z0 p ss=true/\K (F++Kg (Kb all) env0) st
 |n+1,p,en,F,st=>UE P all env0 F st p en/\U4 all ss p en=true/\Z0 p ss=false/\∀s,Xr s ss=true->Xr s p=false->KH all ss p en s=true ->
   match all[s]? with
   |some o=>K4 (sel F (ea all env0 s) (X6 all o.after.toList)) (GE all o.guard)=some true/\Z6 P o.op (sel F (ea all env0 s) (X6 all o.after.toList)) st (λav st'=>∃en' new,
     Zp (XT new) F=true/\Uc all ((s ::p)++(en'++en)) (XT new)=true/\(match o.dst with |some t=>look (new++F) t=some av |none=>True)/\DT P all ss env0 K n (s ::p) (en'++en) (new++F) st')
   |none=>False
theorem Ov:∀{e:Ev} {t:Nat} {v:AV},look e t=some v->t∈XT e
 | [],t,v,h=>by cases h
 |(k,x)::e,t,v,h=>by
  simp only [look] at h;split at h
  .rename_i e';subst e';simp [XT]
  .simp [XT,Ov h]
theorem zCJ{new F:Ev}(hk:Zp (XT new) F=true){t:Nat}{v:AV}(h:look F t=some v):look (new++F) t=some v:=by
 have h1:=Gm hk h
 have:∀{e:Ev},t ∉ XT e->look (e++F) t=some v:=λ{e}=>by
  induction e with
  |nil=>intro _;exact h
  |cons p e ih =>
   obtain ⟨k,x⟩:=p;intro hn;simp only [XT,Qr,not_or] at hn;simp only [J0,look,if_neg (Ne.symm hn.1)];exact ih hn.2
 exact this h1
theorem zuw{all:List Oper}{s i:Nat}{o:Oper}(ho:all[s]?=some o)(h:KC all s i=true):∃e∈o.after.toList,Region.binds .any e=true/\e.on=i:=by
 unfold KC at h;rw [ho] at h;simp only [Qy,Qd] at h;obtain ⟨e,h1,h2,h3⟩:=h;exact ⟨e,h1,h2,Qj h3⟩
theorem zs0{p:List Nat}:∀{l:List Nat},(∀s,Xr s l=true->Xr s p=true)->Z0 p l=true
 | [],_=>rfl
 |x ::l,h=>by
  unfold Z0;rw [h x (by simp [Xr]),zs0 λs hs=>h s (by simp [Xr,hs])];rfl
theorem zuK{p:List Nat}:∀{l:List Nat},Z0 p l=true->∀s,Xr s l=true->Xr s p=true
 | [],_,s,h=>by cases h
 |x ::l,h,s,hs=>by
  simp only [Z0,Qd] at h;simp only [Xr,Qp] at hs
  rcases hs with h1 |h1
  .rw [<-Qj h1];exact h.1
  .exact zuK h.2 s h1
theorem zwu{s:Nat}:∀{l r:List Nat},Xr s (l++r)=true↔Xr s l=true∨Xr s r=true
 |l,r=>by simp only [GH,Qq]
theorem zrV{s x:Nat}{l:List Nat}:Xr s (x ::l)=true↔s=x∨Xr s l=true:=by simp only [GH,Qr]
theorem zA1{all:List Oper}{i:Nat}:∀{p:List Nat},(∀s,Xr s p=true->KC all s i=false)->Wx all i p=true
 | [],_=>rfl
 |s ::p,h=>by
  unfold Wx;rw [h s (by simp [Xr]),zA1 λs hs=>h s (by simp [Xr,hs])];rfl
def zEd(all:List Oper)(F:Ev)(env0:Ev)(listed:Array Bool)(t:Tmp)(v:AV):Prop:=
 (look env0 t=some v/\∀j,X2 all j=some t->listed.getD j false=false)∨∃j,listed.getD j false=true/\X2 all j=some t/\look F t=some v
theorem zyj{P:Program}{ops:Array Oper}{ss:List Nat}{env0:Ev}{K:Ev->St->Prop}{n nb0:Nat}{Q:Exit->Act->World->Prop}{A0:Am}{m0:BM}{w0:World}
  (hok:KZ n ops.toList=true) (hss:∀s,Xr s ss=true->s<ops.size)
  (hQ:∀a w,Kk A0 m0 nb0 w0 n K a w->Q .normal a w):
  ∀(fuel:Nat) (k:Nat) (p en:List Nat) (F:Ev) (st:St) (listed:Array Bool) (A:Am) (m:BM) (w:World) (a:Act),DT P ops.toList ss env0 K k p en F st ->
   (∀i,Xr i p=true->listed.getD i false=true)->(∀i,Xr i ss=true->listed.getD i false=true->Xr i p=true)->(∀i,listed.getD i false=true->Xr i ss=false->Xr i en=true) ->
   (∀s i,listed.getD s false=true->KC ops.toList s i=true->listed.getD i false=true)->(∀t v,look F t=some v->∃j,X2 ops.toList j=some t) ->
   (∀j t,listed.getD j false=true->X2 ops.toList j=some t->∃v,look F t=some v) ->
   listed.size=ops.size->listed.toList.countP (· == false)≤fuel->R A m w st->Xp A0 m0 nb0 w0 A m st.length w ->
   a.tmps.size=n->a.defers=[]->(∀t v,zEd ops.toList F env0 listed t v->t<n/\V A m st.length w v (a.tmps.getD t undef))->wpAny P .any ops Q fuel listed a w:=by
 obtain ⟨hok1,huniq⟩:=zs1 hok
 have lt_of:∀j t,X2 ops.toList j=some t->j<ops.size:=λj t hj=>by
  unfold X2 at hj
  cases ho:ops.toList[j]? with
  |none=>rw [ho] at hj;cases hj
  |some o=>simpa using (Qb.1 ho).1
 have allin:∀listed:Array Bool,listed.size=ops.size->Region.ready .any ops listed=[]->∀j,j<ops.size->listed.getD j false=true:=λlisted hsz hr j=>by
  induction j using Nat.strongRecOn with
  |_ j ihj =>
   intro hj
   cases hb:listed.getD j false with
   |true=>rfl
   |false =>
    exfalso
    have hj':j<listed.size:=by omega
    have hb':listed.getD j true=false:=by simpa [Array.getD,hj'] using hb
    have hoj:ops[j]?=some ops[j]:=QE hj
    have:j∈Region.ready .any ops listed:=mem_ready.2 ⟨hb',_,hoj,λe he hbe=>by
     have hlt:=(hok1 j ops[j] (by simp)).2 e (by simpa using he) hbe
     exact ihj e.on hlt (by omega)⟩
    rw [hr] at this;cases this
 have fin:∀(k:Nat) (p en:List Nat) (F:Ev) (st:St) (listed:Array Bool) (A:Am) (m:BM) (w:World) (a:Act),DT P ops.toList ss env0 K k p en F st ->
   (∀i,Xr i ss=true->listed.getD i false=true->Xr i p=true) ->
   (∀t v,look F t=some v->∃j,X2 ops.toList j=some t)->(∀j,j<ops.size->listed.getD j false=true)->R A m w st->Xp A0 m0 nb0 w0 A m st.length w ->
   a.tmps.size=n->a.defers=[]->(∀t v,zEd ops.toList F env0 listed t v->t<n/\V A m st.length w v (a.tmps.getD t undef))->Q .normal a w:=λk p en F st listed A m w a hD hRu hF hall hR hS h1 h2 hI=>by
  cases k with
  |zero =>
   refine hQ a w ⟨A,m,_,st,hR,zxl h1 h2 λt v htv=>?_,hS,hD.2.2.2⟩
   rcases ztR htv with h |h
   .refine hI t v (.inl ⟨IS.2 v h,λj hj=>?_⟩);rw [IS.1 (zxk hj)] at h;cases h
   .obtain ⟨j,hj⟩:=hF t v h;exact hI t v (.inr ⟨j,hall j (lt_of j t hj),hj,h⟩)
  |succ k =>
   exfalso;have h3:=hD.2.2.1;rw [zs0 λs hs=>hRu s hs (hall s (hss s hs))] at h3;cases h3
 intro fuel
 induction fuel with
 |zero =>
  intro k p en F st listed A m w a hD r0 r1 r2 hW hF hL hsz hc hR hS h1 h2 hI
  have hall:∀j,j<ops.size->listed.getD j true=true:=λj hj=>by
   have h0:listed.toList.countP (· == false)=0:=by omega
   rw [List.countP_eq_zero] at h0
   have hj':j<listed.size:=by omega
   have:=h0 listed[j] (by simp)
   have e:listed.getD j true=listed[j]:=by simp [Array.getD,hj']
   rw [e];simpa using this
  refine ⟨?_,fin k p en F st listed A m w a hD r1 hF (λj hj=>?_) hR hS h1 h2 hI⟩
  .rw [Jl];intro j hj;obtain ⟨h3,o,ho,_⟩:=mem_ready.1 hj;rw [hall j (QZ.1 ho).1] at h3;cases h3
  .have:=hall j hj
   have hj':j<listed.size:=by omega
   simpa [Array.getD,hj'] using this
 |succ fuel ih =>
  intro k p en F st listed A m w a hD r0 r1 r2 hW hF hL hsz hc hR hS h1 h2 hI;refine ⟨λhr=>fin k p en F st listed A m w a hD r1 hF (allin listed hsz hr) hR hS h1 h2 hI,λi hi=>?_⟩;obtain ⟨h3,o,ho,hdep⟩:=mem_ready.1 hi;have hil:i<ops.size:=(QZ.1 ho).1
  have hil':i<listed.size:=by omega
  have hoL:ops.toList[i]?=some o:=by simpa using ho
  have hdi:X2 ops.toList i=o.dst:=by unfold X2;rw [hoL];rfl
  have hnl:listed.getD i false=false:=by simpa [Array.getD,hil'] using h3
  have hE:Env A m st.length w n (sel F (ea ops.toList env0 i) (X6 ops.toList o.after.toList)) a:=zxl h1 h2 λt u htu=>hI t u ((ztT htu).imp (λh=>by
    obtain ⟨h3,h4⟩:=zED h;refine ⟨h3,λj hj=>?_⟩
    cases hl:listed.getD j false with
    |false=>rfl
    |true=>rw [hW j i hl (h4 j hj)] at hnl;cases hnl) λ⟨he,hF⟩=>by
   obtain ⟨e,he1,hb,hd⟩:=ztE he
   exact ⟨e.on,hdep e (by simpa using he1) hb,hd,hF⟩)
  have hcnt:(listed.setIfInBounds i true).toList.countP (· == false)≤fuel:=by
   have hli:listed[i]=false:=by simpa [Array.getD,hil'] using h3
   have e1:(listed.setIfInBounds i true).toList=listed.toList.set i true:=by simp
   have hlt:i<listed.toList.length:=by simpa using hil'
   have hpos:0<listed.toList.countP (· == false):=List.countP_pos_iff.2 ⟨false,by rw [<-hli];simp,rfl⟩;rw [e1,List.countP_set hlt]
   have e2:listed.toList[i]=false:=by simpa using hli
   have e3:(true == false)=false:=rfl;have e4:(false == false)=true:=rfl;simp only [e2,e3,e4,if_true,JA,if_false];omega
  have set_ne:∀j,j≠i->(listed.setIfInBounds i true).getD j false=listed.getD j false:=λj hj=>by
   rw [getD_set_ne false (Ne.symm hj)]
  have set_eq:(listed.setIfInBounds i true).getD i false=true:=by simp [Array.getD,hil']
  have set_up:∀j,listed.getD j false=true->(listed.setIfInBounds i true).getD j false=true:=λj hj=>by
   by_cases h:j=i
   .subst h;exact set_eq
   .rw [set_ne j h];exact hj
  have hdn:=(hok1 i o hoL).1
  have old:∀(val:Value) (v:AV) (w':World) (A':Am) (m':BM) (nb':Nat) (t:Nat) (u:AV),Xp A m st.length w A' m' nb' w'->V A' m' nb' w' v val ->
    zEd ops.toList F env0 listed t u->(X2 ops.toList i≠some t)->t<n/\V A' m' nb' w' u ((a.put o.dst val).tmps.getD t undef):=λval v w' A' m' nb' t u hS' hV hj hne=>by
   have hE1:Env A m st.length w n [(t,u)] a:=zxl h1 h2 λt' u' h'=>by
    rcases znq h' with ⟨rfl,rfl⟩ |h''
    .exact hI _ _ hj
    .cases h''
   have hE2:=(hE1.step hR hS').aput hdn hV;refine hE2.val t u ?_
   cases hdd:o.dst with
   |none=>simp [aput,look]
   |some d =>
    have:d≠t:=λe=>hne (by rw [hdi,hdd,e]);simp [aput,look,this]
  have new_:∀(val:Value) (v:AV) (w':World) (A':Am) (m':BM) (nb':Nat) (t:Nat),Xp A m st.length w A' m' nb' w'->V A' m' nb' w' v val->o.dst=some t->t<n/\V A' m' nb' w' v ((a.put o.dst val).tmps.getD t undef):=λval v w' A' m' nb' t hS' hV hd=>by
   have hE0:Env A m st.length w n [] a:=zxl h1 h2 λt' u' (h':none=some u')=>by cases h'
   have hE2:=(hE0.step hR hS').aput hdn hV;exact hE2.val t v (by rw [hd];simp [aput,look])
  unfold wpOp;rw [ho];simp only
  cases his:Xr i ss with
  |true =>
   have hnp:Xr i p=false:=by
    cases h:Xr i p with
    |false=>rfl
    |true=>rw [r0 i h] at hnl;cases hnl
   have hwi:KH ops.toList ss p en i=true:=by
    unfold KH;rw [hoL];simp only [Ql,Qp,Qn];intro e he
    cases hb:Region.binds .any e with
    |false=>exact .inl rfl
    |true =>
     refine .inr ?_;have hl:=hdep e (by simpa using he) hb;split
     .rename_i hs;exact r1 _ hs hl
     .rename_i hs;exact r2 _ hl (by simpa using hs)
   cases k with
   |zero =>
    exfalso;have:=zuK hD.2.2.1 i his;rw [hnp] at this;cases this
   |succ k =>
    have hst:=hD.2.2.2 i his hnp hwi;rw [hoL] at hst;simp only at hst;obtain ⟨hg,hop⟩:=hst;rw [DQ hE ((zrp _ _ _).trans hg)];simp only [if_true];refine .inl (zDZ hR hE hop λval w' A' m' st' av k1 k2 k3 ⟨en',new,k4,k5,k6,k7⟩=>?_);have hlk:∀t u,look F t=some u->look (new++F) t=some u:=λt u h=>zCJ k4 h;refine ih k (i ::p) (en'++en) (new++F) st' _ A' m' w' _ k7 (λj hj=>?_) (λj hj hl=>?_) (λj hl hj=>?_) (λs j hs hw=>?_) (λt v ht=>?_) (λj t hl hj=>?_) (by simpa using hsz) hcnt k1 (hS.trans0 (k2.weak (Qk _) |> λh=>h.weak hS.nbLe)) (by cases hdd:o.dst <;> simp [Act.put,h1]) (by cases hdd:o.dst <;> simp [Act.put,h2]) (λt u hJ=>?_)
    .rcases zrV.1 hj with rfl |h
     .exact set_eq
     .exact set_up j (r0 j h)
    .by_cases h:j=i
     .subst h;exact zrV.2 (.inl rfl)
     .rw [set_ne j h] at hl;exact zrV.2 (.inr (r1 j hj hl))
    .by_cases h:j=i
     .subst h;rw [his] at hj;cases hj
     .rw [set_ne j h] at hl;exact zwu.2 (.inr (r2 j hl hj))
    .by_cases h:s=i
     .subst h;obtain ⟨e,he,hb,rfl⟩:=zuw hoL hw;exact set_up _ (hdep e (by simpa using he) hb)
     .rw [set_ne s h] at hs;exact set_up _ (hW s j hs hw)
    .rcases ztR (e:=F) (G:=new) ht with h |h
     .exact hF t v h
     .obtain ⟨j,_,hj⟩:=zl2 k5 t (Ov h);exact ⟨j,hj⟩
    .by_cases h:j=i
     .subst h;rw [hdi] at hj;rw [hj] at k6;exact ⟨av,k6⟩
     .rw [set_ne j h] at hl;obtain ⟨v,hv⟩:=hL j t hl hj;exact ⟨v,hlk t v hv⟩
    .rcases hJ with ⟨hJ,hJ2⟩ |⟨j,hj1,hj2,hj3⟩
     .have hni:X2 ops.toList i≠some t:=λhd=>by
       have:=hJ2 i hd;rw [set_eq] at this;cases this
      refine old val av w' A' m' st'.length t u k2 k3 (.inl ⟨hJ,λj hj=>?_⟩) hni;have:=hJ2 j hj;by_cases h:j=i
      .subst h;exact absurd hj hni
      .rwa [set_ne j h] at this
     .by_cases hji:j=i
      .subst hji;rw [hdi] at hj2;rw [hj2] at k6;have hu:u=av:=Option.some.inj (hj3.symm.trans k6);subst hu;exact new_ val u w' A' m' st'.length t k2 k3 hj2
      .rw [set_ne j hji] at hj1;obtain ⟨v,hv⟩:=hL j t hj1 hj2;have hu:u=v:=Option.some.inj (hj3.symm.trans (hlk t v hv));subst hu;exact old val av w' A' m' st'.length t u k2 k3 (.inr ⟨j,hj1,hj2,hv⟩) λhd=>hji (huniq _ _ _ hj2 hd)
  |false =>
   have hcl:U4 ops.toList ss p en=true:=by cases k <;> exact hD.2.1
   have hpa:UE P ops.toList env0 F st p en:=by cases k <;> exact hD.1
   have hwi:KH ops.toList ss p en i=true:=by
    unfold KH;rw [hoL];simp only [Ql,Qp,Qn];intro e he
    cases hb:Region.binds .any e with
    |false=>exact .inl rfl
    |true =>
     refine .inr ?_;have hl:=hdep e (by simpa using he) hb;split
     .rename_i hs;exact r1 _ hs hl
     .rename_i hs;exact r2 _ hl (by simpa using hs)
   have hen:Xr i en=true:=by
    have:=(Ql.1 hcl) i (Js.2 (by simpa using hil));rw [his,hwi] at this;simpa using this
   have hpe:Wx ops.toList i p=true:=zA1 λs hs=>by
    cases hw:KC ops.toList s i with
    |false=>rfl
    |true=>rw [hW s i (r0 s hs) hw] at hnl;cases hnl
   have hat:=hpa.at i hen hpe;unfold Ux at hat;rw [hoL] at hat;simp only at hat;obtain ⟨v,hv,hop⟩:=hat
   have next:∀(val:Value) (w':World) (A':Am) (m':BM),R A' m' w' st->Xp A m st.length w A' m' st.length w'->V A' m' st.length w' v val->wpAny P .any ops Q fuel (listed.setIfInBounds i true) (a.put o.dst val) w':=λval w' A' m' hR' hS' hV=>by
    refine ih k p en F st _ A' m' w' _ hD (λj hj=>set_up j (r0 j hj)) (λj hj hl=>?_) (λj hl hj=>?_) (λs j hs hw=>?_) hF (λj t hl hj=>?_) (by simpa using hsz) hcnt hR' (hS.trans0 (hS'.weak hS.nbLe)) (by cases hdd:o.dst <;> simp [Act.put,h1]) (by cases hdd:o.dst <;> simp [Act.put,h2]) λt u hJ=>?_
    .by_cases h:j=i
     .subst h;rw [his] at hj;cases hj
     .rw [set_ne j h] at hl;exact r1 j hj hl
    .by_cases h:j=i
     .subst h;exact hen
     .rw [set_ne j h] at hl;exact r2 j hl hj
    .by_cases h:s=i
     .subst h;obtain ⟨e,he,hb,rfl⟩:=zuw hoL hw;exact set_up _ (hdep e (by simpa using he) hb)
     .rw [set_ne s h] at hs;exact set_up _ (hW s j hs hw)
    .by_cases h:j=i
     .subst h;rw [hdi] at hj;rw [hj] at hv;exact ⟨v,hv⟩
     .rw [set_ne j h] at hl;exact hL j t hl hj
    .rcases hJ with ⟨hJ,hJ2⟩ |⟨j,hj1,hj2,hj3⟩
     .have hni:X2 ops.toList i≠some t:=λhd=>by
       have:=hJ2 i hd;rw [set_eq] at this;cases this
      refine old val v w' A' m' st.length t u hS' hV (.inl ⟨hJ,λj hj=>?_⟩) hni;have:=hJ2 j hj;by_cases h:j=i
      .subst h;exact absurd hj hni
      .rwa [set_ne j h] at this
     .by_cases hji:j=i
      .subst hji;rw [hdi] at hj2;rw [hj2] at hv;have hu:u=v:=Option.some.inj (hj3.symm.trans hv);subst hu;exact new_ val u w' A' m' st.length t hS' hV hj2
      .rw [set_ne j hji] at hj1;exact old val v w' A' m' st.length t u hS' hV (.inr ⟨j,hj1,hj2,hj3⟩) λhd=>hji (huniq _ _ _ hj2 hd)
   unfold Wr at hop;split at hop
   .rename_i hg;rw [DQ hE ((zrp _ _ _).trans hg)];simp only [if_true];refine .inl (zDZ hR hE hop λval w' A' m' st' av k1 k2 k3 ⟨k4,k5⟩=>?_);subst k4;subst k5
    exact next val w' A' m' k1 k2 k3
   .rename_i hg;rw [DQ hE ((zrp _ _ _).trans hg)];simp only [JA,if_false];subst hop
    exact next undef w A m hR (Xp.refl _ _ _ _) (.imm (.lit _))
   .exact hop.elim
def KY(k:Nat):List Nat->Bool
 | []=>true
 |x ::l=>Nat.blt x k&&KY k l
theorem zrR{k:Nat}:∀{l:List Nat},KY k l=true->∀s,Xr s l=true->s<k
 | [],_,s,h=>by cases h
 |x ::l,h,s,hs=>by
  simp only [KY,Qd] at h;simp only [Xr,Qp] at hs
  rcases hs with h1 |h1
  .rw [<-Qj h1];exact Qv h.1
  .exact zrR h.2 s h1
theorem Gk{P:Program}{n nb0:Nat}{Q:Exit->Ev->St->Prop}{env:Ev}{st:St}{id:Nat}{ops:Array Oper}(ss en:List Nat)(F:Ev)(k:Nat)(hm:P.follows .mixedOrders=true)(hok:KZ n ops.toList=true)(hss:KY ops.size ss=true)(hks:Uc ops.toList en (XT F)=true)
  (h:DT P ops.toList ss env (Q .normal) k [] en F st):SW P n nb0 (.region id ops true) Q env st:=by
 intro A m w a h0 hR hE
 have hg:XK w { w with drawn:=w.drawn+1 }:=⟨Qk _,λ_ _=>rfl,rfl,rfl,rfl⟩
 obtain ⟨hR1,hS1⟩:=hR.grow' hg;refine wp_region_any hm ?_
 have hf:∀j,(Array.replicate ops.size false).getD j false=false:=λj=>by simp [Array.getD]
 refine zyj (n:=n) (nb0:=nb0) (A0:=A) (m0:=m) (w0:=w) (K:=Q .normal) (Q:=λe a' w'=>Kk A m nb0 w n (Q e) a' w') hok (zrR hss) (λa w h=>h) ops.size k [] en F st _ A m _ a h
  (λi hi=>by cases hi) (λi _ hl=>by rw [hf] at hl;cases hl) (λi hl _=>by rw [hf] at hl;cases hl) (λs i hs _=>by rw [hf] at hs;cases hs) (λt v ht=>?_) (λj t hl _=>by rw [hf] at hl;cases hl) (by simp) ?_ hR1 (hS1.weak h0) hE.size hE.defers ?_
 .obtain ⟨j,_,hj⟩:=zl2 hks t (Ov ht);exact ⟨j,hj⟩
 .refine QD (List.countP_le_length) ?_;simp
 .intro t v hJ
  rcases hJ with ⟨hJ,_⟩ |⟨j,hj,_⟩
  .exact (hE.step hR hS1).val t v hJ
  .rw [hf] at hj;cases hj
theorem rd{P:Program}{n nb0:Nat}{Q:Exit->Ev->St->Prop}{env:Ev}{st:St}{id:Nat}{ops:Array Oper}{y:Code}(E:Ev)(S:St)(ss en:List Nat)(F:Ev)(k:Nat)(hm:P.follows .mixedOrders=true)(hok:KZ n ops.toList=true)(hss:KY ops.size ss=true)(hks:Uc ops.toList en (XT F)=true)
  (h:DT P ops.toList ss env (λenv st=>Can nb0 E S env st) k [] en F st) (hy:SW P n nb0 y Q E S):SW P n nb0 (.seq (.region id ops true) y) Q env st:=
 ze ((Gk (Q:=λe env st=>match e with |.normal=>Can nb0 E S env st |_=>False) ss en F k hm hok hss hks h).mono λe env st h=>by
  cases e with
  |normal=>exact Wz h hy
  |_=>exact h.elim)
theorem rdL{P:Program}{n nb0:Nat}{Q:Exit->Ev->St->Prop}{env:Ev}{st:St}{id:Nat}{ops:Array Oper}(E:Ev)(S:St)(ss en:List Nat)(F:Ev)(k:Nat)(hm:P.follows .mixedOrders=true)(hok:KZ n ops.toList=true)(hss:KY ops.size ss=true)(hks:Uc ops.toList en (XT F)=true)
  (h:DT P ops.toList ss env (λenv st=>Can nb0 E S env st) k [] en F st) (hy:Q .normal E S):SW P n nb0 (.region id ops true) Q env st:=by
 intro A m w a h0 hR hE
 refine wp_mono (Gk (Q:=λe env st=>match e with |.normal=>Can nb0 E S env st |_=>False) ss en F k hm hok hss hks h A m w a h0 hR hE) λe a' w' ho=>?_
 obtain ⟨A',m',e',s',h1,h2,h3,h4⟩:=ho
 cases e with
 |normal =>
  obtain ⟨L,c1,c2,c3,c4,c5⟩:=h4;have hs:=Ke.of c2 c3;exact ⟨_,_,E,S,h1.rs hs,h2.rs h1 hs c1,h3.rs hs c4 c5,hy⟩
 |_=>exact h4.elim
section
variable {P : Program} {all : List Oper} {env0 F env : Ev} {st : St} {ss p en : List Nat} {K : Ev -> St -> Prop}
theorem zHA{o:Oper}{K:AV->St->Prop}{t:Nat}(hd:o.dst=some t)(h:SOp P o env st λenv' st'=>∃v,env'=(t,v)::env/\K v st'):Z6 P o.op env st K:=by
 unfold SOp at h;unfold Z6;rw [hd] at h
 have e:∀av st',(∃v,aput (some t) av env=(t,v)::env/\K v st')->K av st':=λav st' ⟨v,h1,h2⟩=>by
  have:v=av:=by simp [aput] at h1;exact h1.symm
  subst this;exact h2
 generalize ZF o.op=c at h ⊢
 cases c with
 |true =>
  simp only at h ⊢;generalize Kh env o.op=x at h ⊢
  cases x with
  |none=>exact h.elim
  |some y=>exact h.mono e
 |false =>
  simp only at h ⊢;generalize aop P env st o.op=x at h ⊢
  cases x with
  |none=>exact h.elim
  |some y=>exact e _ _ h
theorem pa{i t:Nat}{o:Oper}{v:AV}(ho:all[i]?=some o)(hd:o.dst=some t)(hg:o.guard=none)(hv:look F t=some v)(h:SOp P o (sel F (ea all env0 i) (X6 all o.after.toList)) st λenv' st'=>env'=(t,v)::sel F (ea all env0 i) (X6 all o.after.toList)/\st'=st):Ux P all env0 F st i:=by
 unfold Ux;rw [ho];refine ⟨v,by rw [hd];exact hv,?_⟩;unfold Wr;rw [hg];exact zHA hd (h' h)
where
 h' {o:Oper} {t:Nat} {v:AV} {env:Ev} (h:SOp P o env st λenv' st'=>env'=(t,v)::env/\st'=st):SOp P o env st λenv' st'=>∃u,env'=(t,u)::env/\(u=v/\st'=st):=by
  unfold SOp at h ⊢;generalize ZF o.op=c at h ⊢
  cases c with
  |true =>
   simp only at h ⊢;generalize Kh env o.op=x at h ⊢
   cases x with
   |none=>exact h.elim
   |some y=>exact h.mono λav st' ⟨h1,h2⟩=>⟨v,h1,rfl,h2⟩
  |false =>
   simp only at h ⊢;generalize aop P env st o.op=x at h ⊢
   cases x with
   |none=>exact h.elim
   |some y=>exact ⟨v,h.1,rfl,h.2⟩
theorem pag{i t:Nat}{o:Oper}{v:AV}{b:Bool}{c:Nat}{want:Bool}(ho:all[i]?=some o)(hd:o.dst=some t)(hg:GE all o.guard=some (some c,want))(hc:look (sel F (ea all env0 i) (X6 all o.after.toList)) c=some (.lit (.bool b)))(hb:b=want)(hv:look F t=some v)
  (h:SOp P o (sel F (ea all env0 i) (X6 all o.after.toList)) st λenv' st'=>env'=(t,v)::sel F (ea all env0 i) (X6 all o.after.toList)/\st'=st):Ux P all env0 F st i:=by
 unfold Ux;rw [ho];refine ⟨v,by rw [hd];exact hv,?_⟩;unfold Wr;rw [hg];simp only [K4,hc,hb,beq_self_eq_true];exact zHA hd (pa.h' h)
theorem pas{i t:Nat}{o:Oper}{b:Bool}{c:Nat}{want:Bool}(ho:all[i]?=some o)(hd:o.dst=some t)(hg:GE all o.guard=some (some c,want))(hc:look (sel F (ea all env0 i) (X6 all o.after.toList)) c=some (.lit (.bool b)))(hb:b=!want)(hv:look F t=some (.lit undef)):Ux P all env0 F st i:=by
 unfold Ux;rw [ho];refine ⟨.lit undef,by rw [hd];exact hv,?_⟩;unfold Wr;rw [hg];simp only [K4,hc,hb]
 have:((!want) == want)=false:=by cases want <;> rfl
 rw [this];trivial
theorem pau{i t:Nat}{o:Oper}{c:Nat}{want:Bool}(ho:all[i]?=some o)(hd:o.dst=some t)(hg:GE all o.guard=some (some c,want))(hc:look (sel F (ea all env0 i) (X6 all o.after.toList)) c=some (.lit undef))(hv:look F t=some (.lit undef)):Ux P all env0 F st i:=by
 unfold Ux;rw [ho];refine ⟨.lit undef,by rw [hd];exact hv,?_⟩;unfold Wr;rw [hg];simp only [K4,hc,undef]
def zHn(P:Program)(all:List Oper)(ss:List Nat)(env0:Ev)(K:Ev->St->Prop)(n:Nat)(p en:List Nat)(F:Ev)(st:St)(s:Nat):Prop:=
 ∃o,all[s]?=some o/\K4 (sel F (ea all env0 s) (X6 all o.after.toList)) (GE all o.guard)=some true/\SOp P o (sel F (ea all env0 s) (X6 all o.after.toList)) st λenv' st'=>∃av en' new,env'=aput o.dst av (sel F (ea all env0 s) (X6 all o.after.toList)) /\
  Zp (XT new) F=true/\Uc all ((s ::p)++(en'++en)) (XT new)=true/\(match o.dst with |some t=>look (new++F) t=some av |none=>True)/\DT P all ss env0 K n (s ::p) (en'++en) (new++F) st'
def Dr(P:Program)(all:List Oper)(ss:List Nat)(env0:Ev)(K:Ev->St->Prop)(n:Nat)(p en:List Nat)(F:Ev)(st:St):List Nat->Prop
 | []=>True
 |s ::r=>(Xr s p=false->KH all ss p en s=true->zHn P all ss env0 K n p en F st s)/\Dr P all ss env0 K n p en F st r
theorem Dr.at{n:Nat}:∀{l:List Nat},Dr P all ss env0 K n p en F st l->∀s,Xr s l=true->Xr s p=false->KH all ss p en s=true->zHn P all ss env0 K n p en F st s
 | [],_,s,h=>by cases h
 |x ::l,h,s,hs=>by
  simp only [Xr,Qp] at hs
  rcases hs with h1 |h1
  .rw [<-Qj h1];exact h.1
  .exact Dr.at h.2 s h1
theorem dtS{n:Nat}(h1:UE P all env0 F st p en)(h2:U4 all ss p en=true)(h3:Z0 p ss=false)(h4:Dr P all ss env0 K n p en F st ss):DT P all ss env0 K (n+1) p en F st:=by
 refine ⟨h1,h2,h3,λs a b c=>?_⟩;obtain ⟨o,ho,hg,hs⟩:=h4.at s a b c;rw [ho];refine ⟨hg,?_⟩;unfold SOp at hs;unfold Z6;generalize ZF o.op=cc at hs ⊢
 have e:∀av st',(∃av0 en' new,aput o.dst av (sel F (ea all env0 s) (X6 all o.after.toList))=aput o.dst av0 (sel F (ea all env0 s) (X6 all o.after.toList))/\Zp (XT new) F=true/\Uc all ((s ::p)++(en'++en)) (XT new)=true /\
   (match o.dst with |some t=>look (new++F) t=some av0 |none=>True)/\DT P all ss env0 K n (s ::p) (en'++en) (new++F) st') ->
   ∃en' new,Zp (XT new) F=true/\Uc all ((s ::p)++(en'++en)) (XT new)=true/\(match o.dst with |some t=>look (new++F) t=some av |none=>True)/\DT P all ss env0 K n (s ::p) (en'++en) (new++F) st':=λav st' ⟨av0,en',new,k1,k2,k3,k4,k5⟩=>by
  refine ⟨en',new,k2,k3,?_,k5⟩
  cases hd:o.dst with
  |none=>trivial
  |some t =>
   rw [hd] at k1 k4
   have:av=av0:=by simpa [aput] using k1
   rw [this];exact k4
 cases cc with
 |true =>
  simp only at hs ⊢;generalize Kh (sel F (ea all env0 s) (X6 all o.after.toList)) o.op=x at hs ⊢
  cases x with
  |none=>exact hs.elim
  |some y=>exact hs.mono e
 |false =>
  simp only at hs ⊢;generalize aop P (sel F (ea all env0 s) (X6 all o.after.toList)) st o.op=x at hs ⊢
  cases x with
  |none=>exact hs.elim
  |some y=>exact e _ _ hs
theorem dt0(h1:UE P all env0 F st p en)(h2:U4 all ss p en=true)(h3:Z0 p ss=true)(h4:K (F++Kg (Kb all) env0) st):DT P all ss env0 K 0 p en F st:=⟨h1,h2,h3,h4⟩
theorem bb(b:Bool):b=true∨b=false:=by cases b <;> simp
theorem pkb{c x y:Operand}{ty:TypeId}{pos:String}{aft:Array Edge}{gu:Option (Nat×Bool)}{d:Nat}{b want:Bool}{v:AV}(hc:ev env c=some (.lit (.bool b)))(hb:b=want)(h:cond want (ev env x) (ev env y)=some v)(k:K ((d,v)::env) st):
  SOp P ⟨some d,.pick c x y,ty,pos,aft,gu⟩ env st K:=by
 subst hb;refine XV rfl ?_ k;cases b <;> simp only [cond] at h <;> simp [aop,hc,h]
end
theorem cg{env:Ev}{c:Nat}{b want:Bool}(hc:look env c=some (.lit (.bool b)))(hb:b=want):K4 env (some (some c,want))=some true:=by
 simp only [K4,hc,hb,beq_self_eq_true]
abbrev iA(n:Int):AV:=.lit (.int .i64 n)
abbrev bA(b:Bool):AV:=.lit (.bool b)
abbrev sA(l:List UInt8):AV:=.lit (.string (B l))
section
variable {P : Program} {env : Ev} {st : St} {K : Ev -> St -> Prop} {d : Nat} {ty : TypeId} {pos : String} {aft : Array Edge} {gu : Option (Nat × Bool)}
theorem zGu{α:Type}{t:TypeId}{x y:Operand}{ti:TI}{sz b i j:Nat}{l:List α}{f:α->List AV}{c c':α}{v:AV}{cs:List AV}(ht:Xf P t=some ti)(hx:ev env x=some (.mpt b i j))(hb:st[b]?=some (some (sz,l.map f)))
  (h:l[i]?=some c) (hy:ev env y=some v) (hc:UZ v=some cs) (hsz:Nat.beq cs.length ti.size=true) (hj:Nat.ble (j+cs.length) sz=true) (hf:(f c).take j++cs++(f c).drop (j+cs.length)=f c')
  (k:K env (st.set b (some (sz,(l.set i c').map f)))):SOp P ⟨none,.store t x y,ty,pos,aft,gu⟩ env st K:=by
 refine zG6 (av:=.lit undef) rfl (st':=st.set b (some (sz,(l.set i c').map f))) ?_ k;have hi:i<l.length:=(Qb.1 h).1
 have e1:UY (l.map f) i j cs=(l.set i c').map f:=by
  unfold UY;rw [JU,h];simp only [QO];rw [hf,List.map_set]
 have e2:B5 st ti (.mpt b i j) v=some (st.set b (some (sz,(l.set i c').map f))):=by
  simp only [B5,hc,hb];rw [if_pos ⟨by simpa using hi,Qv hj,Qj hsz⟩,e1]
 simp [aop,ht,hx,hy,e2]
end
theorem zF8{st:St}{L:Xt}{l l' i n n':Nat}(e:n'=n)(h:XS L l=some l'):Rs st L (.msl l i n') (.msl l' i n):=by subst e;exact .msl h
theorem zFi{α:Type}{st:St}{L:Xt}{b sz n:Nat}{l:List α}{f:α->List AV}(e:l.length=n)(hD:Ur L b=false)(hb:st[b]?=some (some (sz,l.map f)))(h:∀x,Ze (f x)=true):Rs st L (.isl sz (l.map f)) (.msl b 0 n):=by
 subst e;exact K8 hD hb h
section
variable {α : Type}
def Za(k:List UInt8):List (List UInt8×α)->Option α
 | []=>none
 |(a,x)::r=>cond (decide (k=a)) (some x) (Za k r)
def ZM(k:List UInt8)(x:α):List (List UInt8×α)->List (List UInt8×α)
 | []=>[(k,x)]
 |(a,y)::r=>cond (decide (k=a)) ((k,x)::r) ((a,y)::ZM k x r)
def rKV(g:α->AV)(p:List UInt8×α):List AV:=[.lit (.string (B p.1)),g p.2]
theorem zpy{g:α->AV}{k:List UInt8}:∀{l:List (List UInt8×α)} {i:Nat},
  (∀x,Za k l=some x->∃j,Z9 k (l.map (rKV g)) i=some (some (i+j,g x))/\j<l.length/\∀y,(ZM k y l).map (rKV g)=(l.map (rKV g)).set j [.lit (.string (B k)),g y]) /\
  (Za k l=none->Z9 k (l.map (rKV g)) i=some none/\∀y,ZM k y l=l++[(k,y)])
 | [],i=>⟨λx h=>(by cases h),λ_=>⟨rfl,λy=>rfl⟩⟩
 |(a,z)::r,i=>by
  obtain ⟨h1,h2⟩:=zpy (g:=g) (k:=k) (l:=r) (i:=i+1);by_cases hd:k=a
  .subst hd;refine ⟨λx h=>?_,λh=>?_⟩
   .simp only [Za,decide_true,cond_true] at h;cases h;refine ⟨0,?_,by simp,λy=>?_⟩
    .show Z9 k ([AV.lit (.string (B k)),g z]:: _) i=_;unfold Z9;simp
    .simp [ZM,rKV]
   .simp [Za] at h
  .have e1:Z9 k (List.map (rKV g) ((a,z)::r)) i=Z9 k (r.map (rKV g)) (i+1):=by
    show Z9 k ([AV.lit (.string (B a)),g z]:: _) i=_
    conv=>lhs;unfold Z9
    simp [hd]
   have e2:Za k ((a,z)::r)=Za k r:=by simp [Za,hd]
   have e3:∀y,ZM k y ((a,z)::r)=(a,z)::ZM k y r:=λy=>by simp [ZM,hd]
   refine ⟨λx h=>?_,λh=>?_⟩
   .rw [e2] at h;obtain ⟨j,h3,h4,h5⟩:=h1 x h;refine ⟨j+1,by rw [e1,h3];congr 3;omega,by simp;omega,λy=>?_⟩;rw [e3,Yq,h5 y];rfl
   .rw [e2] at h;obtain ⟨h3,h4⟩:=h2 h;exact ⟨by rw [e1,h3],λy=>by rw [e3,h4 y];rfl⟩
theorem zE7{g:α->AV}{k:List UInt8}{y:α}{l:List (List UInt8×α)}:zGI (B k) (g y) (l.map (rKV g))=some ((ZM k y l).map (rKV g)):=by
 unfold zGI;have h:=zpy (g:=g) (k:=k) (l:=l) (i:=0);rw [show (B k).data.toList=k from rfl]
 cases hg:Za k l with
 |some x =>
  obtain ⟨j,h1,_,h2⟩:=h.1 x hg;rw [h1,h2 y];simp
 |none =>
  obtain ⟨h1,h2⟩:=h.2 hg;rw [h1,h2 y,J8];rfl
theorem zEk{P:Program}{st:St}{t e:TypeId}{mv:AV}{te:TI}{l:List (List UInt8×α)}{g:α->AV}{z:α}{k:List UInt8}(hm:Gy P t=some e)(he:Xf P e=some te)(hr:Ws st mv=some (l.map (rKV g)))(hz:BD te.zero=g z):
  WL P st t mv k true=some (.tup [g ((Za k l).getD z),.lit (.bool (Za k l).isSome)]):=by
 unfold WL;rw [hm];simp only;rw [he,hr];simp only;have h:=zpy (g:=g) (k:=k) (l:=l) (i:=0)
 cases hg:Za k l with
 |some x =>
  obtain ⟨j,h1,_⟩:=h.1 x hg;rw [h1];rfl
 |none=>rw [(h.2 hg).1,hz];rfl
theorem zEj{P:Program}{st:St}{t e:TypeId}{mv:AV}{te:TI}{l:List (List UInt8×α)}{g:α->AV}{z:α}{k:List UInt8}(hm:Gy P t=some e)(he:Xf P e=some te)(hr:Ws st mv=some (l.map (rKV g)))(hz:BD te.zero=g z):
  WL P st t mv k false=some (g ((Za k l).getD z)):=by
 unfold WL;rw [hm];simp only;rw [he,hr];simp only;have h:=zpy (g:=g) (k:=k) (l:=l) (i:=0)
 cases hg:Za k l with
 |some x =>
  obtain ⟨j,h1,_⟩:=h.1 x hg;rw [h1];rfl
 |none=>rw [(h.2 hg).1,hz];rfl
end
def XB{α:Type}(k:Nat)(f:α->List AV):Option α->AV
 |none=>.lit (.pointer none)
 |some x=>.ipt k [f x] 0 0
def Um{α β:Type}(o:Option α)(a:β)(b:α->β):β:=match o with |none=>a |some x=>b x
theorem oeN{α β:Type}{a r:β}{b:α->β}(h:Um none a b=r):a=r:=h
theorem oeS{α β:Type}{a r:β}{x:α}{b:α->β}(h:Um (some x) a b=r):b x=r:=h
theorem Zs{α:Type}{k:Nat}{f:α->List AV}{o:Option α}(h:∀x,Ze (f x)=true):KQ (XB k f o)=true:=by cases o <;> rfl
theorem Z5{x:AV}{l:List AV}(h:KQ x=true)(hl:Ze l=true):Ze (x ::l)=true:=by simp [Ze,h,hl]
theorem zxy{l:List AV}(hl:Ze l=true):KQ (.tup l)=true:=hl
section
variable {P : Program} {env : Ev} {st : St} {K : Ev -> St -> Prop} {d : Tmp} {ty : TypeId} {pos : String} {aft : Array Edge} {gu : Option (Nat × Bool)}
theorem eqp{t u e:TypeId}{x y:Operand}{ti:TI}{a:AV}{b:Bool}(ht:Xf P t=some ti)(hk:ti.k=.ptr e)(hx:ev env x=some a)(hy:ev env y=some (.lit (.pointer none)))(h1:Up (.ptr e) .eql a (.lit (.pointer none))=none)(h2:aeq P t .eql a (.lit (.pointer none))=none)
  (h:zFI (.ptr e) st .eql a (.lit (.pointer none))=some (.lit (.bool b))) (k:K ((d,.lit (.bool b))::env) st):SOp P ⟨some d,.binOp .eql t x y u,ty,pos,aft,gu⟩ env st K:=
 XV rfl (by simp only [aop,ht,hx,hy,hk,h1,h2,h,QO]) k
theorem nep{t u e:TypeId}{x y:Operand}{ti:TI}{a:AV}{b:Bool}(ht:Xf P t=some ti)(hk:ti.k=.ptr e)(hx:ev env x=some a)(hy:ev env y=some (.lit (.pointer none)))(h1:Up (.ptr e) .neq a (.lit (.pointer none))=none)(h2:aeq P t .neq a (.lit (.pointer none))=none)
  (h:zFI (.ptr e) st .neq a (.lit (.pointer none))=some (.lit (.bool b))) (k:K ((d,.lit (.bool b))::env) st):SOp P ⟨some d,.binOp .neq t x y u,ty,pos,aft,gu⟩ env st K:=
 XV rfl (by simp only [aop,ht,hx,hy,hk,h1,h2,h,QO]) k
theorem zGD{α:Type}{t u e:TypeId}{x y:Operand}{ti:TI}{k':Nat}{f:α->List AV}{o:Option α}(ht:Xf P t=some ti)(hk:ti.k=.ptr e)(hx:ev env x=some (XB k' f o))(hy:ev env y=some (.lit (.pointer none)))
  (k:K ((d,.lit (.bool o.isNone))::env) st):SOp P ⟨some d,.binOp .eql t x y u,ty,pos,aft,gu⟩ env st K:=by
 cases o with
 |none=>exact eqp ht hk hx hy rfl rfl rfl k
 |some x=>exact eqp ht hk hx hy rfl rfl rfl k
theorem zHW{α:Type}{t u e:TypeId}{x y:Operand}{ti:TI}{k':Nat}{f:α->List AV}{o:Option α}(ht:Xf P t=some ti)(hk:ti.k=.ptr e)(hx:ev env x=some (XB k' f o))(hy:ev env y=some (.lit (.pointer none)))
  (k:K ((d,.lit (.bool (!o.isNone)))::env) st):SOp P ⟨some d,.binOp .neq t x y u,ty,pos,aft,gu⟩ env st K:=by
 cases o with
 |none=>exact nep ht hk hx hy rfl rfl rfl k
 |some x=>exact nep ht hk hx hy rfl rfl rfl k
theorem mmk{t e:TypeId}(nn:Nat)(hm:Gy P t=some e)(hn:st.length=nn)(k:K ((d,.mmp nn)::env) (st++[some (2,[])])):SOp P ⟨some d,.makeMap t none,ty,pos,aft,gu⟩ env st K:=
 XV rfl (by subst hn;simp only [aop,hm]) k
theorem mup{α:Type}{t e:TypeId}{m k' x:Operand}{b:Nat}{s:List UInt8}{v:α}{a:AV}{g:α->AV}{l:List (List UInt8×α)}(hm:Gy P t=some e)(h1:ev env m=some (.mmp b))(h2:ev env k'=some (.lit (.string (B s))))(h3:ev env x=some a)(hv:a=g v)
  (hb:st[b]?=some (some (2,l.map (rKV g)))) (k:K env (st.set b (some (2,(ZM s v l).map (rKV g))))):SOp P ⟨none,.mapUpdate t m k' x,ty,pos,aft,gu⟩ env st K:=by
 subst hv;exact zG6 (av:=.lit undef) rfl (by simp only [aop,h1,h2,h3,zts,hm,hb,zE7,QO]) k
theorem zHw{α:Type}{t e:TypeId}{m k':Operand}{mv:AV}{te:TI}{s:List UInt8}{g:α->AV}{z:α}{l:List (List UInt8×α)}(hm:Gy P t=some e)(he:Xf P e=some te)(h1:ev env m=some mv)(h2:ev env k'=some (.lit (.string (B s))))(hr:Ws st mv=some (l.map (rKV g)))(hz:BD te.zero=g z)
  (k:K ((d,.tup [g ((Za s l).getD z),.lit (.bool (Za s l).isSome)])::env) st):SOp P ⟨some d,.lookup t m k' true,ty,pos,aft,gu⟩ env st K:=
 XV rfl (by simp only [aop,h1,h2];rw [zEk hm he hr hz];rfl) k
theorem zHV{α:Type}{t e:TypeId}{m k':Operand}{mv:AV}{te:TI}{s:List UInt8}{g:α->AV}{z:α}{l:List (List UInt8×α)}(hm:Gy P t=some e)(he:Xf P e=some te)(h1:ev env m=some mv)(h2:ev env k'=some (.lit (.string (B s))))(hr:Ws st mv=some (l.map (rKV g)))(hz:BD te.zero=g z)
  (k:K ((d,g ((Za s l).getD z))::env) st):SOp P ⟨some d,.lookup t m k' false,ty,pos,aft,gu⟩ env st K:=
 XV rfl (by simp only [aop,h1,h2];rw [zEj hm he hr hz];rfl) k
theorem zBf{α:Type}{L:Xt}{b:Nat}{l:List (List UInt8×α)}{g:α->AV}(hD:Ur L b=false)(hb:st[b]?=some (some (2,l.map (rKV g))))(h:∀x,Ze (rKV g x)=true):Rs st L (.imp (l.map (rKV g))) (.mmp b):=
 .sm hD hb rfl (λr hr x hx=>by obtain ⟨y,_,rfl⟩:=QQ.1 hr;exact (Uf (h y)).mem x hx) (λq _ _=>rfl) (λq h1 h2 j h3 h4=>by
  refine .imm ?_;obtain ⟨y,_,hy⟩:=QQ.1 (Qh h2);have h6:=(Uf (h y)).mem;rw [hy] at h6
  exact h6 _ (Qh h4))
theorem zBj{α:Type}{b:Nat}{l:List (List UInt8×α)}{g:α->AV}(hb:st[b]?=some (some (2,l.map (rKV g))))(h:∀x,Ze (rKV g x)=true):Zo st (.mmp b) (.imp (l.map (rKV g))):=
 .mmp hb rfl (λq _ _=>rfl) (λq h1 h2 j h3 h4=>by
  refine .imm ?_;obtain ⟨y,_,hy⟩:=QQ.1 (Qh h2);have h6:=(Uf (h y)).mem;rw [hy] at h6
  exact h6 _ (Qh h4))
theorem rsP{α:Type}{L:Xt}{b k:Nat}{row:List AV}{x:α}{f:α->List AV}(hD:Ur L b=false)(hb:st[b]?=some (some (k,[row])))(h:Uq st L (f x) row)(hi:Ze (f x)=true):Rs st L (XB k f (some x)) (.mpt b 0 0):=
 .slp hD hb rfl (λr hr y hy=>by obtain rfl:=Q4.1 hr;exact (Uf hi).mem y hy) (λq h1 h2=>by
  have:q=0:=by simpa using h1
  subst this;exact h.get.1.symm) (λq h1 h2 j h3 h4=>by
  have:q=0:=by simpa using h1
  subst this;exact h.get.2 j h4 h3)
theorem fdV{t:TypeId}{x:Operand}{f:Nat}{a v:AV}(hx:ev env x=some a)(h:afv P t f a=some v)(k:K ((d,v)::env) st):SOp P ⟨some d,.field t x f,ty,pos,aft,gu⟩ env st K:=
 XV rfl (by simp only [aop,hx,h,QO]) k
def mkP(w:Nat)(n:Int):Option Nat:=if 0≤n/\n≤16777216/\(w:Int)*n≤281474976710656 then some n.toNat else none
theorem mks{α:Type}{t e:TypeId}{x y:Operand}{ti te:TI}{kl kc:IntKind}{n:Int}{N w:Nat}{f:α->List AV}{z:α}(nn:Nat)(ht:Xf P t=some ti)(hk:ti.k=.slc e)(he:Xf P e=some te)(hs:te.size=1)(hw:te.bytes=w)(hx:ev env x=some (.lit (.int kl n)))(hy:ev env y=some (.lit (.int kc n)))
  (hz:X7 te.zero=f z) (hn:st.length=nn) (h:mkP w n=some N) (k:K ((d,.msl nn 0 (List.length (List.replicate N z)))::env) (st++[some (1,(List.replicate N z).map f)])):SOp P ⟨some d,.makeSlice t x y,ty,pos,aft,gu⟩ env st K:=by
 unfold mkP at h;split at h
 .rename_i hc;cases h;refine XV rfl ?_ k;subst hn;subst hw;simp only [aop,hx,hy,zB7,ht,hk,he];rw [if_pos ⟨trivial,hc.1,by omega,by rw [hs];omega,hc.2.2⟩,hz,hs];simp
 .cases h
theorem mnI{x y:Operand}{kk kk':IntKind}{a b:Int}{ats:Array TypeId}(hx:ev env x=some (.lit (.int kk a)))(hy:ev env y=some (.lit (.int kk' b)))(k:K ((d,.lit (.int kk (if b<a then b else a)))::env) st):
  SOp P ⟨some d,.call { callee:=.builtin .min,args:=#[x,y],argTypes:=ats },ty,pos,aft,gu⟩ env st K:=
 XV rfl (by simp [aop,Hb,zw3,hx,hy]) k
end
section
variable {X Y : Type}
def Df(F:(X->Option Y)->X->Option Y):Nat->X->Option Y
 | 0,_=>none
 |n+1,x=>F (Df F n) x
open Classical in
def zHy(F:(X->Option Y)->X->Option Y)(x:X):Option Y:=
 if h:∃n y,Df F n x=some y then some h.choose_spec.choose else none
def Bx(F:(X->Option Y)->X->Option Y)(x:X):Option Y:=
 match Df F 30 x with
 |some y=>some y
 |none=>zHy F x
theorem zFd{F:(X->Option Y)->X->Option Y}{x:X}{y:Y}(h:Bx F x=some y):∃n,Df F n x=some y:=by
 unfold Bx at h;split at h
 .rename_i z h0;cases h;exact ⟨_,h0⟩
 .unfold zHy at h;split at h
  .rename_i hex;cases h;exact ⟨_,hex.choose_spec.choose_spec⟩
  .cases h
theorem zA8{F:(X->Option Y)->X->Option Y}{Q:X->Y->Prop}(h:∀v,(∀x y,v x=some y->Q x y)->∀x y,F v x=some y->Q x y){x:X}{y:Y}(hr:Bx F x=some y):Q x y:=by
 obtain ⟨n,hn⟩:=zFd hr
 have key:∀n x y,Df F n x=some y->Q x y:=by
  intro n
  induction n with
  |zero=>intro x y h;cases h
  |succ n ih=>intro x y h1;exact h _ ih x y h1
 exact key n x y hn
end
def GQ:List Nat->Ev->Ev
 |_,[]=>[]
 |s,(t,v)::r=>match Xr t s with |true=>GQ s r |false=>(t,v)::GQ (t ::s) r
theorem IO:∀{s:List Nat} {e:Ev} {t:Nat} {v:AV},look (GQ s e) t=some v->Xr t s=false/\look e t=some v
 |_,[],t,v,h=>by cases h
 |s,(k,x)::r,t,v,h=>by
  unfold GQ at h;simp only [look]
  cases hm:Xr k s with
  |true =>
   rw [hm] at h;obtain ⟨h1,h2⟩:=IO h;refine ⟨h1,?_⟩;split
   .rename_i e;subst e;rw [hm] at h1;cases h1
   .exact h2
  |false =>
   rw [hm] at h;simp only [look] at h;split at h
   .rename_i e;subst e;cases h;exact ⟨hm,by rw [if_pos rfl]⟩
   .rename_i e;obtain ⟨h1,h2⟩:=IO h;simp only [Xr,Qo] at h1;exact ⟨h1.2,by rw [if_neg e];exact h2⟩
mutual
def zC8:AV->List Nat->List Nat
 |.msl l _ _,a=>l ::a
 |.mpt l _ _,a=>l ::a
 |.mmp l,a=>l ::a
 |.agg cs,a=>BP cs a
 |.tup cs,a=>BP cs a
 |.fn _ x y,a=>BP x (BP y a)
 |_,a=>a
def BP:List AV->List Nat->List Nat
 | [],a=>a
 |x ::l,a=>zC8 x (BP l a)
end
def zGs:Ev->List Nat->List Nat
 | [],a=>a
 |(_,v)::r,a=>zC8 v (zGs r a)
def zGt:List (List AV)->List Nat->List Nat
 | [],a=>a
 |x ::l,a=>BP x (zGt l a)
def BQ(st:St):Nat->List Nat->List Nat->List Nat
 | 0,_,Xc=>Xc
 |_+1,[],Xc=>Xc
 |n+1,l ::r,Xc =>
  match Xr l Xc with
  |true=>BQ st n r Xc
  |false=>match st[l]? with |some (some (_,els))=>BQ st n (zGt els r) (l ::Xc) |_=>BQ st n r (l ::Xc)
def BH(st:St)(nb0:Nat)(Xc:List Nat):Nat->St->Xt
 |_,[]=>[]
 |i,none ::r=>match Nat.blt i nb0 with |true=>.dead ::BH st nb0 Xc (i+1) r |false=>BH st nb0 Xc (i+1) r
 |i,some _ ::r=>match Nat.blt i nb0||Xr i Xc with |true=>.old i ::BH st nb0 Xc (i+1) r |false=>BH st nb0 Xc (i+1) r
def Dm(x:Nat):Nat->Xt->Option Nat
 |_,[]=>none
 |i,.old y ::r=>match Nat.beq y x with |true=>some i |false=>Dm x (i+1) r
 |i,_ ::r=>Dm x (i+1) r
theorem zrc{x:Nat}:∀{L:Xt} {i l:Nat},Dm x i L=some l->i≤l/\L[l-i]?=some (.old x)
 | [],i,l,h=>by cases h
 |.old y ::r,i,l,h=>by
  unfold Dm at h;split at h
  .rename_i hy;cases h;rw [Qj hy];exact ⟨Qk _,by simp⟩
  .obtain ⟨h1,h2⟩:=zrc h;refine ⟨by omega,?_⟩;rw [show l-i=(l-(i+1))+1 by omega];simpa using h2
 |.dead ::r,i,l,h=>by
  obtain ⟨h1,h2⟩:=zrc (L:=r) h;refine ⟨by omega,?_⟩;rw [show l-i=(l-(i+1))+1 by omega];simpa using h2
 |.fresh k ::r,i,l,h=>by
  obtain ⟨h1,h2⟩:=zrc (L:=r) h;refine ⟨by omega,?_⟩;rw [show l-i=(l-(i+1))+1 by omega];simpa using h2
theorem zr4{x:Nat}{L:Xt}{l:Nat}(h:Dm x 0 L=some l):XS L l=some x:=by
 have:=(zrc h).2;unfold XS;rw [Yd] at this;rw [this]
mutual
def tnV(L:Xt):AV->Option AV
 |.msl l i n=>match Dm l 0 L with |some q=>some (.msl q i n) |none=>some .any
 |.mpt l i j=>match Dm l 0 L with |some q=>some (.mpt q i j) |none=>some .any
 |.mmp l=>match Dm l 0 L with |some q=>some (.mmp q) |none=>some .any
 |.fr x=>some (.fr x)
 |.imp e=>some (.imp e)
 |.agg cs=>match tnL L cs with |some r=>some (.agg r) |none=>none
 |.tup cs=>match tnL L cs with |some r=>some (.tup r) |none=>none
 |.fn f a b=>match tnL L a,tnL L b with |some x,some y=>some (.fn f x y) |_,_=>none
 |.any=>some .any
 |.lit v=>some (.lit v)
 |.isl k e=>some (.isl k e)
 |.ipt k e i j=>some (.ipt k e i j)
def tnL(L:Xt):List AV->Option (List AV)
 | []=>some []
 |x ::l=>match tnV L x,tnL L l with |some y,some r=>some (y ::r) |_,_=>none
end
mutual
theorem zBJ{st:St}{L:Xt}:∀{x y:AV},tnV L x=some y->Rs st L y x
 |.msl l i n,y,h=>by
  unfold tnV at h;split at h
  .rename_i q hq;cases h;exact .msl (zr4 hq)
  .cases h;exact .any _
 |.mpt l i j,y,h=>by
  unfold tnV at h;split at h
  .rename_i q hq;cases h;exact .mpt (zr4 hq)
  .cases h;exact .any _
 |.mmp l,y,h=>by
  unfold tnV at h;split at h
  .rename_i q hq;cases h;exact .mmp (zr4 hq)
  .cases h;exact .any _
 |.imp e,y,h=>by unfold tnV at h;cases h;exact .imm (.imp _)
 |.fr x,y,h=>by unfold tnV at h;cases h;exact .imm (.fr _)
 |.agg cs,y,h=>by
  unfold tnV at h;split at h
  .rename_i q hq;cases h;exact GX (BT hq)
  .cases h
 |.tup cs,y,h=>by
  unfold tnV at h;split at h
  .rename_i q hq;cases h;exact Gu (BT hq)
  .cases h
 |.fn f a b,y,h=>by
  unfold tnV at h;split at h
  .rename_i q1 q2 hq1 hq2;cases h;exact zH1 (BT hq1) (BT hq2)
  .cases h
 |.any,y,h=>by unfold tnV at h;cases h;exact .any _
 |.lit v,y,h=>by unfold tnV at h;cases h;exact .imm (.lit _)
 |.isl k e,y,h=>by unfold tnV at h;cases h;exact .imm (.isl _ _)
 |.ipt k e i j,y,h=>by unfold tnV at h;cases h;exact .imm (.ipt _ _ _ _)
theorem BT{st:St}{L:Xt}:∀{x y:List AV},tnL L x=some y->Uq st L y x
 | [],y,h=>by unfold tnL at h;cases h;trivial
 |x ::l,y,h=>by
  unfold tnL at h;split at h
  .rename_i a b ha hb;cases h;exact ⟨zBJ ha,BT hb⟩
  .cases h
end
def tnR(L:Xt):List (List AV)->Option (List (List AV))
 | []=>some []
 |x ::l=>match tnL L x,tnR L l with |some y,some r=>some (y ::r) |_,_=>none
theorem zD9{st:St}{L:Xt}:∀{x y:List (List AV)},tnR L x=some y->zv1 st L y x
 | [],y,h=>by unfold tnR at h;cases h;trivial
 |x ::l,y,h=>by
  unfold tnR at h;split at h
  .rename_i a b ha hb;cases h;exact ⟨BT ha,zD9 hb⟩
  .cases h
def tnE(L:Xt):Ev->Option Ev
 | []=>some []
 |(t,x)::l=>match tnV L x,tnE L l with |some y,some r=>some ((t,y)::r) |_,_=>none
def tnS(L:Xt)(st:St):Xt->Option St
 | []=>some []
 |.dead ::r=>match tnS L st r with |some s=>some (none ::s) |none=>none
 |.fresh _ :: _=>none
 |.old x ::r=>match st[x]? with |some (some (k,els))=>(match tnR L els,tnS L st r with |some e,some s=>some (some (k,e)::s) |_,_=>none) |_=>none
theorem Ig{L:Xt}{st:St}:∀{r:Xt} {s:St},tnS L st r=some s->UK st L r s
 | [],s,h=>by unfold tnS at h;cases h;trivial
 |.dead ::r,s,h=>by
  unfold tnS at h;split at h
  .rename_i q hq;cases h;exact Ig (r:=r) hq
  .cases h
 |.fresh _ ::r,s,h=>by unfold tnS at h;cases h
 |.old x ::r,s,h=>by
  unfold tnS at h;split at h
  .rename_i k els hx;split at h
   .rename_i e s' he hs;cases h;exact ⟨⟨els,hx,GA (zD9 he)⟩,Ig hs⟩
   .cases h
  .cases h
def zAh(st:St):Nat:=64*st.length+4096
def zHi(nb0:Nat)(env:Ev)(st:St):Option (Ev×St):=
 let e:=GQ [] env
 let L:=BH st nb0 (BQ st (zAh st) (zGs e (List.range nb0)) []) 0 st
 match Ut L&&GR nb0 L&&Nat.ble nb0 L.length with
 |true=>match tnE L e,tnS L st L with |some e',some s'=>some (e',s') |_,_=>none
 |false=>none
theorem Il{L:Xt}{st:St}:∀{r:Xt} {s:St},tnS L st r=some s->s.length=r.length
 | [],s,h=>by unfold tnS at h;cases h;rfl
 |.dead ::r,s,h=>by
  unfold tnS at h;split at h
  .rename_i q hq;cases h;simp [Il (r:=r) hq]
  .cases h
 |.fresh _ ::r,s,h=>by unfold tnS at h;cases h
 |.old x ::r,s,h=>by
  unfold tnS at h;split at h
  .split at h
   .rename_i e s' he hs;cases h;simp [Il hs]
   .cases h
  .cases h
def GZ:Ev->Bool
 | []=>true
 |(t,_)::r=>!Xr t (XT r)&&GZ r
theorem ztS:∀{e:Ev} {u:Nat},Xr u (XT e)=true->∃v,look e u=some v
 | [],u,h=>by cases h
 |(k,x)::r,u,h=>by
  simp only [look];split
  .exact ⟨_,rfl⟩
  .rename_i hne;simp only [XT,Xr,Qp] at h
   rcases h with h |h
   .exact absurd (Qj h) hne
   .exact ztS h
theorem zBI{st:St}{L:Xt}:∀{e e':Ev},tnE L e=some e'->∀{E:Ev},(∀t v,look e t=some v->look E t=some v)->(∀t,Xr t (XT e)=true->∃v,look e t=some v)->GZ e=true->Z1 st L e' E
 | [],e',h,E,_,_,_=>by unfold tnE at h;cases h;trivial
 |(t,x)::l,e',h,E,hE,hk,ho=>by
  unfold tnE at h;split at h
  .rename_i y r hy hr;cases h;simp only [GZ,Qd,Qn] at ho;refine ⟨⟨x,hE t x (by simp [look]),zBJ hy⟩,zBI hr (λu v hu=>hE u v ?_) (λu hu=>?_) ho.2⟩
   .simp only [look];split
    .rename_i e;subst e;exact absurd (GH.2 (Ov hu)) (by rw [ho.1];decide)
    .exact hu
   .exact ztS hu
  .cases h
theorem zpU:∀{s:List Nat} {e:Ev},GZ (GQ s e)=true/\∀t,Xr t (XT (GQ s e))=true->Xr t s=false
 |s,[]=>⟨rfl,λt h=>by cases h⟩
 |s,(k,x)::r=>by
  unfold GQ
  cases hm:Xr k s with
  |true=>exact zpU (s:=s) (e:=r)
  |false =>
   obtain ⟨h1,h2⟩:=zpU (s:=k ::s) (e:=r);refine ⟨?_,λt ht=>?_⟩
   .simp only [GZ,h1,Bool.and_true,Qn]
    cases hk:Xr k (XT (GQ (k ::s) r)) with
    |false=>rfl
    |true=>have:=h2 k hk;simp [Xr] at this
   .simp only [XT,Xr,Qp] at ht
    rcases ht with ht |ht
    .rw [<-Qj ht];exact hm
    .have:=h2 t ht;simp only [Xr,Qo] at this;exact this.2
theorem zDv{nb0:Nat}{env e':Ev}{st s':St}(h:zHi nb0 env st=some (e',s')):Can nb0 e' s' env st:=by
 unfold zHi at h;simp only at h;split at h
 .rename_i hc;simp only [Qd] at hc;split at h
  .rename_i a b ha hb;cases h;refine ⟨_,zBI ha (λt v ht=>(IO ht).2) (λt ht=>ztS ht) zpU.1,hc.1.1,Ig hb,hc.1.2,?_⟩;rw [Il hb];exact Qv hc.2
  .cases h
 .cases h
def BE(nb0:Nat)(av:AV)(st:St):Option (AV×St):=
 let L:=BH st nb0 (BQ st (zAh st) (zC8 av (List.range nb0)) []) 0 st
 match Ut L&&GR nb0 L&&Nat.ble nb0 L.length with
 |true=>match tnV L av,tnS L st L with |some e',some s'=>some (e',s') |_,_=>none
 |false=>none
theorem zBF{nb0:Nat}{av av':AV}{st s':St}(h:BE nb0 av st=some (av',s')):E7 nb0 av' s' av st:=by
 unfold BE at h;simp only at h;split at h
 .rename_i hc;simp only [Qd] at hc;split at h
  .rename_i a b ha hb;cases h;refine ⟨_,zBJ ha,hc.1.1,Ig hb,hc.1.2,?_⟩;rw [Il hb];exact Qv hc.2
  .cases h
 .cases h
section
variable (P : Program) (call : FuncId -> List AV -> St -> Option (AV × St))
def rOp(o:Op)(env:Ev)(st:St):Option (AV×St):=
 match ZF o with
 |true=>match Kh env o with |some (g,args)=>call g args st |none=>none
 |false=>aop P env st o
def E4(all:List Oper):List Oper->Ev->St->Option (Ev×St)
 | [],env,st=>some (env,st)
 |o ::rest,env,st =>
  match Zy all env o with
  |some true=>match rOp P call o.op env st with |some (av,st')=>E4 all rest (aput o.dst av env) st' |none=>none
  |some false=>E4 all rest (aput o.dst (.lit undef) env) st
  |none=>none
def WC:Prop:=∀g args st av st',call g args st=some (av,st')->Uv P g args st λa s=>a=av/\s=st'
end
section
variable {P : Program} {call : FuncId -> List AV -> St -> Option (AV × St)} (hc : WC P call)
include hc
theorem zGl{o:Op}{env:Ev}{st st':St}{av:AV}(h:rOp P call o env st=some (av,st')):Z6 P o env st λa s=>a=av/\s=st':=by
 unfold rOp at h;unfold Z6;split at h
 .rename_i hi
  try rw [hi]
  try simp only
  split at h
  .rename_i g args ha
   try rw [ha]
   exact hc _ _ _ _ _ h
  .cases h
 .rename_i hi
  try rw [hi]
  try simp only
  rw [h];exact ⟨rfl,rfl⟩
theorem zG8{o:Oper}{env:Ev}{st st':St}{av:AV}{K:Ev->St->Prop}(h:rOp P call o.op env st=some (av,st'))(k:K (aput o.dst av env) st'):SOp P o env st K:=by
 have h2:=zGl hc h;unfold Z6 at h2;unfold SOp;split at h2
 .rename_i hi
  try rw [hi]
  try simp only
  split at h2
  .rename_i g args ha
   try rw [ha]
   exact h2.mono λa s ⟨e1,e2⟩=>by rw [e1,e2];exact k
  .exact h2.elim
 .rename_i hi
  try rw [hi]
  try simp only
  split at h2
  .rename_i a s ha
   try rw [ha]
   obtain ⟨e1,e2⟩:=h2
   try simp only
   rw [e1,e2];exact k
  .exact h2.elim
theorem zA6{all:List Oper}{K:Ev->St->Prop}:∀{l:List Oper} {env:Ev} {st:St} {env':Ev} {st':St},E4 P call all l env st=some (env',st')->K env' st'->BA P all l env st K
 | [],env,st,env',st',h,k=>by unfold E4 at h;cases h;exact k
 |o ::rest,env,st,env',st',h,k=>by
  unfold E4 at h;unfold BA;split at h
  .rename_i hg
   try rw [hg]
   try simp only
   split at h
   .rename_i av s1 ho;exact zG8 hc ho (zA6 h k)
   .cases h
  .rename_i hg
   try rw [hg]
   exact zA6 h k
  .cases h
end
def zyg(P:Program):Op->Bool
 |.call c=>match c.callee with |.builtin .len=>false |_=>true
 |.convert _ d _=>match Xf P d with |some ti=>(match ti.k with |.int _=>false |.str=>false |_=>true) |none=>true
 |.slice _ _ _ _ mx=>mx.isSome
 |.move _ |.assign _ |.pick .. |.binOp .. |.unOp .. |.extract .. |.load .. |.fieldAddr .. |.indexAddr .. |.index .. |.build .. |.nilCheck .. |.makeFunc .. |.lookup .. |.field ..=>false
 |_=>true
theorem Uk{α:Type}{x:Option α}{f:α->AV×St}{av:AV}{st st':St}(hf:∀a,(f a).2=st)(h:x.map f=some (av,st')):st'=st:=by
 cases x with
 |none=>cases h
 |some a =>
  have h1:f a=(av,st'):=sm h;rw [<-hf a,h1]
def zG0:Value->Value->Bool
 |.int k n,.int k' n'=>decide (k=k')&&decide (n=n')
 |.bool a,.bool b=>a == b
 |.string a,.string b=>decide (a.data.toList=b.data.toList)
 |.slice none 0 0,.slice none 0 0=>true
 |.pointer none,.pointer none=>true
 |.tuple a,.tuple b=>a.size == 0&&b.size == 0
 |_,_=>false
mutual
def avB:AV->AV->Bool
 |.lit a,.lit b=>zG0 a b
 |.msl a b c,.msl a' b' c'=>Nat.beq a a'&&(Nat.beq b b'&&Nat.beq c c')
 |.mpt a b c,.mpt a' b' c'=>Nat.beq a a'&&(Nat.beq b b'&&Nat.beq c c')
 |.mmp l,.mmp r=>Nat.beq l r
 |.agg l,.agg r=>Hq l r
 |.tup l,.tup r=>Hq l r
 |.fn (.func f) a b,.fn (.func g) c d=>Nat.beq f g&&(Hq a c&&Hq b d)
 |_,_=>false
def Hq:List AV->List AV->Bool
 | [],[]=>true
 |x ::l,y ::r=>avB x y&&Hq l r
 |_,_=>false
end
theorem zEZ{a b:Value}(h:zG0 a b=true):a=b:=by
 unfold zG0 at h;split at h
 .simp only [Qd,decide_eq_true_eq] at h;rw [h.1,h.2]
 .rw [eq_of_beq h]
 .rename_i a b
  have h1:a.data.toList=b.data.toList:=by simpa using h
  obtain ⟨⟨l⟩⟩:=a;obtain ⟨⟨r⟩⟩:=b;have h2:l=r:=h1;rw [h2]
 .rfl
 .rfl
 .rename_i a b;simp only [Qd,beq_iff_eq] at h;rw [J1 h.1,J1 h.2]
 .cases h
mutual
theorem zzM:∀{a b:AV},avB a b=true->a=b
 |.lit a,b,h=>by
  cases b with
  |lit c=>unfold avB at h;rw [zEZ h]
  |_=>unfold avB at h;cases h
 |.msl l i n,b,h=>by
  cases b with
  |msl l' i' n' =>
   unfold avB at h;simp only [Qd] at h;rw [Qj h.1,Qj h.2.1,Qj h.2.2]
  |_=>unfold avB at h;cases h
 |.mpt l i n,b,h=>by
  cases b with
  |mpt l' i' n' =>
   unfold avB at h;simp only [Qd] at h;rw [Qj h.1,Qj h.2.1,Qj h.2.2]
  |_=>unfold avB at h;cases h
 |.agg l,b,h=>by
  cases b with
  |agg r=>unfold avB at h;rw [Oc h]
  |_=>unfold avB at h;cases h
 |.tup l,b,h=>by
  cases b with
  |tup r=>unfold avB at h;rw [Oc h]
  |_=>unfold avB at h;cases h
 |.mmp l,b,h=>by
  cases b with
  |mmp r=>unfold avB at h;rw [Qj h]
  |_=>unfold avB at h;cases h
 |.imp _,b,h=>by unfold avB at h;cases h
 |.fr _,b,h=>by unfold avB at h;cases h
 |.any,b,h=>by unfold avB at h;cases h
 |.isl _ _,b,h=>by unfold avB at h;cases h
 |.ipt _ _ _ _,b,h=>by unfold avB at h;cases h
 |.fn f x y,b,h=>by
  cases b with
  |fn g u v =>
   cases f with
   |func n =>
    cases g with
    |func n' =>
     unfold avB at h;simp only [Qd] at h;rw [Qj h.1,Oc h.2.1,Oc h.2.2]
    |_=>unfold avB at h;cases h
   |_=>unfold avB at h;cases h
  |_=>cases f <;> unfold avB at h <;> cases h
theorem Oc:∀{a b:List AV},Hq a b=true->a=b
 | [],[],_=>rfl
 |x ::l,y ::r,h=>by
  unfold Hq at h;simp only [Qd] at h;rw [zzM h.1,Oc h.2]
 | [],_ :: _,h=>by unfold Hq at h;cases h
 |_ :: _,[],h=>by unfold Hq at h;cases h
end
theorem zv4{st st':St}{ks kd ke:TK}{x av:AV}(hk:(match kd with |.int _=>false |.str=>false |_=>true)=false)(h:E8 st ks kd ke x=some (av,st')):st'=st:=by
 unfold E8 at h;split at h
 .cases h;rfl
 .split at h
  .cases h;rfl
  .cases h
 .split at h
  .split at h
   .exact Uk (λ_=>rfl) h
   .cases h
  .cases h
 .cases hk
 .cases h
theorem zyl{st st':St}{b:Bool}{ks ke:TK}{x av:AV}(h:Bz st b ks ke x=some (av,st')):st'=st:=by
 unfold Bz at h;split at h
 .split at h
  .split at h
   .cases h;rfl
   .cases h
  .cases h
 .cases h
section
variable (P : Program) (call : FuncId -> List AV -> St -> Option (AV × St))
def Xc(all:List Oper)(env0 F:Ev)(i:Nat)(o:Oper):Ev:=sel F (ea all env0 i) (X6 all o.after.toList)
def zGM(all:List Oper)(env0 F:Ev)(st:St)(i:Nat)(o:Oper):Option AV:=
 match K4 (Xc all env0 F i o) (GE all o.guard) with
 |some true=>match zyg P o.op with |true=>none |false=>(match ZF o.op with |true=>none |false=>(match aop P (Xc all env0 F i o) st o.op with |some r=>some r.1 |none=>none))
 |some false=>some (.lit undef)
 |none=>none
def zxc(all:List Oper)(ss p:List Nat)(env0:Ev)(st:St)(en:List Nat)(F:Ev):List Oper->Nat->List Nat->Ev->Option (List Nat×Ev)
 | [],_,en',X=>some (en',X)
 |o ::r,i,en',X =>
  match Xr i ss||Xr i en||!KH all ss p (en'++en) i with
  |true=>zxc all ss p env0 st en F r (i+1) en' X
  |false =>
   match zGM P all env0 (X++F) st i o with
   |some v=>zxc all ss p env0 st en F r (i+1) (i ::en') (aput o.dst v X)
   |none=>none
def By(all:List Oper)(env0 F:Ev)(st:St)(p:List Nat):List Nat->Bool
  | []=>true
  |i ::r =>
    (match Wx all i p with
     |false=>true
     |true =>
       match all[i]? with
       |some o=>(match zGM P all env0 F st i o with |some v=>(match o.dst with |some t=>(match look F t with |some u=>avB u v |none=>false) |none=>true) |none=>false)
       |none=>false)&&By all env0 F st p r
def zCU(all:List Oper)(ss p en:List Nat)(s:Nat):List Nat->Bool
 | []=>true
 |x ::r=>(Nat.beq x s||(Xr x p||!KH all ss p en x))&&zCU all ss p en s r
def zAH(all:List Oper)(ss p en:List Nat):List Nat->Option Nat
 | []=>none
 |x ::r=>match Xr x p||!KH all ss p en x with |true=>zAH all ss p en r |false=>some x
def Ih(all:List Oper)(ss:List Nat)(env0:Ev)(p en:List Nat)(F:Ev)(st:St)(s:Nat):Option (List Nat×Ev×St):=
 match all[s]? with
 |some o =>
  match K4 (Xc all env0 F s o) (GE all o.guard),rOp P call o.op (Xc all env0 F s o) st with
  |some true,some (av,st') =>
   match zxc P all ss (s ::p) env0 st' en (aput o.dst av F) all 0 [] [] with
   |some (en',X) =>
    match Zp (XT (X++aput o.dst av [])) F&&(Uc all ((s ::p)++(en'++en)) (XT (X++aput o.dst av []))&&(match o.dst with |some t=>!Xr t (XT X) |none=>true)) with
    |true=>some (en'++en,(X++aput o.dst av [])++F,st')
    |false=>none
   |none=>none
  |_,_=>none
 |none=>none
def rDT(all:List Oper)(ss:List Nat)(env0:Ev):Nat->List Nat->List Nat->Ev->St->Option (Ev×St)
 | 0,p,en,F,st =>
  match By P all env0 F st p en&&(U4 all ss p en&&Z0 p ss) with
  |true=>some (F++Kg (Kb all) env0,st)
  |false=>none
 |n+1,p,en,F,st =>
  match By P all env0 F st p en&&(U4 all ss p en&&!Z0 p ss) with
  |true =>
   match zAH all ss p en ss with
   |some s =>
    match zCU all ss p en s ss with
    |true =>
     match Ih P call all ss env0 p en F st s with
     |some (en2,F2,st2)=>rDT all ss env0 n (s ::p) en2 F2 st2
     |none=>none
    |false=>none
   |none=>none
  |false=>none
def zGc(all:List Oper)(ss:List Nat)(env0:Ev):Nat->List Nat->List Nat->Ev->St->Option (Ev×St)
 | 0,p,en,F,st=>some (F++Kg (Kb all) env0,st)
 |n+1,p,en,F,st =>
  match zAH all ss p en ss with
  |some s =>
   match Ih P call all ss env0 p en F st s with
   |some (en2,F2,st2)=>zGc all ss env0 n (s ::p) en2 F2 st2
   |none=>none
  |none=>none
def zwi(k:Nat):List Nat->List Nat->Xt
 | [],_=>[]
 |x ::r,done=>match Nat.blt x k||Xr x done with |true=>zwi k r done |false=>.old x ::zwi k r (x ::done)
def zAK:Nat->Nat->St->Xt
 | 0,_,_=>[]
 |_+1,_,[]=>[]
 |n+1,i,none ::r=>.dead ::zAK n (i+1) r
 |n+1,i,some _ ::r=>.old i ::zAK n (i+1) r
def zt3(env:Ev):List Nat->List Nat->List Nat
 | [],a=>a
 |t ::r,a=>match look env t with |some v=>zC8 v (zt3 env r a) |none=>zt3 env r a
def zCq(nb0 k:Nat)(ts:List Nat)(env:Ev)(st:St):Option (Ev×St):=
 let e:=GQ [] env
 let L:=zAK k 0 st++zwi k (zt3 e ts (BQ st (zAh st) (zt3 e ts []) [])) []
 match Ut L&&(GR nb0 L&&Nat.ble nb0 L.length) with
 |true=>match tnE L e,tnS L st L with |some e',some s'=>some (e',s') |_,_=>none
 |false=>none
def evB:Ev->Ev->Bool
 | [],_=>true
 |(t,v)::r,e=>(match look e t with |some u=>avB u v |none=>false)&&evB r e
def zDa:List (List AV)->List (List AV)->Bool
 | [],[]=>true
 |x ::l,y ::r=>Hq x y&&zDa l r
 |_,_=>false
def stB:St->St->Bool
 | [],[]=>true
 |none ::l,none ::r=>stB l r
 |some (k,a)::l,some (k',b)::r=>(Nat.beq k k'&&zDa a b)&&stB l r
 |_,_=>false
def Ib(nb0 k:Nat)(ts:List Nat)(E:Ev)(S:St)(all:List Oper)(ss:List Nat)(env0:Ev):Nat->List Nat->List Nat->Ev->St->Bool
 | 0,p,en,F,st =>
  By P all env0 F st p en&&(U4 all ss p en&&(Z0 p ss&&(match zCq nb0 k ts (F++Kg (Kb all) env0) st with |some (e,s)=>evB E e&&stB S s |none=>false)))
 |n+1,p,en,F,st =>
  By P all env0 F st p en&&(U4 all ss p en&&(!Z0 p ss&&ss.all λs=>Xr s p||(!KH all ss p en s||(match Ih P call all ss env0 p en F st s with |some (en2,F2,st2)=>Ib nb0 k ts E S all ss env0 n (s ::p) en2 F2 st2 |none=>false))))
end
section
variable {P : Program} {call : FuncId -> List AV -> St -> Option (AV × St)}
theorem zzI{op:Op}{env:Ev}{st st':St}{av:AV}(ht:zyg P op=false)(h:aop P env st op=some (av,st')):st'=st:=by
 cases op <;> simp only [zyg] at ht <;> try cases ht
 case move=>exact Uk (λ_=>rfl) h
 case assign=>exact Uk (λ_=>rfl) h
 case pick =>
  simp only [aop] at h;split at h
  .exact Uk (λ_=>rfl) h
  .exact Uk (λ_=>rfl) h
  .cases h
 case load =>
  simp only [aop] at h;split at h
  .exact Uk (λ_=>rfl) h
  .cases h
 case nilCheck =>
  simp only [aop] at h;split at h
  .split at h
   .cases h;rfl
   .cases h
  .cases h
 case binOp =>
  simp only [aop] at h;split at h
  .exact Uk (λ_=>rfl) h
  .cases h
 case unOp =>
  simp only [aop] at h;split at h
  .exact Uk (λ_=>rfl) h
  .cases h
 case build =>
  simp only [aop] at h;split at h
  .split at h
   .exact Uk (λ_=>rfl) h
   .split at h
    .exact Uk (λ_=>rfl) h
    .cases h
   .cases h
  .cases h
 case makeFunc fn first caps =>
  cases fn with
  |func f =>
   simp only [aop] at h;split at h
   .cases h;rfl
   .cases h
  |_=>simp only [aop] at h;cases h
 case extract =>
  simp only [aop] at h;split at h
  .exact Uk (λ_=>rfl) h
  .cases h
 case fieldAddr =>
  simp only [aop] at h;split at h
  .split at h
   .exact Uk (λ_=>rfl) h
   .cases h
  .cases h
 case indexAddr =>
  simp only [aop] at h;split at h
  .split at h
   .split at h
    .exact Uk (λ_=>rfl) h
    .cases h
   .cases h
  .cases h
 case field =>
  simp only [aop] at h;split at h
  .exact Uk (λ_=>rfl) h
  .cases h
 case lookup =>
  simp only [aop] at h;split at h
  .exact Uk (λ_=>rfl) h
  .cases h
 case index =>
  simp only [aop] at h;split at h
  .split at h
   .exact Uk (λ_=>rfl) h
   .cases h
  .split at h
   .split at h
    .exact Uk (λ_=>rfl) h
    .cases h
   .cases h
  .cases h
 case convert =>
  split at ht
  .rename_i ti hti;simp only [aop] at h;split at h
   .rename_i is id v h1 h2 h3;rw [hti] at h2;cases h2;split at h
    .split at h
     .rename_i r hr;cases h;exact zv4 ht hr
     .exact zyl h
    .cases h
   .cases h
  .cases ht
 case slice t x lo hi mx =>
  cases mx with
  |some _=>cases ht
  |none =>
   simp only [aop] at h;split at h
   .split at h
    .split at h
     .exact Uk (λ_=>rfl) h
     .cases h
    .split at h
     .split at h
      .cases h;rfl
      .cases h
     .cases h
    .cases h
   .cases h
 case call c =>
  obtain ⟨callee,args,ats⟩:=c;simp only at ht;split at ht
  .simp only [aop,Hb] at h;split at h
   .rename_i h1 _ _;unfold Dt at h;split at h
    .split at h
     .cases h;rfl
     .cases h;rfl
     .split at h
      .cases h;rfl
      .cases h
     .cases h;rfl
     .cases h
    .cases h
   .rename_i h1 _ _;cases h1
   .rename_i h1 _;cases h1
   .rename_i h1 _ _;cases h1
   .cases h
  .cases ht
theorem zA4{all:List Oper}{env0 F:Ev}{st:St}{i:Nat}{o:Oper}{v:AV}(h:zGM P all env0 F st i o=some v):Wr P all (ea all env0 i) st F o v:=by
 unfold zGM at h;unfold Wr;have e:Xc all env0 F i o=sel F (ea all env0 i) (X6 all o.after.toList):=rfl;rw [e] at h;split at h
 .rename_i hg
  try rw [hg]
  try simp only
  split at h
  .cases h
  .rename_i ht;split at h
   .cases h
   .rename_i hi;split at h
    .rename_i r hr;cases h;obtain ⟨r1,r2⟩:=r;have:=zzI ht hr;subst this;unfold Z6
     try rw [hi]
     try simp only
     rw [hr];exact ⟨rfl,rfl⟩
    .cases h
 .rename_i hg
  try rw [hg]
  try simp only
  cases h;rfl
 .cases h
theorem IE{all:List Oper}{env0 F:Ev}{st:St}{p:List Nat}:∀{en:List Nat},By P all env0 F st p en=true->UE P all env0 F st p en
 | [],_=>trivial
 |i ::r,h=>by
  unfold By at h;rw [Qd] at h;refine ⟨λhp=>?_,IE h.2⟩;have h1:=h.1;rw [hp] at h1;simp only at h1;unfold Ux;split at h1
  .rename_i o ho
   try rw [ho]
   try simp only
   split at h1
   .rename_i v hv;split at h1
    .rename_i t ht
     try rw [ht]
     try simp only
     split at h1
     .rename_i u hu;rw [zzM h1] at hu;exact ⟨v,hu,zA4 hv⟩
     .cases h1
    .rename_i ht
     try rw [ht]
     exact ⟨v,trivial,zA4 hv⟩
   .cases h1
  .cases h1
theorem zAz{X e:Ev}{t:Nat}(h:Xr t (XT X)=false):look (X++e) t=look e t:=by
 induction X with
 |nil=>rfl
 |cons p X ih =>
  obtain ⟨k,x⟩:=p;simp only [XT,Xr,Qo] at h;simp only [J0,look];rw [if_neg (λe=>by rw [e] at h;simp at h)];exact ih h.2
theorem zAQ{all:List Oper}{ss p en:List Nat}{s:Nat}:∀{l:List Nat},zCU all ss p en s l=true->∀x,Xr x l=true->Xr x p=false->KH all ss p en x=true->x=s
 | [],_,x,h,_,_=>by cases h
 |y ::r,h,x,hm,hp,hw=>by
  unfold zCU at h;rw [Qd] at h;simp only [Xr,Qp] at hm
  rcases hm with hm |hm
  .have e:=Qj hm;subst e;have h1:=h.1;rw [hp,hw] at h1;simp at h1;exact h1
  .exact zAQ h.2 x hm hp hw
theorem Z6.mono{op:Op}{env:Ev}{st:St}{K K':AV->St->Prop}(h:Z6 P op env st K)(hk:∀a s,K a s->K' a s):Z6 P op env st K':=by
 unfold Z6 at h ⊢;split at h
 .split at h
  .exact h.mono hk
  .exact h.elim
 .split at h
  .exact hk _ _ h
  .exact h.elim
theorem zx6(hc:WC P call){all:List Oper}{ss:List Nat}{env0:Ev}{K:Ev->St->Prop}{n:Nat}{p en:List Nat}{F:Ev}{st:St}{s:Nat}{en2:List Nat}{F2:Ev}{st2:St}
  (h:Ih P call all ss env0 p en F st s=some (en2,F2,st2)) (hd:DT P all ss env0 K n (s ::p) en2 F2 st2):
  match all[s]? with
   |some o=>K4 (sel F (ea all env0 s) (X6 all o.after.toList)) (GE all o.guard)=some true/\Z6 P o.op (sel F (ea all env0 s) (X6 all o.after.toList)) st (λav st'=>∃en' new,
     Zp (XT new) F=true/\Uc all ((s ::p)++(en'++en)) (XT new)=true/\(match o.dst with |some t=>look (new++F) t=some av |none=>True)/\DT P all ss env0 K n (s ::p) (en'++en) (new++F) st')
   |none=>False:=by
 unfold Ih at h;split at h
 case h_2=>cases h
 rename_i o ho;split at h
 case h_2=>cases h
 rename_i av s1 hg hop;refine ⟨hg,?_⟩;refine Z6.mono (zGl hc hop) λa s ⟨e1,e2⟩=>?_;subst e1;subst e2;split at h
 case h_2=>cases h
 rename_i en' X hcl;split at h
 case h_2=>cases h
 rename_i hk;simp only [Qd] at hk;cases h;refine ⟨en',X++aput o.dst a [],hk.1,hk.2.1,?_,hd⟩;have hkk:=hk.2.2
 cases hd:o.dst with
 |none=>trivial
 |some t =>
  try simp only
  rw [hd] at hkk;simp only [Qn] at hkk;rw [Jv,zAz hkk];simp [aput,look]
theorem zGk(hc:WC P call){all:List Oper}{ss:List Nat}{env0:Ev}{K:Ev->St->Prop}:∀{n:Nat} {p en:List Nat} {F:Ev} {st:St} {env':Ev} {st':St},rDT P call all ss env0 n p en F st=some (env',st')->K env' st'->DT P all ss env0 K n p en F st
 | 0,p,en,F,st,env',st',h,k=>by
  unfold rDT at h;split at h
  .rename_i hb;simp only [Qd] at hb;cases h;exact ⟨IE hb.1,hb.2.1,hb.2.2,k⟩
  .cases h
 |n+1,p,en,F,st,env',st',h,k=>by
  unfold rDT at h;split at h
  case h_2=>cases h
  rename_i hb;simp only [Qd,Qn] at hb;refine ⟨IE hb.1,hb.2.1,hb.2.2,λx hx hp hw=>?_⟩;split at h
  case h_2=>cases h
  rename_i s hs;split at h
  case h_2=>cases h
  rename_i hon;have e:=zAQ hon x hx hp hw;subst e;split at h
  case h_2=>cases h
  rename_i en2 F2 st2 hstep;exact zx6 hc hstep (zGk hc h k)
theorem zFT{E e:Ev}:evB E e=true->∀t v,look E t=some v->look e t=some v:=by
 induction E with
 |nil=>intro _ t v h;cases h
 |cons p r ih =>
  obtain ⟨k,x⟩:=p;intro h t v hl;simp only [evB,Qd] at h;simp only [look] at hl;split at hl
  .rename_i ekt;subst ekt;cases hl;have h1:=h.1;split at h1
   .rename_i u hu;rw [hu,zzM h1]
   .cases h1
  .exact ih h.2 t v hl
theorem zx2:∀{a b:List (List AV)},zDa a b=true->a=b
 | [],[],_=>rfl
 |x ::l,y ::r,h=>by
  simp only [zDa,Qd] at h;rw [Oc h.1,zx2 h.2]
 | [],_ :: _,h=>by cases h
 |_ :: _,[],h=>by cases h
theorem zBm:∀{a b:St},stB a b=true->a=b
 | [],[],_=>rfl
 |none ::l,none ::r,h=>by
  simp only [stB] at h;rw [zBm h]
 |some (k,a)::l,some (k',b)::r,h=>by
  simp only [stB,Qd] at h;rw [Qj h.1.1,zx2 h.1.2,zBm h.2]
 | [],_ :: _,h=>by cases h
 |none :: _,[],h=>by cases h
 |some _ :: _,[],h=>by cases h
 |none :: _,some _ :: _,h=>by cases h
 |some (_,_):: _,none :: _,h=>by cases h
theorem Z1.less{st:St}{L:Xt}{env:Ev}:∀{E e:Ev},Z1 st L e env->(∀t v,look E t=some v->look e t=some v)->GZ E=true->Z1 st L E env
 | [],_,_,_,_=>trivial
 |(t,v)::r,e,h,hl,ho=>by
  simp only [GZ,Qd,Qn] at ho;refine ⟨h.get t v (hl t v (by simp [look])),Z1.less (E:=r) h (λu x hu=>hl u x ?_) ho.2⟩;simp only [look];split
  .rename_i ekt;subst ekt;exact absurd (GH.2 (Ov hu)) (by rw [ho.1];decide)
  .exact hu
theorem zAg{nb0 k:Nat}{ts:List Nat}{E e env:Ev}{S s st:St}(ho:GZ E=true)(h:zCq nb0 k ts env st=some (e,s))(hE:evB E e=true)(hS:stB S s=true):Can nb0 E S env st:=by
 unfold zCq at h;simp only at h;split at h
 case h_2=>cases h
 rename_i hcc;simp only [Qd] at hcc;split at h
 case h_2=>cases h
 rename_i a b ha hb;cases h;have hs:=zBm hS;subst hs;refine ⟨_,Z1.less (zBI ha (λt v ht=>(IO ht).2) (λt ht=>ztS ht) zpU.1) (zFT hE) ho,hcc.1,Ig hb,hcc.2.1,?_⟩;rw [Il hb];exact Qv hcc.2.2
theorem zzC(hc:WC P call){nb0 k:Nat}{ts:List Nat}{E:Ev}{S:St}(ho:GZ E=true){all:List Oper}{ss:List Nat}{env0:Ev}:∀{n:Nat} {p en:List Nat} {F:Ev} {st:St},
  Ib P call nb0 k ts E S all ss env0 n p en F st=true->DT P all ss env0 (λenv st=>Can nb0 E S env st) n p en F st
 | 0,p,en,F,st,h=>by
  simp only [Ib,Qd] at h;refine ⟨IE h.1,h.2.1,h.2.2.1,?_⟩;have h1:=h.2.2.2;split at h1
  .rename_i e s hf;rw [Qd] at h1;exact zAg ho hf h1.1 h1.2
  .cases h1
 |n+1,p,en,F,st,h=>by
  simp only [Ib,Qd,Qn] at h;refine ⟨IE h.1,h.2.1,h.2.2.1,λx hx hp hw=>?_⟩;have h1:=Ql.1 h.2.2.2 x (GH.1 hx);rw [hp,hw] at h1;simp only [Qt,QX] at h1;split at h1
  .rename_i en2 F2 st2 hstep;exact zx6 hc hstep (zzC hc ho h1)
  .cases h1
def zyh(all:List Oper):List Oper->Nat->Ev->St->List Nat
 | [],_,_,_=>[]
 |o ::r,i,env,st =>
  match Zy all env o with
  |some true =>
   match rOp P call o.op env st with
   |some (av,st')=>match zyg P o.op with |true=>i ::zyh all r (i+1) (aput o.dst av env) st' |false=>zyh all r (i+1) (aput o.dst av env) st'
   |none=>[]
  |some false=>zyh all r (i+1) (aput o.dst (.lit undef) env) st
  |none=>[]
end
section
variable (P : Program) (call : FuncId -> List AV -> St -> Option (AV × St))
def zG7(nb0 n:Nat)(all:List Oper)(env:Ev)(st:St):Option (Ev×St):=
 let ss:=zyh (P:=P) (call:=call) all all 0 env st
 match KZ n all&&KY all.length ss with
 |true =>
  match zxc P all ss [] env st [] [] all 0 [] [] with
  |some (en,F) =>
   match Uc all en (XT F) with
   |true =>
    match rDT P call all ss env ss.length [] en F st with
    |some r=>some r
    |none =>
     match zGc P call all ss env ss.length [] en F st with
     |some (e1,s1) =>
      match zCq nb0 st.length (Kb all) e1 s1 with
      |some (E,S)=>match GZ E&&Ib P call nb0 st.length (Kb all) E S all ss env ss.length [] en F st with |true=>some (E,S) |false=>none
      |none=>none
     |none=>none
   |false=>none
  |none=>none
 |false=>none
def ZW(nb0:Nat):Nat->Nat->Code->Ev->St->Option (Exit×Ev×St)
 | 0,_,_,_,_=>none
 |f+1,n,c,env,st =>
  match c with
  |.skip=>some (.normal,env,st)
  |.ret=>some (.ret,env,st)
  |.exit id=>some (.exit id,env,st)
  |.seq x y =>
   match ZW nb0 f n x env st with
   |some (.normal,e,s)=>ZW nb0 f n y e s
   |some (.ret,e,s)=>some (.ret,e,s)
   |some (.exit i,e,s)=>some (.exit i,e,s)
   |_=>none
  |.cond c x y =>
   match ev env c with
   |some (.lit (.bool true))=>ZW nb0 f n x env st
   |some (.lit (.bool false))=>ZW nb0 f n y env st
   |_=>none
  |.block id c =>
   match ZW nb0 f n c env st with
   |some (.exit i,e,s)=>match Nat.beq i id with |true=>some (.normal,e,s) |false=>some (.exit i,e,s)
   |some (.normal,e,s)=>some (.normal,e,s)
   |some (.ret,e,s)=>some (.ret,e,s)
   |_=>none
  |.loop c =>
   match ZW nb0 f n c env st with
   |some (.normal,e,s) =>
    match Nat.beq s.length st.length with
    |true=>ZW nb0 f n (.loop c) (GQ [] e) s
    |false=>match zHi nb0 e s with |some (e',s')=>ZW nb0 f n (.loop c) e' s' |none=>none
   |some (.ret,e,s)=>some (.ret,e,s)
   |some (.exit i,e,s)=>some (.exit i,e,s)
   |_=>none
  |.region _ ops d =>
   match d with
   |false =>
    match ops.toList.all (λo=>o.dst.all (·<n)) with
    |true=>match E4 P call ops.toList ops.toList env st with |some (e,s)=>some (.normal,e,s) |none=>none
    |false=>none
   |true=>match zG7 P call nb0 n ops.toList env st with |some (e,s)=>some (.normal,e,s) |none=>none
  |_=>none
end
def isR(r:Exit×Ev×St):Exit->Ev->St->Prop:=λx e s=>(x,e,s)=r
theorem SW.less{P:Program}{n nb0:Nat}{c:Code}{Q:Exit->Ev->St->Prop}{env env':Ev}{st:St}(hs:∀t v,look env' t=some v->look env t=some v)(h:SW P n nb0 c Q env' st):SW P n nb0 c Q env st:=
 λA m w a h0 hR hE=>h A m w a h0 hR (hE.less hs)
theorem zGj{P:Program}{call:FuncId->List AV->St->Option (AV×St)}(hc:WC P call)(hm:P.follows .mixedOrders=true){n nb0 id:Nat}{ops:Array Oper}{env:Ev}{st:St}{e:Ev}{s:St}(h:zG7 P call nb0 n ops.toList env st=some (e,s)){Q:Exit->Ev->St->Prop}(k:Q .normal e s):
  SW P n nb0 (.region id ops true) Q env st:=by
 unfold zG7 at h;simp only at h;split at h
 case h_2=>cases h
 rename_i h1;rw [Qd] at h1;split at h
 case h_2=>cases h
 rename_i en F hcl;split at h
 case h_2=>cases h
 rename_i hk;split at h
 .rename_i r hr;cases h;exact Gk _ en F _ hm h1.1 (by simpa using h1.2) hk (zGk hc hr k)
 .split at h
  case h_2=>cases h
  rename_i e1 s1 hone;split at h
  case h_2=>cases h
  rename_i E S hf;split at h
  case h_2=>cases h
  rename_i ha;rw [Qd] at ha;cases h;exact rdL e s _ en F _ hm h1.1 (by simpa using h1.2) hk (zzC hc ha.1 ha.2) k
section
variable {P : Program} {call : FuncId -> List AV -> St -> Option (AV × St)} (hc : WC P call) (hm : P.follows .mixedOrders = true) {n nb0 : Nat}
include hc hm
theorem zxX:∀(F f:Nat),f≤F->∀{c:Code} {env:Ev} {st:St} {r:Exit×Ev×St},ZW P call nb0 f n c env st=some r->SW P n nb0 c (isR r) env st
 |_,0,_,_,_,_,_,h=>by cases h
 | 0,f+1,hf,_,_,_,_,_=>by omega
 |F+1,f+1,hf,c,env,st,r,h=>by
  have go:∀{k:Nat},k≤F->∀{c:Code} {env:Ev} {st:St} {r:Exit×Ev×St},ZW P call nb0 k n c env st=some r->SW P n nb0 c (isR r) env st:=λhk _ _ _ _ h=>zxX F _ hk h;have KG:∀{c:Code} {env:Ev} {st:St} {r:Exit×Ev×St},ZW P call nb0 f n c env st=some r->SW P n nb0 c (isR r) env st:=λh=>go (by omega) h
  cases c <;> simp only [ZW] at h <;> try cases h
  case skip=>exact zd rfl
  case ret=>exact zy rfl
  case exit=>exact zs rfl
  case seq x y =>
   split at h
   .rename_i e s hx;exact ze ((KG hx).mono λx1 e1 s1 h1=>by cases h1;exact KG h)
   .rename_i e s hx;cases h;exact ze ((KG hx).mono λx1 e1 s1 h1=>by cases h1;exact rfl)
   .rename_i e s hx;cases h;exact ze ((KG hx).mono λx1 e1 s1 h1=>by cases h1;exact rfl)
   .cases h
  case cond o x y =>
   split at h
   .rename_i hv;exact U5 hv (λ_=>KG h) (λh1=>by cases h1)
   .rename_i hv;exact U5 hv (λh1=>by cases h1) (λ_=>KG h)
   .cases h
  case block id c =>
   split at h
   .rename_i i e s hx;split at h
    .rename_i hb;cases h
     exact zh ((KG hx).mono λx1 e1 s1 h1=>by
      cases h1;simp only [Hz]
      rw [if_pos (Qj hb)];rfl)
    .rename_i hb;cases h
     exact zh ((KG hx).mono λx1 e1 s1 h1=>by
      cases h1;simp only [Hz]
      rw [if_neg (λe=>by rw [e] at hb;simp at hb)];rfl)
   .rename_i hx;cases h;exact zh ((KG hx).mono λx1 e1 s1 h1=>by cases h1;exact rfl)
   .rename_i hx;cases h;exact zh ((KG hx).mono λx1 e1 s1 h1=>by cases h1;exact rfl)
   .cases h
  case loop c =>
   have h0:ZW P call nb0 (f+1) n (.loop c) env st=some r:=by simp only [ZW];exact h
   clear h;refine zwX (λk env st=>k≤f+1/\∃e2 s2,(Can nb0 e2 s2 env st∨(s2=st/\∀t v,look e2 t=some v->look env t=some v))/\ZW P call nb0 k n (.loop c) e2 s2=some r) (f+1) ⟨Qk _,env,st,.inr ⟨rfl,λ_ _ h=>h⟩,h0⟩ ?_;rintro k env st ⟨hk,e2,s2,hor,h⟩
   cases k with
   |zero=>cases h
   |succ k =>
    have main:SW P n nb0 c (Do (λenv st=>∃k',k'<k+1/\k'≤f+1/\∃e2 s2,(Can nb0 e2 s2 env st∨(s2=st/\∀t v,look e2 t=some v->look env t=some v))/\ZW P call nb0 k' n (.loop c) e2 s2=some r) (isR r)) e2 s2:=by
     simp only [ZW] at h
     have hk':k≤F:=by omega
     split at h
     .rename_i e s hx;refine (go hk' hx).mono λx1 e1 s1 h1=>?_;cases h1;split at h
      .exact ⟨k,QN k,by omega,_,_,.inr ⟨rfl,λt v ht=>(IO ht).2⟩,h⟩
      .split at h
       .rename_i e' s' ht;exact ⟨k,QN k,by omega,_,_,.inl (zDv ht),h⟩
       .cases h
     .rename_i hx;cases h;exact (go hk' hx).mono λx1 e1 s1 h1=>by cases h1;exact rfl
     .rename_i hx;cases h;exact (go hk' hx).mono λx1 e1 s1 h1=>by cases h1;exact rfl
     .cases h
    rcases hor with hcan |⟨rfl,hl⟩
    .exact Wz hcan main
    .exact SW.less hl main
  case region id ops d =>
   cases d with
   |false =>
    simp only at h;split at h
    .rename_i hd;split at h
     .rename_i e s ho;cases h;exact zBA hd λK hK=>zA6 hc ho (hK _ _ rfl)
     .cases h
    .cases h
   |true =>
    simp only at h;split at h
    .rename_i e s ho;cases h;exact zGj hc hm ho rfl
    .cases h
theorem KG{f:Nat}{c:Code}{env:Ev}{st:St}{r:Exit×Ev×St}(h:ZW P call nb0 f n c env st=some r):SW P n nb0 c (isR r) env st:=zxX hc hm f f (Qk _) h
end
def BR(P:Program)(kn:List Nat):Nat->FuncId->List AV->St->Option (AV×St)
 | 0,_,_,_=>none
 |f+1,g,args,st =>
  match Xr g kn&&args.isEmpty with
  |true=>some (.lit (.bool true),st)
  |false =>
   match P.funcs[g]? with
   |some fn =>
    match fn.body with
    |some c =>
     match fn.name == "runtime.NumGoroutine", Nat.ble args.length fn.ntmps with
     |false,true =>
      match ZW P (BR P kn f) st.length 100000 fn.ntmps c (GI 0 args) st with
      |some (.normal,e,s)=>match KU P fn e s with |some av=>(match Nat.beq s.length st.length with |true=>some (av,s) |false=>BE st.length av s) |none=>none
      |some (.ret,e,s)=>match KU P fn e s with |some av=>(match Nat.beq s.length st.length with |true=>some (av,s) |false=>BE st.length av s) |none=>none
      |_=>none
     |_,_=>none
    |none=>none
   |none=>none
theorem zHY{P:Program}{fn:Func}{nb0:Nat}{e:Ev}{s:St}{av:AV}{st':St}
  (h:(match KU P fn e s with |some av=>(match Nat.beq s.length nb0 with |true=>some (av,s) |false=>BE nb0 av s) |none=>none)=some (av,st')):
  (∃av1,KU P fn e s=some av1/\av1=av/\s=st')∨Ua P fn nb0 av st' e s:=by
 split at h
 .rename_i av1 ha;split at h
  .cases h;exact .inl ⟨_,ha,rfl,rfl⟩
  .exact .inr ⟨av1,ha,zBF h⟩
 .cases h
theorem zwF{P:Program}{kn:List Nat}(hm:P.follows .mixedOrders=true)(hk:∀g,Xr g kn=true->Xm P g [] (.lit (.bool true))):∀f,WC P (BR P kn f)
 | 0,g,args,st,av,st',h=>by cases h
 |f+1,g,args,st,av,st',h=>by
  unfold BR at h;split at h
  .rename_i hg;cases h;rw [Qd,List.isEmpty_iff] at hg;rw [hg.2];exact zti (hk _ hg.1) .nil ⟨rfl,rfl⟩
  split at h
  case h_2=>cases h
  rename_i fn hfn;split at h
  case h_2=>cases h
  rename_i c hcb;split at h
  case h_2=>cases h
  rename_i h1 h2;have hc:=zwF hm hk f
  have fin:∀{x:Exit} {e:Ev} {s:St},ZW P (BR P kn f) st.length 100000 fn.ntmps c (GI 0 args) st=some (x,e,s)->x=.normal∨x=.ret ->
    (match KU P fn e s with |some av=>(match Nat.beq s.length st.length with |true=>some (av,s) |false=>BE st.length av s) |none=>none)=some (av,st')->Uv P g args st λa s=>a=av/\s=st':=λ{x e s} hx hxx h=>by
   rcases zHY h with ⟨av1,h3,h4,h5⟩ |h3
   .refine zth hfn hcb h1 (Qv h2) ((KG hc hm hx).mono λx1 e1 s1 h6=>?_);cases h6
    rcases hxx with rfl |rfl
    .exact ⟨av1,h3,h4,h5⟩
    .exact ⟨av1,h3,h4,h5⟩
   .refine zZ hfn hcb h1 h2 ((KG hc hm hx).mono λx1 e1 s1 h6=>?_);cases h6
    rcases hxx with rfl |rfl
    .exact h3
    .exact h3
  split at h
  .rename_i hx;exact fin hx (.inl rfl) h
  .rename_i hx;exact fin hx (.inr rfl) h
  .cases h
theorem zFm{P:Program}{kn:List Nat}{f:Nat}{g:FuncId}{st:St}(hm:P.follows .mixedOrders=true)(hk:∀g,Xr g kn=true->Xm P g [] (.lit (.bool true)))
  (h:BR P kn f g [] []=some (.lit (.bool true),st)):Xm P g [] (.lit (.bool true)):=
 zua ((zwF hm hk f _ _ _ _ _ h).mono λa s ⟨e1,e2⟩=>by subst e1;exact .imm (.lit _))
def zHC:Option (AV×St)->Bool
 |some (.lit (.bool b),_)=>b
 |_=>false
theorem HJ{P:Program}{g:FuncId}(kn:List Nat)(f:Nat)(hm:P.follows .mixedOrders=true)(hk:∀g,Xr g kn=true->Xm P g [] (.lit (.bool true)))
  (h:zHC (BR P kn f g [] [])=true):Xm P g [] (.lit (.bool true)):=by
 unfold zHC at h;split at h
 .rename_i b st hr;subst h;exact zFm hm hk hr
 .cases h
theorem kn1{P:Program}{k:Nat}(h:Xm P k [] (.lit (.bool true))):∀g,Xr g [k]=true->Xm P g [] (.lit (.bool true)):=λg hg=>by
 simp only [Xr,Q0] at hg;rw [<-Qj hg];exact h
theorem R.trunc{A:Am}{m:BM}{w:World}{st:St}(hR:R A m w st){l k:Nat}{els:List (List AV)}(he:st[l]?=some (some (k,els)))(q:Nat)(hk:Nat.beq k 2=false):
  R A m w (st.set l (some (k,els.take q))):=by
 have hl:l<st.length:=(Qb.1 he).1
 have hk2:k≠2:=λe=>by subst e;cases hk
 refine ⟨hR.aLow,hR.aOwn,hR.aFun,hR.nLe,hR.nOwn,hR.inj,λx b hb=>?_,λx k' els' hx=>?_⟩
 .by_cases e:l=x
  .subst e;exact ⟨els.take q,by rw [QP hl,(hR.at hb he).1]⟩
  .obtain ⟨els1,h1⟩:=hR.live x b hb;exact ⟨els1,by rw [QJ e];exact h1⟩
 .rw [Ji];by_cases e:l=x
  .subst e;rw [QP hl] at hx;cases hx;obtain ⟨b,h1,h2,h3,h4⟩:=hR.blk l k els he;refine ⟨b,h1,h2,λhh=>?_,λhh=>by rw [h4 hh];simp⟩;have ho:=h3 hh;refine ⟨ho.low,ho.there,ho.free,λhq=>?_,λi hi=>?_,λhq i hi j hj=>?_,λhq=>?_⟩
   .refine QD (Nat.add_le_add_left (QG _ ?_) _) (ho.fit hq);simp;omega
   .simp only [List.getElem_take];exact ho.wide _ _
   .simp only [List.getElem_take] at hj ⊢;exact ho.val hq i (by simp at hi;omega) j hj
   .exact absurd (h2.symm.trans (ho.mval hq).1) hk2
  .rw [QJ e] at hx;exact hR.blk x k' els' hx
theorem zz1{α:Type}{l r:List α}{c:Int}(h:XJ l 0 c=some r):r=l.take c.toNat:=by
 unfold XJ at h;split at h
 .cases h;simp
 .cases h
section
variable {P : Program} {n nb0 : Nat} {all l1 l2 : List Oper} {K : Ev -> St -> Prop} {env : Ev} {st : St} {d : Nat} {ty : TypeId} {pos : String} {aft : Array Edge} {gu : Option (Nat × Bool)}
theorem zHh{α:Type}{cd:Code}{Q:Exit->Ev->St->Prop}{b sz:Nat}{l r:List α}{f:α->List AV}{c:Int}(hb:st[b]?=some (some (sz,l.map f)))(hk:Nat.beq sz 2=false)(h:XJ l 0 c=some r)
  (k:SW P n nb0 cd Q env (st.set b (some (sz,r.map f)))):SW P n nb0 cd Q env st:=by
 intro A m w a h0 hR hE
 have e:r.map f=(l.map f).take c.toNat:=by rw [zz1 h,List.map_take]
 rw [e] at k
 have hlen:(st.set b (some (sz,(l.map f).take c.toNat))).length=st.length:=by simp
 exact k A m w a (by rw [hlen];exact h0) (hR.trunc hb c.toNat hk) (by rw [hlen];exact hE)
theorem slM{α:Type}{t e:TypeId}{x:Operand}{hi:Option Operand}{ti te:TI}{sz b:Nat}{l r:List α}{f:α->List AV}{c:Int}(ht:Xf P t=some ti)(hk:ti.k=.slc e)(he:Xf P e=some te)(hs:te.size=sz)(hx:ev env x=some (.msl b 0 l.length))
  (hb:st[b]?=some (some (sz,l.map f))) (hhi:ZL env l.length hi=some c.toNat) (h:XJ l 0 c=some r) (k:K ((d,.msl b 0 r.length)::env) st):SOp P ⟨some d,.slice t x none hi none,ty,pos,aft,gu⟩ env st K:=XV rfl (by
   unfold XJ at h;split at h
   .rename_i h1;cases h;have e':UD (.msl b 0 l.length)=some l.length:=rfl;have e0:ZL env 0 none=some 0:=rfl;simp only [aop,ht,hk,hx,e',he,hhi,e0,Wq,hb];rw [if_pos ⟨hs.symm,by omega,by omega⟩]
    have:((l.drop (0:Int).toNat).take (c.toNat-(0:Int).toNat)).length=c.toNat-0:=by simp;omega
    rw [this];rfl
   .cases h) k
theorem zHZ{α:Type}{sz:Nat}{l:List α}{f:α->List AV}{i:Int}{c:α}(h:idx l i=some c)(k:SR P n nb0 all l1 l2 K ((d,.ipt sz [f c] 0 0)::env) st):SR P n nb0 all l1 l2 K ((d,.ipt sz (l.map f) i.toNat 0)::env) st:=by
 intro ops q ho hd hn A m w a h0 hR hE Q hQ;obtain ⟨_,hi,hc⟩:=zz h;refine k ops q ho hd hn A m w a h0 hR ⟨hE.size,λt v hl=>?_,hE.defers⟩ Q hQ;simp only [look] at hl;split at hl
 .rename_i e;cases hl;obtain ⟨h1,h2⟩:=hE.val t (.ipt sz (l.map f) i.toNat 0) (by simp [look,e]);refine ⟨h1,.imm ?_⟩;have h3:=h2.ipt_inv;generalize a.tmps.getD t undef=v at h3
  have hg:(l.map f)[i.toNat]'(by simpa using hi)=f c:=by
   have:=(Qb.1 hc).2;simp [this]
  cases h3 with
  |ipt _ _ _ _ B o vs hA hk hcell hval =>
   have:=VI.ipt (A:=A) (w:=w) sz [f c] 0 0 B (o+i.toNat*sz) (λ_ j=>vs i.toNat j) ((hA.sub (Nat.le_of_lt (by simpa using hi))).less (by simp;omega))
    (λi' hi'=>by
     have:i'=0:=by simpa using hi'
     subst this;show (f c).length=sz
     rw [<-hg];exact hk _ _)
    (λi' j hi' hj=>by
     have:i'=0:=by simpa using hi'
     subst this;rw [<-hcell i.toNat j (by simpa using hi) hj]
     congr 2;omega)
    (λi' hi' j hj=>by
     have:i'=0:=by simpa using hi'
     subst this
     have hj':j<((l.map f)[i.toNat]'(by simpa using hi)).length:=by rw [hg];exact hj
     have h5:=hval i.toNat (by simpa using hi) j hj'
     have e5:((l.map f)[i.toNat]'(by simpa using hi))[j]=(f c)[j]'hj:=by simp only [hg]
     rw [e5] at h5
     exact h5)
   simpa using this
 .rename_i e;exact hE.val t v (by simp [look,e,hl])
theorem zHb{α:Type}{t u' e:TypeId}{x y:Operand}{ti:TI}{sz:Nat}{l:List α}{f:α->List AV}(ht:Xf P t=some ti)(hk:ti.k=.slc e)(hx:ev env x=some (.isl sz (l.map f)))(hy:ev env y=some (.lit (.slice none 0 0)))
  (hh:(l=[]->SR P n nb0 all l1 l2 K ((d,.lit (.bool true))::env) st)/\SR P n nb0 all l1 l2 K ((d,.lit (.bool false))::env) st):SR P n nb0 all (⟨some d,.binOp .eql t x y u',ty,pos,aft,none⟩::l1) l2 K env st:=by
 obtain ⟨h1,h2⟩:=hh;intro ops i ho hd hn A m w a h0 hR hE Q hQ;obtain ⟨hi,hd',hdo⟩:=zHa ho hd hn
 have e:((⟨some d,.binOp .eql t x y u',ty,pos,aft,none⟩:Oper)::l1).length+l2.length=(l1.length+l2.length)+1:=by simp;omega
 rw [e,JJ];simp only [wpOps,hi];rw [DQ (b:=true) hE (by rfl)];simp only [if_true];refine .inl ?_;obtain ⟨dd,i0,hdd,_,_,_,_,hdk,_⟩:=XY ht;rw [hk] at hdk;have hds:=UI hdk;subst hds
 have fin:∀b:Bool,(execOp a.eval ⟨some d,.binOp .eql t x y u',ty,pos,aft,none⟩).run P w=.ok (.value (.bool b)) w->SR P n nb0 all l1 l2 K ((d,.lit (.bool b))::env) st ->
   Oper.wp P ⟨some d,.binOp .eql t x y u',ty,pos,aft,none⟩ a w (λa' w'=>wpOps P ops Q (List.range' (i+1) (l1.length+l2.length)) a' w') Q:=λb hr k=>by
  unfold Oper.wp;rw [hr];refine k ops (i+1) ho hd' hn A m w _ h0 hR (hE.aput (d:=some d) hdo (.imm (.lit _))) Q λa2 w2 k2=>?_;have:=hQ a2 w2 k2
  rwa [Qu,Yc l1.length 1,<-QU] at this
 have run:∀(ad:Option Addr) (n1 c1:Nat),a.eval x=.slice ad n1 c1->(execOp a.eval ⟨some d,.binOp .eql t x y u',ty,pos,aft,none⟩).run P w=.ok (.value (.bool ad.isNone)) w:=λad n1 c1 hq=>by
  have hy':=(zV hE hy).lit_inv;have e1:=zn9 (P:=P) (w:=w) hdd ad n1 c1;show ((do pure (.value (<-(do eqGuard .eql t x y (a.eval x) (a.eval y);binOp .eql t (a.eval x) (a.eval y):Sem Value))):Sem Next).run P w)=_;rw [hq,hy'];simp only [Sem.run_bind,IL,Result.andThen_ok,binOp,e1];rfl
 have hv:=(zV hE hx).isl_inv;generalize hg:l.map f=els at hv;generalize hq:a.eval x=v at hv
 cases hv with
 |isl _ _ B o cap vs hA hcap hk hcell hval=>exact fin _ (run _ _ _ hq) h2
 |inil _ ad cap _ =>
  have hl:l=[]:=by simpa using hg
  cases ad with
  |none=>exact fin _ (run _ _ _ hq) (h1 hl)
  |some _=>exact fin _ (run _ _ _ hq) h2
theorem zHc{v v':AV}(e:v=v')(k:SR P n nb0 all l1 l2 K ((d,v')::env) st):SR P n nb0 all l1 l2 K ((d,v)::env) st:=by rw [e];exact k
end
theorem zBe{α:Type}{τ:Nat->Nat}{k:Nat}{f:α->List AV}{o:Option α}:rn τ (XB k f o)=XB k f o:=by cases o <;> rfl
theorem ciL{st:St}{L:Xt}:∀{l:List AV},Ze l=true->Uq st L l l
 | [],_=>trivial
 |_ :: _,h=>⟨ci (QV.1 h).1,ciL (QV.1 h).2⟩
theorem Un{ρ:Nat->Option Nat}:∀{l:List AV},Ze l=true->Hs ρ l l
 | [],_=>trivial
 |_ :: _,h=>⟨rnI (QV.1 h).1,Un (QV.1 h).2⟩
section
variable {st : St} {L : Xt} {ρ : Nat -> Option Nat} {a b c d e f g h i j k l : AV} {x y : List AV}
theorem Gp(p:Ze [a,b,c,d,e,f,g,h,i,j,k,l]=true)(q:Uq st L x y):Uq st L (a ::b ::c ::d ::e ::f ::g ::h ::i ::j ::k ::l ::x) (a ::b ::c ::d ::e ::f ::g ::h ::i ::j ::k ::l ::y):=by
 obtain ⟨h1,h2,h3,h4,h5,h6,h7,h8,h9,h10,h11,h12,_⟩:=ciL (st:=st) (L:=L) p;exact ⟨h1,h2,h3,h4,h5,h6,h7,h8,h9,h10,h11,h12,q⟩
theorem KA(p:Ze [a,b,c,d,e,f,g,h,i,j,k,l]=true)(q:Hs ρ x y):Hs ρ (a ::b ::c ::d ::e ::f ::g ::h ::i ::j ::k ::l ::x) (a ::b ::c ::d ::e ::f ::g ::h ::i ::j ::k ::l ::y):=by
 obtain ⟨h1,h2,h3,h4,h5,h6,h7,h8,h9,h10,h11,h12,_⟩:=Un (ρ:=ρ) p;exact ⟨h1,h2,h3,h4,h5,h6,h7,h8,h9,h10,h11,h12,q⟩
end
section
variable {P : Program} {n nb0 : Nat} {env env0 : Ev} {st st0 : St}
theorem zl(L:Xt)(h1:Z1 st L env0 env:=by repeat' (first |exact True.intro |exact cn |exact .msl rfl |exact .mpt rfl |exact ci rfl |exact .nil |exact Zb λ_=>rfl |refine cv rfl ?_ ?_ |exact K8 rfl rfl λ_=>rfl |refine DF rfl rfl ?_ |exact ci (Zs λ_=>rfl) |exact .mmp rfl |refine Gp rfl ?_ |refine XG ?_ |refine GA ?_ |refine ⟨_,rfl,?_⟩ |refine And.intro ?_ ?_ |refine Gu ?_ |refine GX ?_ |exact rfl))(h2:Ut L=true:=by exact rfl)(h3:UK st L L st0:=by repeat' (first |exact True.intro |exact cn |exact .msl rfl |exact .mpt rfl |exact ci rfl |exact .nil |exact Zb λ_=>rfl |refine cv rfl ?_ ?_ |exact K8 rfl rfl λ_=>rfl |refine DF rfl rfl ?_ |exact ci (Zs λ_=>rfl) |exact .mmp rfl |refine Gp rfl ?_ |refine XG ?_ |refine GA ?_ |refine ⟨_,rfl,?_⟩ |refine And.intro ?_ ?_ |refine Gu ?_ |refine GX ?_ |exact rfl))(h4:GR nb0 L=true:=by exact rfl)(h5:nb0≤st0.length:=by exact Qv rfl):Can nb0 env0 st0 env st:=⟨L,h1,h2,h3,h4,h5⟩
theorem Xb{av0 av:AV}(L:Xt)(h1:Rs st L av0 av:=by repeat' (first |exact True.intro |exact cn |exact .msl rfl |exact .mpt rfl |exact ci rfl |exact .nil |exact Zb λ_=>rfl |refine cv rfl ?_ ?_ |exact K8 rfl rfl λ_=>rfl |refine DF rfl rfl ?_ |exact ci (Zs λ_=>rfl) |exact .mmp rfl |refine Gp rfl ?_ |refine XG ?_ |refine GA ?_ |refine ⟨_,rfl,?_⟩ |refine And.intro ?_ ?_ |refine Gu ?_ |refine GX ?_ |exact rfl))(h2:Ut L=true:=by exact rfl)(h3:UK st L L st0:=by repeat' (first |exact True.intro |exact cn |exact .msl rfl |exact .mpt rfl |exact ci rfl |exact .nil |exact Zb λ_=>rfl |refine cv rfl ?_ ?_ |exact K8 rfl rfl λ_=>rfl |refine DF rfl rfl ?_ |exact ci (Zs λ_=>rfl) |exact .mmp rfl |refine Gp rfl ?_ |refine XG ?_ |refine GA ?_ |refine ⟨_,rfl,?_⟩ |refine And.intro ?_ ?_ |refine Gu ?_ |refine GX ?_ |exact rfl))(h4:GR nb0 L=true:=by exact rfl)(h5:nb0≤st0.length:=by exact Qv rfl):E7 nb0 av0 st0 av st:=⟨L,h1,h2,h3,h4,h5⟩
end
section
variable {P : Program} {env : Ev} {st : St} {d : Nat} {ty : TypeId} {pos : String} {aft : Array Edge} {gu : Option (Nat × Bool)} {K : Ev -> St -> Prop}
theorem sx(L:List Nat){c:Call}{g:FuncId}{args args0:List AV}{bs0 bs1:List SB}{av:AV}(h:SC P g args0 bs0 av bs1)(k:K ((d,rn (tau L st.length) av)::env) (zGN L st bs1))
  (hc:ZF (.call c)=true:=by exact rfl) (hg:Kh env (.call c)=some (g,args):=by exact rfl) (hnd:Id L=true:=by exact rfl) (hlt:Ia st.length L=true:=by exact rfl)
  (ha:Hs (λi=>L[i]?) args0 args:=by repeat' (first |exact True.intro |exact .msl rfl |exact .mpt rfl |exact rnI rfl |exact mkI λ_=>rfl |refine KA rfl ?_ |exact Un rfl |refine ⟨_,rfl,?_⟩ |refine And.intro ?_ ?_ |exact rfl)) (hs:InB (λi=>L[i]?) st L bs0:=by repeat' (first |exact True.intro |exact .msl rfl |exact .mpt rfl |exact rnI rfl |exact mkI λ_=>rfl |refine KA rfl ?_ |exact Un rfl |refine ⟨_,rfl,?_⟩ |refine And.intro ?_ ?_ |exact rfl)):SOp P ⟨some d,.call c,ty,pos,aft,gu⟩ env st K:=sc L h hc hg hnd hlt ha hs k
end
theorem nz{b:Bool}{q:Prop}(h:b=false:=by exact rfl):b=true->q:=λe=>by rw [h] at e;cases e
theorem nw{p q:Prop}{b:Bool}(h:b=false:=by exact rfl):p->b=true->q:=λ_ e=>by rw [h] at e;cases e
theorem nv{p q:Prop}{b:Bool}(h:b=true:=by exact rfl):b=false->p->q:=λe=>by rw [h] at e;cases e
section
variable {P : Program} {all : List Oper} {env0 F env : Ev} {st : St} {ss p en : List Nat} {K : Ev -> St -> Prop}
theorem pb{G:Prop}{i t:Nat}{o:Oper}{v:AV}(ho:all[i]?=some o)(h:SOp P o (sel F (ea all env0 i) (X6 all o.after.toList)) st λenv' st'=>env'=(t,v)::sel F (ea all env0 i) (X6 all o.after.toList)/\st'=st)
  (hd:o.dst=some t:=by exact rfl) (hg:o.guard=none:=by exact rfl) (hv:look F t=some v:=by exact rfl):G->Ux P all env0 F st i:=λ_=>pa ho hd hg hv h
theorem pe{i:Nat}{b:Bool}(h:b=true->Ux P all env0 F st i:=by (first |exact nz |(refine λ_=>pa rfl rfl rfl rfl ?_;(first |exact mv rfl ⟨rfl,rfl⟩ |exact fa ti rfl rfl rfl ⟨rfl,rfl⟩ |exact ld ti rfl rfl ⟨rfl,rfl⟩ |exact nc rfl rfl ⟨rfl,rfl⟩ |exact asg rfl ⟨rfl,rfl⟩ |exact ex rfl rfl ⟨rfl,rfl⟩ |exact nt rfl ⟨rfl,rfl⟩ |exact pk rfl rfl ⟨rfl,rfl⟩ |exact pkb rfl (by assumption) rfl ⟨rfl,rfl⟩ |exact lss ti rfl rfl ⟨rfl,rfl⟩ |exact leq ti rfl rfl ⟨rfl,rfl⟩ |exact gtr ti rfl rfl ⟨rfl,rfl⟩ |exact geq ti rfl rfl ⟨rfl,rfl⟩ |exact eql ti rfl rfl ⟨rfl,rfl⟩ |exact neq ti rfl rfl ⟨rfl,rfl⟩ |exact add ti rfl rfl ⟨rfl,rfl⟩ |exact seq ti rfl rfl ⟨rfl,rfl⟩ |exact sne ti rfl rfl ⟨rfl,rfl⟩)) |exact λ_=>pas rfl rfl rfl rfl rfl rfl |exact λ_=>pas rfl rfl rfl rfl (by assumption) rfl |exact λ_=>pau rfl rfl rfl rfl rfl |(refine λ_=>pag rfl rfl rfl rfl rfl rfl ?_;(first |exact mv rfl ⟨rfl,rfl⟩ |exact fa ti rfl rfl rfl ⟨rfl,rfl⟩ |exact ld ti rfl rfl ⟨rfl,rfl⟩ |exact nc rfl rfl ⟨rfl,rfl⟩ |exact asg rfl ⟨rfl,rfl⟩ |exact ex rfl rfl ⟨rfl,rfl⟩ |exact nt rfl ⟨rfl,rfl⟩ |exact pk rfl rfl ⟨rfl,rfl⟩ |exact pkb rfl (by assumption) rfl ⟨rfl,rfl⟩ |exact lss ti rfl rfl ⟨rfl,rfl⟩ |exact leq ti rfl rfl ⟨rfl,rfl⟩ |exact gtr ti rfl rfl ⟨rfl,rfl⟩ |exact geq ti rfl rfl ⟨rfl,rfl⟩ |exact eql ti rfl rfl ⟨rfl,rfl⟩ |exact neq ti rfl rfl ⟨rfl,rfl⟩ |exact add ti rfl rfl ⟨rfl,rfl⟩ |exact seq ti rfl rfl ⟨rfl,rfl⟩ |exact sne ti rfl rfl ⟨rfl,rfl⟩)) |(refine λ_=>pag rfl rfl rfl rfl (by assumption) rfl ?_;(first |exact mv rfl ⟨rfl,rfl⟩ |exact fa ti rfl rfl rfl ⟨rfl,rfl⟩ |exact ld ti rfl rfl ⟨rfl,rfl⟩ |exact nc rfl rfl ⟨rfl,rfl⟩ |exact asg rfl ⟨rfl,rfl⟩ |exact ex rfl rfl ⟨rfl,rfl⟩ |exact nt rfl ⟨rfl,rfl⟩ |exact pk rfl rfl ⟨rfl,rfl⟩ |exact pkb rfl (by assumption) rfl ⟨rfl,rfl⟩ |exact lss ti rfl rfl ⟨rfl,rfl⟩ |exact leq ti rfl rfl ⟨rfl,rfl⟩ |exact gtr ti rfl rfl ⟨rfl,rfl⟩ |exact geq ti rfl rfl ⟨rfl,rfl⟩ |exact eql ti rfl rfl ⟨rfl,rfl⟩ |exact neq ti rfl rfl ⟨rfl,rfl⟩ |exact add ti rfl rfl ⟨rfl,rfl⟩ |exact seq ti rfl rfl ⟨rfl,rfl⟩ |exact sne ti rfl rfl ⟨rfl,rfl⟩)))):b=true->Ux P all env0 F st i:=h
theorem X5{n:Nat}(h1:UE P all env0 F st p en)(h4:Dr P all ss env0 K n p en F st ss)(h2:U4 all ss p en=true:=by kernel_rfl)(h3:Z0 p ss=false:=by exact rfl):DT P all ss env0 K (n+1) p en F st:=dtS h1 h2 h3 h4
theorem ZC(h1:UE P all env0 F st p en)(h4:K (F++Kg (Kb all) env0) st)(h2:U4 all ss p en=true:=by kernel_rfl)(h3:Z0 p ss=true:=by exact rfl):DT P all ss env0 K 0 p en F st:=dt0 h1 h2 h3 h4
theorem zHu{n:Nat}(h4:Dr P all ss env0 K n p en F st ss)(h1:UE P all env0 F st p en:=by repeat' (first |exact True.intro |exact nz |(refine λ_=>pa rfl rfl rfl rfl ?_;(first |exact mv rfl ⟨rfl,rfl⟩ |exact fa ti rfl rfl rfl ⟨rfl,rfl⟩ |exact ld ti rfl rfl ⟨rfl,rfl⟩ |exact nc rfl rfl ⟨rfl,rfl⟩ |exact asg rfl ⟨rfl,rfl⟩ |exact ex rfl rfl ⟨rfl,rfl⟩ |exact nt rfl ⟨rfl,rfl⟩ |exact pk rfl rfl ⟨rfl,rfl⟩ |exact pkb rfl (by assumption) rfl ⟨rfl,rfl⟩ |exact lss ti rfl rfl ⟨rfl,rfl⟩ |exact leq ti rfl rfl ⟨rfl,rfl⟩ |exact gtr ti rfl rfl ⟨rfl,rfl⟩ |exact geq ti rfl rfl ⟨rfl,rfl⟩ |exact eql ti rfl rfl ⟨rfl,rfl⟩ |exact neq ti rfl rfl ⟨rfl,rfl⟩ |exact add ti rfl rfl ⟨rfl,rfl⟩ |exact seq ti rfl rfl ⟨rfl,rfl⟩ |exact sne ti rfl rfl ⟨rfl,rfl⟩)) |exact λ_=>pas rfl rfl rfl rfl rfl rfl |exact λ_=>pas rfl rfl rfl rfl (by assumption) rfl |exact λ_=>pau rfl rfl rfl rfl rfl |(refine λ_=>pag rfl rfl rfl rfl rfl rfl ?_;(first |exact mv rfl ⟨rfl,rfl⟩ |exact fa ti rfl rfl rfl ⟨rfl,rfl⟩ |exact ld ti rfl rfl ⟨rfl,rfl⟩ |exact nc rfl rfl ⟨rfl,rfl⟩ |exact asg rfl ⟨rfl,rfl⟩ |exact ex rfl rfl ⟨rfl,rfl⟩ |exact nt rfl ⟨rfl,rfl⟩ |exact pk rfl rfl ⟨rfl,rfl⟩ |exact pkb rfl (by assumption) rfl ⟨rfl,rfl⟩ |exact lss ti rfl rfl ⟨rfl,rfl⟩ |exact leq ti rfl rfl ⟨rfl,rfl⟩ |exact gtr ti rfl rfl ⟨rfl,rfl⟩ |exact geq ti rfl rfl ⟨rfl,rfl⟩ |exact eql ti rfl rfl ⟨rfl,rfl⟩ |exact neq ti rfl rfl ⟨rfl,rfl⟩ |exact add ti rfl rfl ⟨rfl,rfl⟩ |exact seq ti rfl rfl ⟨rfl,rfl⟩ |exact sne ti rfl rfl ⟨rfl,rfl⟩)) |(refine λ_=>pag rfl rfl rfl rfl (by assumption) rfl ?_;(first |exact mv rfl ⟨rfl,rfl⟩ |exact fa ti rfl rfl rfl ⟨rfl,rfl⟩ |exact ld ti rfl rfl ⟨rfl,rfl⟩ |exact nc rfl rfl ⟨rfl,rfl⟩ |exact asg rfl ⟨rfl,rfl⟩ |exact ex rfl rfl ⟨rfl,rfl⟩ |exact nt rfl ⟨rfl,rfl⟩ |exact pk rfl rfl ⟨rfl,rfl⟩ |exact pkb rfl (by assumption) rfl ⟨rfl,rfl⟩ |exact lss ti rfl rfl ⟨rfl,rfl⟩ |exact leq ti rfl rfl ⟨rfl,rfl⟩ |exact gtr ti rfl rfl ⟨rfl,rfl⟩ |exact geq ti rfl rfl ⟨rfl,rfl⟩ |exact eql ti rfl rfl ⟨rfl,rfl⟩ |exact neq ti rfl rfl ⟨rfl,rfl⟩ |exact add ti rfl rfl ⟨rfl,rfl⟩ |exact seq ti rfl rfl ⟨rfl,rfl⟩ |exact sne ti rfl rfl ⟨rfl,rfl⟩)) |refine And.intro ?_ ?_))(h2:U4 all ss p en=true:=by kernel_rfl)(h3:Z0 p ss=false:=by exact rfl):DT P all ss env0 K (n+1) p en F st:=dtS h1 h2 h3 h4
theorem Hp(h4:K (F++Kg (Kb all) env0) st)(h1:UE P all env0 F st p en:=by repeat' (first |exact True.intro |exact nz |(refine λ_=>pa rfl rfl rfl rfl ?_;(first |exact mv rfl ⟨rfl,rfl⟩ |exact fa ti rfl rfl rfl ⟨rfl,rfl⟩ |exact ld ti rfl rfl ⟨rfl,rfl⟩ |exact nc rfl rfl ⟨rfl,rfl⟩ |exact asg rfl ⟨rfl,rfl⟩ |exact ex rfl rfl ⟨rfl,rfl⟩ |exact nt rfl ⟨rfl,rfl⟩ |exact pk rfl rfl ⟨rfl,rfl⟩ |exact pkb rfl (by assumption) rfl ⟨rfl,rfl⟩ |exact lss ti rfl rfl ⟨rfl,rfl⟩ |exact leq ti rfl rfl ⟨rfl,rfl⟩ |exact gtr ti rfl rfl ⟨rfl,rfl⟩ |exact geq ti rfl rfl ⟨rfl,rfl⟩ |exact eql ti rfl rfl ⟨rfl,rfl⟩ |exact neq ti rfl rfl ⟨rfl,rfl⟩ |exact add ti rfl rfl ⟨rfl,rfl⟩ |exact seq ti rfl rfl ⟨rfl,rfl⟩ |exact sne ti rfl rfl ⟨rfl,rfl⟩)) |exact λ_=>pas rfl rfl rfl rfl rfl rfl |exact λ_=>pas rfl rfl rfl rfl (by assumption) rfl |exact λ_=>pau rfl rfl rfl rfl rfl |(refine λ_=>pag rfl rfl rfl rfl rfl rfl ?_;(first |exact mv rfl ⟨rfl,rfl⟩ |exact fa ti rfl rfl rfl ⟨rfl,rfl⟩ |exact ld ti rfl rfl ⟨rfl,rfl⟩ |exact nc rfl rfl ⟨rfl,rfl⟩ |exact asg rfl ⟨rfl,rfl⟩ |exact ex rfl rfl ⟨rfl,rfl⟩ |exact nt rfl ⟨rfl,rfl⟩ |exact pk rfl rfl ⟨rfl,rfl⟩ |exact pkb rfl (by assumption) rfl ⟨rfl,rfl⟩ |exact lss ti rfl rfl ⟨rfl,rfl⟩ |exact leq ti rfl rfl ⟨rfl,rfl⟩ |exact gtr ti rfl rfl ⟨rfl,rfl⟩ |exact geq ti rfl rfl ⟨rfl,rfl⟩ |exact eql ti rfl rfl ⟨rfl,rfl⟩ |exact neq ti rfl rfl ⟨rfl,rfl⟩ |exact add ti rfl rfl ⟨rfl,rfl⟩ |exact seq ti rfl rfl ⟨rfl,rfl⟩ |exact sne ti rfl rfl ⟨rfl,rfl⟩)) |(refine λ_=>pag rfl rfl rfl rfl (by assumption) rfl ?_;(first |exact mv rfl ⟨rfl,rfl⟩ |exact fa ti rfl rfl rfl ⟨rfl,rfl⟩ |exact ld ti rfl rfl ⟨rfl,rfl⟩ |exact nc rfl rfl ⟨rfl,rfl⟩ |exact asg rfl ⟨rfl,rfl⟩ |exact ex rfl rfl ⟨rfl,rfl⟩ |exact nt rfl ⟨rfl,rfl⟩ |exact pk rfl rfl ⟨rfl,rfl⟩ |exact pkb rfl (by assumption) rfl ⟨rfl,rfl⟩ |exact lss ti rfl rfl ⟨rfl,rfl⟩ |exact leq ti rfl rfl ⟨rfl,rfl⟩ |exact gtr ti rfl rfl ⟨rfl,rfl⟩ |exact geq ti rfl rfl ⟨rfl,rfl⟩ |exact eql ti rfl rfl ⟨rfl,rfl⟩ |exact neq ti rfl rfl ⟨rfl,rfl⟩ |exact add ti rfl rfl ⟨rfl,rfl⟩ |exact seq ti rfl rfl ⟨rfl,rfl⟩ |exact sne ti rfl rfl ⟨rfl,rfl⟩)) |refine And.intro ?_ ?_))(h2:U4 all ss p en=true:=by kernel_rfl)(h3:Z0 p ss=true:=by exact rfl):DT P all ss env0 K 0 p en F st:=dt0 h1 h2 h3 h4
end
theorem kz{α:Sort _}{a b:α}(h:a=b:=by kernel_rfl):a=b:=h
theorem rdA{P:Program}{n nb0:Nat}{Q:Exit->Ev->St->Prop}{env:Ev}{st:St}{id:Nat}{ops:Array Oper}{y:Code}(E:Ev)(S:St)(ss en:List Nat)(F:Ev)(k:Nat)
  (h:DT P ops.toList ss env (λenv st=>Can nb0 E S env st) k [] en F st) (hy:SW P n nb0 y Q E S) (hm:P.follows .mixedOrders=true:=by kernel_rfl) (hok:KZ n ops.toList=true:=by kernel_rfl) (hss:KY ops.size ss=true:=by exact rfl) (hks:Uc ops.toList en (XT F)=true:=by kernel_rfl):
  SW P n nb0 (.seq (.region id ops true) y) Q env st:=rd E S ss en F k hm hok hss hks h hy
theorem XA{P:Program}{n nb0:Nat}{Q:Exit->Ev->St->Prop}{env:Ev}{st:St}{id:Nat}{ops:Array Oper}(E:Ev)(S:St)(ss en:List Nat)(F:Ev)(k:Nat)
  (h:DT P ops.toList ss env (λenv st=>Can nb0 E S env st) k [] en F st) (hy:Q .normal E S) (hm:P.follows .mixedOrders=true:=by kernel_rfl) (hok:KZ n ops.toList=true:=by kernel_rfl) (hss:KY ops.size ss=true:=by exact rfl) (hks:Uc ops.toList en (XT F)=true:=by kernel_rfl):
  SW P n nb0 (.region id ops true) Q env st:=rdL E S ss en F k hm hok hss hks h hy

end
end Go.Proofs.YthmnlfenkhmmhaaGreat
