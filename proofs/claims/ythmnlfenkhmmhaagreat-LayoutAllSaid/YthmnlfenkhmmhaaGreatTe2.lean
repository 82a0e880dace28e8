/- LayoutAll. -/
import Derived.Test.YthmnlfenkhmmhaaGreatTe1
namespace Go.Proofs.YthmnlfenkhmmhaaGreat
noncomputable section
open List (length map)
open IntKind (i64)
open Go.Proofs.Tryz
set_option linter.unusedSimpArgs false
set_option linter.unusedVariables false
set_option linter.unusedSectionVars false
inductive Rn(ρ:Nat->Option Nat):AV->AV->Prop
 |any (x):Rn ρ .any x
 |imm {x} (h:Imm x):Rn ρ x x
 |nilI {k:Nat}:Rn ρ (.isl k []) (.lit (.slice none 0 0))
 |nil0 {l l':Nat} (h:ρ l=some l'):Rn ρ (.msl l 0 0) (.lit (.slice none 0 0))
 |msl {l l' i n:Nat} (h:ρ l=some l'):Rn ρ (.msl l i n) (.msl l' i n)
 |mpt {l l' i j:Nat} (h:ρ l=some l'):Rn ρ (.mpt l i j) (.mpt l' i j)
 |mmp {l l':Nat} (h:ρ l=some l'):Rn ρ (.mmp l) (.mmp l')
 |agg {cs cs':List AV} (hl:cs.length=cs'.length) (hr:∀i (h:i<cs.length) (h':i<cs'.length),Rn ρ cs[i] cs'[i]):Rn ρ (.agg cs) (.agg cs')
 |tup {cs cs':List AV} (hl:cs.length=cs'.length) (hr:∀i (h:i<cs.length) (h':i<cs'.length),Rn ρ cs[i] cs'[i]):Rn ρ (.tup cs) (.tup cs')
 |fn {f:Fn} {cs cs' ds ds':List AV} (hl:cs.length=cs'.length) (hr:∀i (h:i<cs.length) (h':i<cs'.length),Rn ρ cs[i] cs'[i])
   (hl':ds.length=ds'.length) (hr':∀i (h:i<ds.length) (h':i<ds'.length),Rn ρ ds[i] ds'[i]):Rn ρ (.fn f cs ds) (.fn f cs' ds')
theorem Rn.v{ρ A m m' nb nb'}{w:World}(hm:∀l l',ρ l=some l'->m' l=m l'/\l<nb'){av0 av:AV}(h:Rn ρ av0 av):∀{v},V A m nb w av v->V A m' nb' w av0 v:=by
 induction h with
 |any x=>exact λ{v} _=>.imm (.any v)
 |imm h=>exact λ{v} hv=>.imm (h.vi hv)
 |nilI=>intro v hv;rw [hv.lit_inv];exact .imm (.inil _ _ _)
 |nil0 h =>
  intro v hv;rw [hv.lit_inv];exact .msl _ _ _ _ _ _ (hm _ _ h).2 λb hb=>⟨rfl,Qg _,.inl rfl⟩
 |msl h =>
  intro v hv;obtain ⟨hl,a,n',cap,rfl,hb⟩:=hv.msl_inv;obtain ⟨h1,h2⟩:=hm _ _ h;exact .msl _ _ _ _ _ _ h2 λb hb'=>hb b (h1 ▸ hb')
 |mpt h =>
  intro v hv;obtain ⟨hl,a,rfl,hb⟩:=hv.mpt_inv;obtain ⟨h1,h2⟩:=hm _ _ h;exact .mpt _ _ _ _ h2 λb hb'=>hb b (h1 ▸ hb')
 |mmp h =>
  intro v hv;obtain ⟨hl,a,rfl,hb⟩:=hv.mmp_inv;obtain ⟨h1,h2⟩:=hm _ _ h;exact .mmp _ _ h2 λb hb'=>hb b (h1 ▸ hb')
 |agg hl hr ih =>
  intro v hv;obtain ⟨a,rfl,h1,h2⟩:=hv.agg_inv;exact .agg _ _ (by omega) λi hi=>ih i hi (by omega) (h2 i (by omega))
 |tup hl hr ih =>
  intro v hv;obtain ⟨a,rfl,h1,h2⟩:=hv.tup_inv;exact .tup _ _ (by omega) λi hi=>ih i hi (by omega) (h2 i (by omega))
 |fn hl hr hl' hr' ih ih' =>
  intro v hv;obtain ⟨a,b,rfl,⟨h1,h2⟩,⟨h3,h4⟩⟩:=hv.fn_inv;exact .fn _ _ _ _ _ (by omega) (λi hi=>ih i hi (by omega) (h2 i (by omega))) (by omega) λi hi=>ih' i hi (by omega) (h4 i (by omega))
def U8(ρ:Nat->Option Nat)(els0 els:List (List AV)):Prop:=
 els0.length=els.length/\∀i (h:i<els0.length) (h':i<els.length),els0[i].length=els[i].length/\∀j (h1:j<els0[i].length) (h2:j<els[i].length),Rn ρ els0[i][j] els[i][j]
structure zIk(ρ:Nat->Option Nat)(st0 st:St):Prop where
 live:∀l l',ρ l=some l'->∃k els0 els,st0[l]?=some (some (k,els0))/\st[l']?=some (some (k,els))/\U8 ρ els0 els
 all:∀l k els0,st0[l]?=some (some (k,els0))->∃l',ρ l=some l'
 inj:∀l1 l2 x,ρ l1=some x->ρ l2=some x->l1=l2
theorem zIk.lt{ρ st0 st}(h:zIk ρ st0 st){l l'}(hl:ρ l=some l'):l<st0.length/\l'<st.length:=by
 obtain ⟨k,els0,els,h1,h2,_⟩:=h.live l l' hl;exact ⟨(Qb.1 h1).1,(Qb.1 h2).1⟩
theorem R.rn{ρ A m w st st0}(hR:R A m w st)(h:zIk ρ st0 st):R A (λl=>(ρ l).bind m) w st0:=by
 have hmm:∀l b,(ρ l).bind m=some b->∃l',ρ l=some l'/\m l'=some b:=λl b hb=>by
  cases hl:ρ l with
  |none=>rw [hl] at hb;cases hb
  |some l'=>rw [hl] at hb;exact ⟨l',rfl,hb⟩
 refine ⟨hR.aLow,λB l b hA hb hh=>?_,λl1 l2 b1 b2 h1 h2 hh1 hh2 he=>?_,λl b hb=>?_,λl k els0 he=>?_⟩
 .obtain ⟨l',_,h2⟩:=hmm l b hb;exact hR.aOwn B l' b hA h2 hh
 .obtain ⟨x1,k1,k2⟩:=hmm l1 b1 h1;obtain ⟨x2,k3,k4⟩:=hmm l2 b2 h2;have:=hR.inj x1 x2 b1 b2 k2 k4 hh1 hh2 he;subst this;exact h.inj l1 l2 x1 k1 k3
 .obtain ⟨l',h1,h2⟩:=hmm l b hb;obtain ⟨k,els0,els,h3,h4,_⟩:=h.live l l' h1;exact ⟨els0,by rw [h3];rw [(hR.at h2 h4).1]⟩
 .obtain ⟨l',h1⟩:=h.all l k els0 he;obtain ⟨k',els0',els,h3,h4,h5⟩:=h.live l l' h1;rw [he] at h3;cases h3;obtain ⟨b,h6,h7,h8,h9⟩:=hR.blk l' k els h4;refine ⟨b,by rw [h1];exact h6,h7,λhh=>?_,λhh=>?_⟩
  .exact (h8 hh).rel h5.1 λi hi hi'=>⟨(h5.2 i hi hi').1,λj hj hj' v hv=>((h5.2 i hi hi').2 j hj hj').v (λl l' hl=>⟨by rw [hl];rfl,(h.lt hl).1⟩) hv⟩
  .have:=h9 hh;subst this;exact Qf h5.1
theorem Xr.rn{ρ A m nb0 w A' m' nb' w' st0 st'}(h:zIk ρ st0 st')(hS:Xr A m nb0 w A' m' nb' w')(hid:∀l l',ρ l=some l'->l<nb0->l'=l)(hn:nb0≤st0.length):
  Xr A m nb0 w A' (λl=>(ρ l).bind m') st0.length w':=by
 refine ⟨hn,hS.size,hS.aSub,hS.aNew,λl hl=>?_,λl b hb hh=>?_,hS.heap,hS.os,hS.tape,hS.output⟩
 .cases hr:ρ l with
  |none=>exact .inr rfl
  |some l' =>
   have:=hid l l' hr hl;subst this;exact hS.mOld l' hl
 .cases hr:ρ l with
  |none=>simp [hr] at hb
  |some l'=>simp only [hr,Qa] at hb;exact hS.mNew l' b hb hh
def zEz(ρ:Nat->Option Nat):Ev->Ev->Prop
 | [],_=>True
 |(t,v0)::r,env=>(∃v,look env t=some v/\Rn ρ v0 v)/\zEz ρ r env
theorem zEz.get{ρ}:∀{env0 env:Ev},zEz ρ env0 env->∀t v0,look env0 t=some v0->∃v,look env t=some v/\Rn ρ v0 v
 | [],_,_,t,v0,h=>by cases h
 |(k,x)::r,env,h,t,v0,hl=>by
  simp only [look] at hl;split at hl
  .rename_i e;subst e;cases hl;exact h.1
  .exact zEz.get h.2 t v0 hl
mutual
def rn(τ:Nat->Nat):AV->AV
 |.msl l i n=>.msl (τ l) i n
 |.mpt l i j=>.mpt (τ l) i j
 |.agg cs=>.agg (rnL τ cs)
 |.tup cs=>.tup (rnL τ cs)
 |.fn f cs ds=>.fn f (rnL τ cs) (rnL τ ds)
 |.any=>.any
 |.lit v=>.lit v
 |.isl k els=>.isl k els
 |.ipt k els i j=>.ipt k els i j
 |.imp els=>.imp els
 |.mmp l=>.mmp (τ l)
def rnL(τ:Nat->Nat):List AV->List AV
 | []=>[]
 |x ::l=>rn τ x ::rnL τ l
end
theorem US(τ:Nat->Nat):∀l,rnL τ l=l.map (rn τ)
 | []=>rfl
 |x ::l=>by rw [rnL,Yl,US τ l]
theorem zJ4{τ:Nat->Nat}{A m m' nb nb'}{w:World}(hm:∀l,l<nb->m' (τ l)=m l/\τ l<nb'){av:AV}{v:Value}(h:V A m nb w av v):V A m' nb' w (rn τ av) v:=by
 have immv:∀{av v},VI A w av v->V A m' nb' w (rn τ av) v:=λ{av v} h=>by
  induction h with
  |any v=>exact .imm (.any v)
  |lit v=>exact .imm (.lit v)
  |isl k els B o cap vs hA hcap hk hc hv _=>exact .imm (.isl k els B o cap vs hA hcap hk hc hv)
  |inil k a cap=>exact .imm (.inil k a cap)
  |ipt k els i j B o vs hA hk hc hv _=>exact .imm (.ipt k els i j B o vs hA hk hc hv)
  |imp els r es clock hA hh hs hk hv _=>exact .imm (.imp els r es clock hA hh hs hk hv)
  |agg cs a hs _ ih=>rw [rn,US];exact .agg _ _ (by simpa using hs) λi hi=>by simpa using ih i (by simpa using hi)
  |tup cs a hs _ ih=>rw [rn,US];exact .tup _ _ (by simpa using hs) λi hi=>by simpa using ih i (by simpa using hi)
  |fn f cs ds a b hs _ hs' _ ih ih'=>rw [rn,US,US];exact .fn _ _ _ _ _ (by simpa using hs) (λi hi=>by simpa using ih i (by simpa using hi)) (by simpa using hs') λi hi=>by simpa using ih' i (by simpa using hi)
 induction h with
 |imm h=>exact immv h
 |msl l i n a n' cap hl h=>exact .msl _ _ _ _ _ _ (hm l hl).2 λb hb=>h b ((hm l hl).1 ▸ hb)
 |mpt l i j a hl h=>exact .mpt _ _ _ _ (hm l hl).2 λb hb=>h b ((hm l hl).1 ▸ hb)
 |mmp l a hl h=>exact .mmp _ _ (hm l hl).2 λb hb=>h b ((hm l hl).1 ▸ hb)
 |agg cs a hs _ ih=>rw [rn,US];exact .agg _ _ (by simpa using hs) λi hi=>by simpa using ih i (by simpa using hi)
 |tup cs a hs _ ih=>rw [rn,US];exact .tup _ _ (by simpa using hs) λi hi=>by simpa using ih i (by simpa using hi)
 |fn f cs ds a b hs _ hs' _ ih ih'=>rw [rn,US,US];exact .fn _ _ _ _ _ (by simpa using hs) (λi hi=>by simpa using ih i (by simpa using hi)) (by simpa using hs') λi hi=>by simpa using ih' i (by simpa using hi)
def G6(τ:Nat->Nat)(els:List (List AV)):List (List AV):=els.map (rnL τ)
def K3(τ:Nat->Nat):Option (Nat×List (List AV))->Option (Nat×List (List AV))
 |some (k,els)=>some (k,G6 τ els)
 |none=>none
def tau(L:List Nat)(nb:Nat)(i:Nat):Nat:=
 match L[i]? with
 |some l=>l
 |none=>nb+(i-L.length)
def Gy(τ:Nat->Nat):St->List Nat->St->St
 |st,l ::L,b ::bs=>Gy τ (st.set l (K3 τ b)) L bs
 |st,_,_=>st
def Uj(L:List Nat)(st st':St):St:=
 Gy (tau L st.length) st L (st'.take L.length)++(st'.drop L.length).map (K3 (tau L st.length))
theorem Eg(τ:Nat->Nat):∀(L:List Nat) (st bs:St),(Gy τ st L bs).length=st.length
 | [],_,bs=>by cases bs <;> rfl
 |l ::L,st,[]=>rfl
 |l ::L,st,b ::bs=>by rw [Gy,Eg τ L];simp
theorem zsf(τ:Nat->Nat):∀(L:List Nat) (st bs:St) (x:Nat),L.Nodup->L.length=bs.length->(∀l∈L,l<st.length) ->
  (x ∉ L->(Gy τ st L bs)[x]?=st[x]?)/\∀i:Nat,L[i]?=some x->(Gy τ st L bs)[x]?=(bs[i]?).map (K3 τ)
 | [],st,bs,x,_,_,_=>⟨λ_=>by cases bs <;> rfl,λi h=>by simp at h⟩
 |l ::L,st,[],x,_,h,_=>by simp at h
 |l ::L,st,b ::bs,x,hn,hl,hlt=>by
  obtain ⟨hn1,hn2⟩:=Jk.1 hn;obtain ⟨h1,h2⟩:=zsf τ L (st.set l (K3 τ b)) bs x hn2 (by simpa using hl) (λy hy=>by simpa using hlt y (by simp [hy]));refine ⟨λhx=>?_,λi hi=>?_⟩
  .simp at hx;rw [Gy,h1 hx.2,QJ (Ne.symm hx.1)]
  .cases i with
   |zero =>
    simp at hi;subst hi;rw [Gy,h1 hn1,QO (hlt l (by simp))];rfl
   |succ i=>rw [Gy];simpa using h2 i (by simpa using hi)
theorem zy6{P:Program}{f:FuncId}{args args0:List AV}{st st0:St}{K0 K:AV->St->Prop}(h:UZ P f args0 st0 K0)(L:List Nat)(hL:L.length=st0.length)(hnd:L.Nodup)(hlt:∀l∈L,l<st.length)
  (ha:args0.length=args.length) (hargs:∀i (h:i<args0.length) (h':i<args.length),Rn (λi=>L[i]?) args0[i] args[i]) (hs:zIk (λi=>L[i]?) st0 st)
  (hk:∀av st',K0 av st'->K (rn (tau L st.length) av) (Uj L st st')):UZ P f args st K:=by
 refine ⟨h.1,λA m w vals hR hv=>?_⟩;have hR0:=hR.rn hs;refine (h.2 A _ w vals hR0 ⟨by rw [ha];exact hv.1,λi hi=>(hargs i hi (by omega)).v (λl l' hl=>⟨by rw [hl];rfl,(hs.lt hl).1⟩) (hv.2 i (by omega))⟩).mono λe w' ⟨v,A',m',st',av,he,hR',hS,hv',hK⟩=>?_;have hS0:=hS.nbLe
 have hLst:L.length≤st'.length:=by omega
 classical
 have hLlt:∀i l,L[i]?=some l->l<st.length:=λi l h=>hlt l (Qc h);obtain ⟨μ,hμ⟩:∃μ:BM,μ=λl=>if h:∃i:Nat,L[i]?=some l then m' h.choose else if l<st.length then m l else m' (L.length+(l-st.length)):=⟨_,rfl⟩
 have μ1:∀i l,L[i]?=some l->μ l=m' i:=λi l h=>by
  have hex:∃i:Nat,L[i]?=some l:=⟨i,h⟩;rw [hμ];simp only [dif_pos hex];rw [hs.inj hex.choose i l hex.choose_spec h]
 have μ2:∀l,(∀i,L[i]?≠some l)->l<st.length->μ l=m l:=λl h hl=>by
  have hex:¬∃i:Nat,L[i]?=some l:=λ⟨i,hi⟩=>h i hi;rw [hμ];simp only [dif_neg hex,if_pos hl]
 have μ3:∀l,st.length≤l->μ l=m' (L.length+(l-st.length)):=λl hl=>by
  have hex:¬∃i:Nat,L[i]?=some l:=λ⟨i,hi⟩=>by have:=hLlt i l hi;omega
  rw [hμ];simp only [dif_neg hex,if_neg (by omega:¬l<st.length)]
 have τ1:∀i l,L[i]?=some l->tau L st.length i=l:=λi l h=>by simp [tau,h]
 have τ2:∀i,L.length≤i->tau L st.length i=st.length+(i-L.length):=λi h=>by simp [tau,Jg h]
 have hlen:(Uj L st st').length=st.length+(st'.length-L.length):=by simp [Uj,Eg]
 have hbs:L.length=(st'.take L.length).length:=by simp;omega
 have U1:∀i l,L[i]?=some l->(Uj L st st')[l]?=(st'[i]?).map (K3 (tau L st.length)):=λi l h=>by
  have hi:i<L.length:=(Qb.1 h).1;unfold Uj;rw [Qq (by rw [Eg];exact hLlt i l h),(zsf _ L st _ l hnd hbs hlt).2 i h,Jv,if_pos hi]
 have U2:∀l,(∀i,L[i]?≠some l)->l<st.length->(Uj L st st')[l]?=st[l]?:=λl h hl=>by
  unfold Uj;rw [Qq (by rw [Eg];exact hl),(zsf _ L st _ l hnd hbs hlt).1 λhm=>?_];obtain ⟨i,hi⟩:=List.getElem?_of_mem hm;exact h i hi
 have U3:∀l,st.length≤l->(Uj L st st')[l]?=(st'[L.length+(l-st.length)]?).map (K3 (tau L st.length)):=λl hl=>by
  unfold Uj;rw [Qs (by rw [Eg];exact hl),Eg,JS,Jw]
 have hmτ:∀i,i<st'.length->μ (tau L st.length i)=m' i/\tau L st.length i<(Uj L st st').length:=λi hi=>by
  rw [hlen];by_cases h1:i<L.length
  .have h2:=Qe h1;rw [τ1 i _ h2];exact ⟨μ1 i _ h2,by have:=hLlt i _ h2;omega⟩
  .rw [τ2 i (by omega)];refine ⟨by rw [μ3 _ (by omega)];congr 1;omega,by omega⟩
 have from_:∀l,l<(Uj L st st').length->(∃i,i<st'.length/\tau L st.length i=l/\μ l=m' i/\(Uj L st st')[l]?=(st'[i]?).map (K3 (tau L st.length))) ∨
   ((∀i:Nat,L[i]?≠some l)/\l<st.length/\μ l=m l/\(Uj L st st')[l]?=st[l]?):=λl hl=>by
  by_cases h1:∃i:Nat,L[i]?=some l
  .obtain ⟨i,hi⟩:=h1;have:i<L.length:=(Qb.1 hi).1;exact .inl ⟨i,by omega,τ1 i l hi,μ1 i l hi,U1 i l hi⟩
  .have h1':∀i:Nat,L[i]?≠some l:=λi hi=>h1 ⟨i,hi⟩;by_cases h2:l<st.length
   .exact .inr ⟨h1',h2,μ2 l h1' h2,U2 l h1' h2⟩
   .refine .inl ⟨L.length+(l-st.length),by omega,?_,μ3 l (by omega),U3 l (by omega)⟩;rw [τ2 _ (by omega)];omega
 have μlt:∀l b,μ l=some b->l<(Uj L st st').length:=λl b h=>by
  rw [hlen];by_cases h2:l<st.length
  .omega
  .rw [μ3 l (by omega)] at h;have:=hR'.lt h;omega
 have hown0:∀(i:Nat) (b:Blk),(L[i]?).bind m=some b->∃l,L[i]?=some l/\m l=some b:=λi b h=>by
  cases hl:L[i]? with
  |none=>rw [hl] at h;cases h
  |some l=>rw [hl] at h;exact ⟨l,rfl,h⟩
 have hSB:Xr A m st.length w A' μ (Uj L st st').length w':=by
  refine ⟨by omega,hS.size,hS.aSub,λB hB=>(hS.aNew B hB).imp id λh=>h.imp id λ⟨l0,b0,h4,h5,h6⟩=>(let ⟨x,_,h8⟩:=hown0 l0 b0 h4;⟨x,b0,h8,h5,h6⟩),λl hl=>?_,λl b hb hh=>?_,λB hB ho=>hS.heap B hB λi b hb hh=>?_,hS.os,hS.tape,hS.output⟩
  .by_cases h1:∃i:Nat,L[i]?=some l
   .obtain ⟨i,hi⟩:=h1
    have hi':i<st0.length:=by rw [<-hL];exact (Qb.1 hi).1
    rw [μ1 i l hi];have:=hS.mOld i hi';rw [hi] at this;exact this
   .exact .inl (μ2 l (λi hi=>h1 ⟨i,hi⟩) hl)
  .rcases from_ l (μlt l b hb) with ⟨i,_,_,h3,_⟩ |⟨_,_,h3,_⟩
   .rw [h3] at hb
    rcases hS.mNew i b hb hh with h4 |⟨l0,b0,h4,h5,h6⟩
    .exact .inl h4
    .obtain ⟨x,_,h7⟩:=hown0 l0 b0 h4;exact .inr ⟨x,b0,h7,h5,h6⟩
   .rw [h3] at hb;exact .inr ⟨l,b,hb,hh,rfl⟩
  .obtain ⟨x,_,h7⟩:=hown0 i b hb;exact ho x b h7 hh
 have hfr:∀(l:Nat) (b:Blk),(∀i:Nat,L[i]?≠some l)->m l=some b->b.has=true->∀(i:Nat) (b':Blk),m' i=some b'->b'.has=true->b'.B≠b.B:=λl b hnl hb hh i b' hb' hh' he=>by
  rcases hS.mNew i b' hb' hh' with h4 |⟨l0,b0,h4,h5,h6⟩
  .have:=hR.low hb hh;omega
  .obtain ⟨x,h7,h8⟩:=hown0 l0 b0 h4;have:=hR.inj x l b0 b h8 hb h5 hh (h6.trans he);subst this;exact hnl l0 h7
 have hrows:∀{els:List (List AV)} {i:Nat} (hi:i<(G6 (tau L st.length) els).length) (hi':i<els.length),(G6 (tau L st.length) els)[i]=els[i].map (rn (tau L st.length)):=λhi hi'=>by
  simp [G6,US]
 refine ⟨v,A',μ,Uj L st st',rn (tau L st.length) av,he,⟨hR'.aLow,λB l b hA hb hh=>?_,λl1 l2 b1 b2 h1 h2 hh1 hh2 hBB=>?_,λl b hb=>?_,λl k els hel=>?_⟩,hSB,zJ4 hmτ hv',hk av st' hK⟩
 .rcases from_ l (μlt l b hb) with ⟨i,_,_,h3,_⟩ |⟨_,_,h3,_⟩
  .rw [h3] at hb;exact hR'.aOwn B i b hA hb hh
  .rw [h3] at hb;rename_i hnl _ _
   rcases hS.aNew B hA with h4 |h4 |⟨l0,b0,h4,h5,h6⟩
   .exact hR.aOwn B l b h4 hb hh
   .have:=hR.low hb hh;omega
   .obtain ⟨x,h7,h8⟩:=hown0 l0 b0 h4;intro he;have:=hR.inj x l b0 b h8 hb h5 hh (h6.trans he.symm);subst this;exact hnl l0 h7
 .rcases from_ l1 (μlt l1 b1 h1) with ⟨i1,_,e1,h3,_⟩ |⟨n1,_,h3,_⟩ <;> rcases from_ l2 (μlt l2 b2 h2) with ⟨i2,_,e2,h4,_⟩ |⟨n2,_,h4,_⟩ <;> rw [h3] at h1 <;> rw [h4] at h2
  .rw [<-e1,<-e2,hR'.inj i1 i2 b1 b2 h1 h2 hh1 hh2 hBB]
  .exact absurd hBB (hfr l2 b2 n2 h2 hh2 i1 b1 h1 hh1)
  .exact absurd hBB.symm (hfr l1 b1 n1 h1 hh1 i2 b2 h2 hh2)
  .exact hR.inj l1 l2 b1 b2 h1 h2 hh1 hh2 hBB
 .rcases from_ l (μlt l b hb) with ⟨i,_,_,h3,h4⟩ |⟨_,_,h3,h4⟩
  .rw [h3] at hb;obtain ⟨els,he'⟩:=hR'.live i b hb;exact ⟨G6 (tau L st.length) els,by rw [h4,he'];rfl⟩
  .rw [h3] at hb;obtain ⟨els,he'⟩:=hR.live l b hb;exact ⟨els,by rw [h4];exact he'⟩
 .rcases from_ l (Qb.1 hel).1 with ⟨i,_,_,h3,h4⟩ |⟨hn1,_,h3,h4⟩
  .rw [h4] at hel
   cases hi:st'[i]? with
   |none=>rw [hi] at hel;cases hel
   |some bl =>
    rw [hi] at hel
    cases bl with
    |none=>simp [K3] at hel
    |some kb =>
     obtain ⟨k',els'⟩:=kb;simp [K3] at hel;obtain ⟨rfl,rfl⟩:=hel;obtain ⟨b,h5,h6,h7,h8⟩:=hR'.blk i k' els' hi;refine ⟨b,by rw [h3];exact h5,h6,λhh=>?_,λhh=>by rw [h8 hh];rfl⟩;refine (h7 hh).rel (by simp [G6]) λq hq hq'=>⟨by rw [hrows hq hq'];simp,λj hj hj' v hv=>?_⟩
     have:(G6 (tau L st.length) els')[q][j]=rn (tau L st.length) els'[q][j]:=by simp [G6,US]
     rw [this];exact zJ4 hmτ hv
  .rw [h4] at hel;obtain ⟨b,h5,h6,h7,h8⟩:=hR.blk l k els hel;refine ⟨b,by rw [h3];exact h5,h6,λhh=>(h7 hh).keep hS.size (hS.heap _ (h7 hh).low λi b' hb' hh'=>?_) λav v hv=>hv.step hR hSB,h8⟩;obtain ⟨x,h9,h10⟩:=hown0 i b' hb';intro he';have:=hR.inj x l b' b h10 h5 hh' hh he';subst this;exact hn1 i h9
theorem zrC{α β:Type}(f:α->β)(l:List α):(l.map f).take l.length=l.map f:=Jy (by simp)
def Wj(L:List (Option Nat))(l:Nat):Option Nat:=(L[l]?).bind id
def GX(ρ:Nat->Option Nat):List (Option Nat)->St->St->Prop
 | [],[],_=>True
 |none ::L,none ::s0,st=>GX ρ L s0 st
 |some l' ::L,some (k,els0)::s0,st=>(∃els,st[l']?=some (some (k,els))/\U8 ρ els0 els)/\GX ρ L s0 st
 |_,_,_=>False
theorem GX.len{ρ}:∀{L:List (Option Nat)} {s0 st:St},GX ρ L s0 st->L.length=s0.length
 | [],[],_,_=>rfl
 | [],_ :: _,_,h=>h.elim
 |none ::L,[],_,h=>h.elim
 |some _ ::L,[],_,h=>h.elim
 |none ::L,none ::s0,st,h=>by simpa using GX.len (L:=L) (s0:=s0) (st:=st) h
 |none ::L,some _ ::s0,st,h=>h.elim
 |some _ ::L,none ::s0,st,h=>h.elim
 |some l' ::L,some (k,e)::s0,st,h=>by simpa using GX.len h.2
theorem GX.get{ρ}:∀{L:List (Option Nat)} {s0 st:St},GX ρ L s0 st->∀l,(∀l',Wj L l=some l'->∃k els0 els,s0[l]?=some (some (k,els0))/\st[l']?=some (some (k,els))/\U8 ρ els0 els) /\
  ∀k els0,s0[l]?=some (some (k,els0))->∃l',Wj L l=some l'
 | [],[],_,_,l=>⟨λl' h=>by simp [Wj] at h,λk e h=>by simp at h⟩
 | [],_ :: _,_,h,_=>h.elim
 |none ::L,[],_,h,_=>h.elim
 |some _ ::L,[],_,h,_=>h.elim
 |none ::L,some _ ::s0,st,h,_=>h.elim
 |some _ ::L,none ::s0,st,h,_=>h.elim
 |none ::L,none ::s0,st,h,l=>by
  cases l with
  |zero=>exact ⟨λl' h'=>by simp [Wj] at h',λk e h'=>by simp at h'⟩
  |succ l=>simpa [Wj] using GX.get (L:=L) (s0:=s0) (st:=st) h l
 |some x ::L,some (k,e)::s0,st,h,l=>by
  cases l with
  |zero =>
   obtain ⟨els,h1,h2⟩:=h.1;refine ⟨λl' h'=>?_,λk' e' h'=>⟨x,by simp [Wj]⟩⟩;simp [Wj] at h';subst h';exact ⟨k,e,els,by simp,h1,h2⟩
  |succ l=>simpa [Wj] using GX.get h.2 l
theorem U8.same{ρ}{els:List (List AV)}(h:∀r∈els,∀x∈r,Imm x):U8 ρ els els:=
 ⟨rfl,λi hi _=>⟨rfl,λj hj _=>.imm (h _ (Qi hi) _ (Qi hj))⟩⟩
theorem U8.bytes{ρ}(bs:List UInt8):U8 ρ (bs.map Zn) (bs.map Zn):=
 U8.same λr hr x hx=>by
  obtain ⟨b,_,rfl⟩:=QW.1 hr;simp [Zn] at hx;subst hx;exact .lit _
theorem U8.nil{ρ}:U8 ρ [] []:=⟨rfl,λi hi=>by simp at hi⟩
theorem U8.one{ρ}{r r':List AV}(hl:r.length=r'.length)(h:∀j (h1:j<r.length) (h2:j<r'.length),Rn ρ r[j] r'[j]):U8 ρ [r] [r']:=
 ⟨rfl,λi hi _=>by
  have:i=0:=by simp at hi;exact hi
  subst this
  exact ⟨hl,h⟩⟩
inductive Kp:AV->Prop
 |any:Kp .any
 |lit (v):Kp (.lit v)
 |agg (cs) (h:∀x∈cs,Kp x):Kp (.agg cs)
 |tup (cs) (h:∀x∈cs,Kp x):Kp (.tup cs)
theorem Kp.vi{A A':Nat->Prop}{w w':World}{av:AV}(hp:Kp av):∀{v},VI A w av v->VI A' w' av v:=by
 induction hp with
 |any=>exact λ{v} _=>.any v
 |lit x=>intro v h;cases h;exact .lit _
 |agg cs _ ih=>intro v h;cases h with |agg _ a hs hv=>exact .agg _ _ hs λi hi=>ih _ (Qi hi) (hv i hi)
 |tup cs _ ih=>intro v h;cases h with |tup _ a hs hv=>exact .tup _ _ hs λi hi=>ih _ (Qi hi) (hv i hi)
theorem zy7{P:Program}{f:FuncId}{args args':List AV}{st:St}{r:AV}{K:AV->St->Prop}(h:Xo P f args' r)(hp:Kp r)(hs:Wu st args args')(hk:K r st):UZ P f args st K:=by
 refine ⟨h.1,λA m w vals hR hv=>(h.2 (λB=>B<w.heap.size) w vals (λB hB=>hB) ⟨by rw [<-hs.get.1];exact hv.1,λi hi'=>(hs.get.2 i (by rw [hs.get.1];exact hi') hi').vi hR hR.aLow (λ_ _ hb hh=>hR.low hb hh) (hv.2 i (by rw [hs.get.1];exact hi'))⟩).mono λe w' ⟨v,he,hg,hvi⟩=>?_⟩;obtain ⟨h1,h2⟩:=hR.grow' hg;exact ⟨v,A,m,st,_,he,h1,h2,.imm (hp.vi hvi),hk⟩
def Us(P:Program)(op:Op)(env:Ev)(st:St)(K:AV->St->Prop):Prop:=
 match ZO op with
 |true =>
  match Ko env op with
  |some (g,args)=>UZ P g args st K
  |none=>False
 |false =>
  match aop P env st op with
  |some (av,st')=>K av st'
  |none=>False
theorem zGC{P:Program}{A m w st n env a}{o:Oper}{K:AV->St->Prop}{next:Act->World->Prop}{Q:Exit->Act->World->Prop}(hR:R A m w st)(hE:Env A m st.length w n env a)
  (h:Us P o.op env st K)
  (hk:∀v w' A' m' st' av,R A' m' w' st'->Xr A m st.length w A' m' st'.length w'->V A' m' st'.length w' av v->K av st'->next (a.put o.dst v) w'):o.wp P a w next Q:=by
 unfold Us at h;unfold Oper.wp;split at h
 .rename_i hic;clear hic;split at h
  case h_2=>exact h.elim
  rename_i g args hc;have hs:=h;clear h;obtain ⟨dst,op,ty,pos,after,guard⟩:=o;simp only at hc hs;unfold Ko at hc;split at hc
  .rename_i c;split at hc
   .rename_i f hf;split at hc
    .rename_i g' first caps args' hfv hargs
     cases hc;have h1:=zY hE hfv;obtain ⟨p,q,e,hp,hq⟩:=h1.fn_inv;have hargs':=zkx hE hargs;obtain ⟨callee,cargs,cat⟩:=c;simp only at hf hargs hargs';subst hf
     have e2:(cargs.toList.map a.eval).toArray=cargs.map a.eval:=by apply Array.ext';simp
     rw [e2] at hargs'
     have hrun:(execOp a.eval { dst:=dst,op:=.call { callee:=.value f,args:=cargs,argTypes:=cat },type:=ty,pos:=pos,after:=after,guard:=guard }).run P w=.ok (.enter g (p++cargs.map a.eval++q)) w:=by
      have hce:=zpO hs.1 (p++cargs.map a.eval++q) w;simp only [execOp,resolve,e,Deferred.ofValue,Sem.run_bind,Sem.run_pure,Result.andThen_ok,invoke];exact hce
     rw [hrun];simp only [Oper.upon];refine (hs.2 A m w _ hR ((hp.append hargs').append hq)).mono λe w' ⟨v,A',m',st',av,h1,h2,h3,h4,h5⟩=>?_;subst h1;exact hk _ _ _ _ _ _ h2 h3 h4 h5
    .cases hc
   .cases hc
  .cases hc
 .split at h
  case h_2=>exact h.elim
  rename_i av st' ha;have hK:=h;obtain ⟨nx,v,w',m',h1,h2,h3,h4,h5⟩:=zwY hR hE ha;rw [h1]
  rcases h2 with rfl |⟨rfl,rfl⟩
  .exact hk _ _ _ _ _ _ h3 h4 h5 hK
  .exact hk _ _ _ _ _ _ h3 h4 h5 hK
def X6(all:List Oper)(j:Nat):Option Tmp:=(all[j]?).bind (·.dst)
def Kl:List Oper->List Tmp
 | []=>[]
 |o ::os=>match o.dst with |some t=>t ::Kl os |none=>Kl os
def zIM(t:Tmp):List Tmp->Bool
 | []=>false
 |x ::l=>if x=t then true else zIM t l
theorem zwa{t:Tmp}:∀{l:List Tmp},zIM t l=true↔t∈l
 | []=>by simp [zIM]
 |x ::l=>by
  unfold zIM;split
  .rename_i h;simp [h]
  .rename_i h;simp [zwa (l:=l),Ne.symm h]
def Kr(ds:List Tmp):Ev->Ev
 | []=>[]
 |(k,v)::e=>match zIM k ds with |true=>Kr ds e |false=>(k,v)::Kr ds e
structure COp where
 op:Op
 deps:List Tmp
 guard:Option (Option Tmp×Bool)
 dst:Option Tmp
def Zj(all:List Oper):List Edge->List Tmp
 | []=>[]
 |e ::es=>match Region.binds .any e,X6 all e.on with |true,some t=>t ::Zj all es |_,_=>Zj all es
def GC(all:List Oper):Option (Nat×Bool)->Option (Option Tmp×Bool)
 |none=>none
 |some (j,w)=>some (X6 all j,w)
def sel(G:Ev)(env0:Ev):List Tmp->Ev
 | []=>env0
 |t ::ts=>match look G t with |some v=>(t,v)::sel G env0 ts |none=>sel G env0 ts
def K6(env:Ev):Option (Option Tmp×Bool)->Option Bool
 |none=>some true
 |some (none,_)=>none
 |some (some d,want) =>
  match look env d with
  |some (.lit (.bool b))=>some (b == want)
  |some (.lit (.tuple _))=>some false
  |_=>none
theorem zth(all:List Oper)(env:Ev)(o:Oper):ZJ all env o=K6 env (GC all o.guard):=by
 unfold ZJ GC
 cases o.guard with
 |none=>rfl
 |some g =>
  obtain ⟨j,w⟩:=g;simp only [X6];cases (all[j]?).bind (·.dst) <;> rfl
def Wp(P:Program)(all:List Oper)(env0:Ev)(st:St)(G:Ev)(o:Oper)(v:AV):Prop:=
 match K6 (sel G env0 (Zj all o.after.toList)) (GC all o.guard) with
 |some true=>Us P o.op (sel G env0 (Zj all o.after.toList)) st (λav st'=>av=v/\st'=st)
 |some false=>v=.lit undef
 |none=>False
theorem zoQ{t u:Tmp}{v x:AV}{e:Ev}(h:look ((t,v)::e) u=some x):(t=u/\v=x)∨look e u=some x:=by
 simp only [look] at h;split at h
 .rename_i e;exact .inl ⟨e.symm ▸ rfl,Option.some.inj h⟩
 .exact .inr h
theorem zv5{G env0:Ev}{u:Tmp}{x:AV}:∀{ts:List Tmp},look (sel G env0 ts) u=some x->look env0 u=some x∨(u∈ts/\look G u=some x)
 | [],h=>.inl h
 |t ::ts,h=>by
  unfold sel at h;split at h
  .rename_i v hv
   rcases zoQ h with ⟨rfl,rfl⟩ |h1
   .exact .inr ⟨by simp,hv⟩
   .exact (zv5 h1).imp id λh2=>⟨by simp [h2.1],h2.2⟩
  .exact (zv5 h).imp id λh2=>⟨by simp [h2.1],h2.2⟩
theorem zv3{u:Tmp}{x:AV}{e:Ev}:∀{G:Ev},look (G++e) u=some x->look e u=some x∨look G u=some x
 | [],h=>.inl h
 |(t,v)::G,h=>by
  rcases zoQ h with ⟨rfl,rfl⟩ |h1
  .exact .inr (by simp [look])
  .rcases zv3 h1 with h2 |h2
   .exact .inl h2
   .by_cases ht:t=u
    .subst ht;refine .inr ?_;simp only [J1,look,if_true] at h;simpa [look] using h
    .exact .inr (by simp only [look,if_neg ht];exact h2)
theorem zvJ{all:List Oper}{t:Tmp}:∀{es:List Edge},t∈Zj all es->∃e∈es,Region.binds .any e=true/\X6 all e.on=some t
 | [],h=>by simp [Zj] at h
 |e ::es,h=>by
  unfold Zj at h;split at h
  .rename_i h1 h2
   rcases Qu.1 h with rfl |h3
   .exact ⟨e,by simp,h1,h2⟩
   .obtain ⟨e',h4,h5⟩:=zvJ h3;exact ⟨e',by simp [h4],h5⟩
  .obtain ⟨e',h4,h5⟩:=zvJ h;exact ⟨e',by simp [h4],h5⟩
theorem zzB{t:Tmp}:∀{os:List Oper} {i:Nat},X6 os i=some t->t∈Kl os
 | [],i,h=>by simp [X6] at h
 |o ::os,i,h=>by
  unfold Kl
  cases i with
  |zero =>
   have:o.dst=some t:=by simpa [X6] using h
   rw [this];simp
  |succ i =>
   have:=zzB (os:=os) (i:=i) (by simpa [X6] using h);split
   .simp [this]
   .exact this
def Hy(n:Nat)(all:List Oper):Bool:=
 (List.range all.length).all λi =>
  match all[i]? with
  |none=>true
  |some o=>o.dst.all (·<n)&&o.after.toList.all (λe=>!Region.binds .any e||decide (e.on<i)) &&
   (List.range i).all λj=>match o.dst,X6 all j with |some t,some u=>t != u |_,_=>true
theorem zAJ{n:Nat}{all:List Oper}(h:Hy n all=true):(∀(i:Nat) o,all[i]?=some o->o.dst.all (·<n)=true/\∀e∈o.after.toList,Region.binds .any e=true->e.on<i) /\
  ∀i j t,X6 all i=some t->X6 all j=some t->i=j:=by
 have key:∀(i:Nat) o,all[i]?=some o->o.dst.all (·<n)=true/\(∀e∈o.after.toList,Region.binds .any e=true->e.on<i)/\∀j,j<i->∀t,o.dst=some t->X6 all j≠some t:=λi o ho=>by
  have hi:i<all.length:=(Qb.1 ho).1;have:=(Qp.1 h) i (JF.2 hi);rw [ho] at this;simp only [Qd] at this;obtain ⟨⟨h1,h2⟩,h3⟩:=this;refine ⟨h1,λe he hb=>?_,λj hj t ht hjt=>?_⟩
  .have:=(Qp.1 h2) e he;rw [hb] at this;simpa using this
  .have:=(Qp.1 h3) j (JF.2 hj);rw [ht,hjt] at this;simp at this
 refine ⟨λi o ho=>⟨(key i o ho).1,(key i o ho).2.1⟩,λi j t hi hj=>?_⟩
 have hex:∀i,X6 all i=some t->∃o,all[i]?=some o/\o.dst=some t:=λi h=>by
  unfold X6 at h
  cases ho:all[i]? with
  |none=>rw [ho] at h;cases h
  |some o=>rw [ho] at h;exact ⟨o,rfl,h⟩
 obtain ⟨oi,h1,h2⟩:=hex i hi;obtain ⟨oj,h3,h4⟩:=hex j hj
 rcases Nat.lt_trichotomy i j with hlt |heq |hgt
 .exact absurd hi ((key j oj h3).2.2 i hlt t h4)
 .exact heq
 .exact absurd hj ((key i oi h1).2.2 j hgt t h2)
theorem zzC{A m nb w n env a}(hsz:a.tmps.size=n)(hdf:a.defers=[])(h:∀t v,look env t=some v->t<n/\V A m nb w v (a.tmps.getD t undef)):Env A m nb w n env a:=⟨hsz,h,hdf⟩
theorem zmS{ds:List Tmp}{t:Tmp}:∀{e:Ev},(t∈ds->look (Kr ds e) t=none)/\∀v,look (Kr ds e) t=some v->look e t=some v
 | []=>⟨λ_=>rfl,λv h=>h⟩
 |p ::e=>by
  obtain ⟨h1,h2⟩:=zmS (ds:=ds) (t:=t) (e:=e);obtain ⟨s,x⟩:=p;unfold Kr;split
  .rename_i hm;refine ⟨h1,λv h=>?_⟩;simp only [look];split
   .rename_i ets
    have:t∈ds:=by rw [<-ets];exact zwa.1 hm
    rw [h1 this] at h;cases h
   .exact h2 v h
  .rename_i hm;refine ⟨λht=>?_,λv h=>?_⟩
   .simp only [look];split
    .rename_i ets;rw [<-ets] at ht;rw [zwa.2 ht] at hm;cases hm
    .exact h1 ht
   .simp only [look] at h ⊢;split
    .rename_i ets;rw [if_pos ets] at h;exact h
    .rename_i ets;rw [if_neg ets] at h;exact h2 v h
section
variable {P : Program} {rest : List COp} {d : Option Tmp} {op : Op} {deps : List Tmp} {env env0 : Ev} {st : St} {G : Ev} {K : Ev -> Prop}
end
theorem bs{α β:Type}{m:Option α}{k:α->Option β}{r:β}(h:(m.bind k)=some r):∃x,m=some x/\k x=some r:=by
 cases m with
 |none=>cases h
 |some x=>exact ⟨x,rfl,h⟩
theorem sm{α:Type}{x y:α}(h:some x=some y):x=y:=Option.some.inj h
theorem bT{α:Type}{c:Bool}{x y r:α}(hc:c=true)(h:cond c x y=r):x=r:=by rw [hc] at h;exact h
theorem bF{α:Type}{c:Bool}{x y r:α}(hc:c=false)(h:cond c x y=r):y=r:=by rw [hc] at h;exact h
section
variable {X Y : Type}
def ZR(body:X->Option (Sum X Y)):Nat->X->Option Y
 | 0,_=>none
 |n+1,x =>
  match body x with
  |some (.inl x')=>ZR body n x'
  |some (.inr y)=>some y
  |none=>none
open Classical in
def zFi(body:X->Option (Sum X Y))(x:X):Option Y:=
 if h:∃n y,ZR body n x=some y then some h.choose_spec.choose else none
def zk(body:X->Option (Sum X Y))(x:X):Option Y:=
 match ZR body 3000 x with
 |some y=>some y
 |none=>zFi body x
theorem zrX{body:X->Option (Sum X Y)}:∀{n k:Nat} {x:X} {y:Y},ZR body n x=some y->n≤k->ZR body k x=some y
 | 0,_,_,_,h,_=>by cases h
 |n+1,0,_,_,_,hk=>by omega
 |n+1,k+1,x,y,h,hk=>by
  unfold ZR at h ⊢;split at h
  .rename_i x' hx;exact zrX h (by omega)
  .rename_i z hx;exact h
  .cases h
theorem zv6{body:X->Option (Sum X Y)}{n:Nat}{x:X}{y:Y}(h:ZR body n x=some y):zk body x=some y:=by
 have key:∀n k y z,ZR body n x=some y->ZR body k x=some z->y=z:=λn k y z h1 h2 =>
  sm ((zrX h1 (Nat.le_max_left n k)).symm.trans (zrX h2 (Nat.le_max_right n k)))
 unfold zk
 cases h0:ZR body 3000 x with
 |some z=>exact congrArg some (key _ _ _ _ h0 h)
 |none =>
  have hex:∃n y,ZR body n x=some y:=⟨n,y,h⟩;show zFi body x=some y;unfold zFi;rw [dif_pos hex];exact congrArg some (key _ _ _ _ hex.choose_spec.choose_spec h)
theorem Ok{body:X->Option (Sum X Y)}{x:X}{y:Y}(h:zk body x=some y):∃n,ZR body n x=some y:=by
 unfold zk at h;split at h
 .rename_i z h0;cases h;exact ⟨_,h0⟩
 .unfold zFi at h;split at h
  .rename_i hex;cases h;exact ⟨_,hex.choose_spec.choose_spec⟩
  .cases h
theorem zG(body:X->Option (Sum X Y))(x:X):zk body x=(body x).bind (Sum.elim (zk body) some):=by
 cases hb:body x with
 |none =>
  cases h:zk body x with
  |none=>rfl
  |some y =>
   obtain ⟨n,hn⟩:=Ok h
   cases n with
   |zero=>cases hn
   |succ n=>unfold ZR at hn;rw [hb] at hn;cases hn
 |some r =>
  cases r with
  |inr y=>exact zv6 (n:=1) (by unfold ZR;rw [hb])
  |inl x' =>
   show zk body x=zk body x'
   cases h:zk body x' with
   |some y =>
    obtain ⟨n,hn⟩:=Ok h;exact zv6 (n:=n+1) (by unfold ZR;rw [hb];exact hn)
   |none =>
    cases h2:zk body x with
    |none=>rfl
    |some y =>
     obtain ⟨n,hn⟩:=Ok h2
     cases n with
     |zero=>cases hn
     |succ n =>
      unfold ZR at hn;rw [hb] at hn;rw [zv6 hn] at h;cases h
end
def zB{B R R':Type}(o:Sum B R)(k:B->Option R')(f:R->Option R'):Option R':=
 match o with
 |.inl b=>k b
 |.inr r=>f r
abbrev B(l:List UInt8):ByteArray:=⟨⟨l⟩⟩
def idx{α:Type}(l:List α)(i:Int):Option α:=if 0≤i then l[i.toNat]? else none
theorem zQ{α:Type}{l:List α}{i:Int}{x:α}(h:idx l i=some x):0≤i/\i.toNat<l.length/\l[i.toNat]?=some x:=by
 unfold idx at h;split at h
 .rename_i h0;exact ⟨h0,(Qb.1 h).1,h⟩
 .cases h
def XK{α:Type}(l:List α)(lo hi:Int):Option (List α):=if 0≤lo/\lo≤hi/\hi≤l.length then some ((l.drop lo.toNat).take (hi.toNat-lo.toNat)) else none
def Xx{α:Type}(w:Nat)(l x:List α):Option (List α):=if (l.length+x.length)*w≤140737488355328/\l.length+x.length≤9223372036854775807 then some (l++x) else none
theorem zwZ{α:Type}{w:Nat}{l x r:List α}(h:Xx w l x=some r):r=l++x/\(l.length+x.length)*w≤140737488355328/\l.length+x.length≤9223372036854775807:=by
 unfold Xx at h;split at h
 .rename_i h1;cases h;exact ⟨rfl,h1⟩
 .cases h
def X2(l x:List UInt8):Option (List UInt8):=if l.length+x.length≤9223372036854775807 then some (l++x) else none
def zKj(k:IntKind)(a b:Int):Option Int:=if b=0 then none else some (k.wrap (a.tdiv b))
def zI7(a b:Int):Option Int:=if b=0 then none else some (a.tmod b)
def zKo(k:IntKind)(a b:Int):Option Int:=if b<0 then none else some (k.wrap (a*2 ^ (min b.toNat k.bits)))
def zKp(k:IntKind)(a b:Int):Option Int:=if b<0 then none else some (a.fdiv (2 ^ (min b.toNat k.bits)))
def SR(P:Program)(n nb0:Nat)(all l1 l2:List Oper)(K:Ev->St->Prop)(env:Ev)(st:St):Prop:=
 ∀(ops:Array Oper) (i:Nat),ops.toList=all->all.drop i=l1++l2->all.all (λo=>o.dst.all (·<n))=true->∀A m w a,nb0≤st.length->R A m w st->Env A m st.length w n env a ->
  ∀Q:Exit->Act->World->Prop,(∀a' w',Ku A m nb0 w n K a' w'->wpOps P ops Q (List.range' (i+l1.length) l2.length) a' w')->wpOps P ops Q (List.range' i (l1.length+l2.length)) a w
section
variable {P : Program} {n nb0 : Nat} {all l1 l2 : List Oper} {K : Ev -> St -> Prop} {env : Ev} {st : St}
theorem zw(h:K env st):SR P n nb0 all [] l2 K env st:=λops i ho hd hn A m w a h0 hR hE Q hQ=>by
 have:=hQ a w ⟨A,m,env,st,hR,hE,Xr.refl0 _ _ _ _ h0,h⟩;simpa using this
theorem zJJ{l1':List Oper}(h:SR P n nb0 all l1 (l1'++l2) (λenv st=>SR P n nb0 all l1' l2 K env st) env st):SR P n nb0 all (l1++l1') l2 K env st:=λops i ho hd hn A m w a h0 hR hE Q hQ=>by
 rw [Jc] at hd
 have h1:=h ops i ho hd hn A m w a h0 hR hE Q λa' w' ⟨A',m',e',s',k1,k2,k3,k4⟩=>by
  have h2:=k4 ops (i+l1.length) ho (by rw [<-List.drop_drop,hd,List.drop_left]) hn A' m' w' a' k3.nbLe k1 k2 Q λa2 w2 h3=>by
   have:=hQ a2 w2 (h3.trans k3)
   rwa [Qy,<-QR] at this
  rwa [Qy]
 rw [Qy] at h1
 rwa [Qy,QR]
theorem zwn(k:Nat)(h:SR P n nb0 all (l1.take k) (l1.drop k++l2) (λenv st=>SR P n nb0 all (l1.drop k) l2 K env st) env st):SR P n nb0 all l1 l2 K env st:=by
 have:=zJJ h
 rwa [List.take_append_drop] at this
theorem zAd{K':Ev->St->Prop}(h:SR P n nb0 all l1 l2 K env st)(hk:∀env st,K env st->K' env st):SR P n nb0 all l1 l2 K' env st:=λops i ho hd hn A m w a h0 hR hE Q hQ =>
 h ops i ho hd hn A m w a h0 hR hE Q λa' w' ⟨A',m',e',s',k1,k2,k3,k4⟩=>hQ a' w' ⟨A',m',e',s',k1,k2,k3,hk _ _ k4⟩
theorem Ds{env':Ev}(hs:∀t v,look env' t=some v->look env t=some v)(h:SR P n nb0 all l1 l2 K env' st):SR P n nb0 all l1 l2 K env st:=λops i ho hd hn A m w a h0 hR hE Q hQ =>
 h ops i ho hd hn A m w a h0 hR (hE.less hs) Q hQ
theorem zJK{o:Oper}{ops:Array Oper}{i:Nat}(ho:ops.toList=all)(hd:all.drop i=o ::l1++l2)(hn:all.all (λo=>o.dst.all (·<n))=true):ops[i]?=some o/\all.drop (i+1)=l1++l2/\o.dst.all (·<n)=true:=by
 have hi:ops[i]?=some o:=by
  have:ops.toList[i]?=some o:=by
   have h1:(ops.toList.drop i)[0]?=some o:=by rw [ho,hd];rfl
   simpa using h1
  simpa using this
 refine ⟨hi,?_,?_⟩
 .have:=congrArg List.tail hd;simpa [List.tail_drop] using this
 .rw [Qp] at hn;refine hn o ?_;rw [<-ho];exact Qc (by simpa using hi:ops.toList[i]?=some o)
theorem G1{o:Oper}(hg:ZJ all env o=some true)(h:SOp P o env st λenv' st'=>SR P n nb0 all l1 l2 K env' st'):SR P n nb0 all (o ::l1) l2 K env st:=λops i ho hd hn A m w a h0 hR hE Q hQ=>by
 obtain ⟨hi,hd',hdo⟩:=zJK ho hd hn
 have e:(o ::l1).length+l2.length=(l1.length+l2.length)+1:=by simp;omega
 rw [e,J2];simp only [wpOps,hi];rw [DM hE (ho.symm ▸ hg)];simp only [if_true];refine .inl (zIV hR hE hdo h λa' w' ⟨A',m',env',st',h1,h2,h3,h4⟩=>?_);refine h4 ops (i+1) ho hd' hn A' m' w' a' (QL h0 h3.nbLe) h1 h2 Q λa2 w2 k=>?_;have:=hQ a2 w2 (k.trans (h3.weak h0))
 rwa [Qv,Yc l1.length 1,<-QR] at this
variable {d : Option Tmp} {op : Op} {ty : TypeId} {pos : String} {aft : Array Edge}
theorem u(h:SOp P ⟨d,op,ty,pos,aft,none⟩ env st λenv' st'=>SR P n nb0 all l1 l2 K env' st'):SR P n nb0 all (⟨d,op,ty,pos,aft,none⟩::l1) l2 K env st:=
 G1 rfl h
theorem zqU{j:Nat}{want b:Bool}(hv:Gn all j env=some (.lit (.bool b))):ZJ all env ⟨d,op,ty,pos,aft,some (j,want)⟩=some (b == want):=by
 unfold Gn at hv;unfold ZJ;simp only
 cases hd:(all[j]?).bind (·.dst) with
 |none=>rw [hd] at hv;cases hv
 |some t =>
  rw [hd] at hv;simp only [Qa] at hv;simp only [hv]
theorem zwT{j:Nat}{want:Bool}(hv:Gn all j env=some (.lit undef)):ZJ all env ⟨d,op,ty,pos,aft,some (j,want)⟩=some false:=by
 unfold Gn at hv;unfold ZJ;simp only
 cases hd:(all[j]?).bind (·.dst) with
 |none=>rw [hd] at hv;cases hv
 |some t =>
  rw [hd] at hv;simp only [Qa] at hv;simp only [hv,undef]
theorem g{j:Nat}{want b:Bool}(hv:Gn all j env=some (.lit (.bool b)))(hb:b=want)(h:SOp P ⟨d,op,ty,pos,aft,some (j,want)⟩ env st λenv' st'=>SR P n nb0 all l1 l2 K env' st'):
  SR P n nb0 all (⟨d,op,ty,pos,aft,some (j,want)⟩::l1) l2 K env st:=
 G1 ((zqU hv).trans (by rw [hb];simp)) h
theorem zGG{o:Oper}(hg:ZJ all env o=some false)(h:SR P n nb0 all l1 l2 K (aput o.dst (.lit undef) env) st):SR P n nb0 all (o ::l1) l2 K env st:=λops i ho hd hn A m w a h0 hR hE Q hQ=>by
 obtain ⟨hi,hd',hdo⟩:=zJK ho hd hn
 have e:(o ::l1).length+l2.length=(l1.length+l2.length)+1:=by simp;omega
 rw [e,J2];simp only [wpOps,hi];rw [DM hE (ho.symm ▸ hg)];simp only [Jx,if_false];refine h ops (i+1) ho hd' hn A m w _ h0 hR (hE.aput hdo (.imm (.lit _))) Q λa2 w2 k=>?_;have:=hQ a2 w2 k
 rwa [Qv,Yc l1.length 1,<-QR] at this
def Xt(t:Nat):List Nat->Bool
 | []=>false
 |x ::l=>Nat.beq x t||Xt t l
def Zu(ds:List Nat):Ev->Bool
 | []=>true
 |(t,_)::e=>(!Xt t ds)&&Zu ds e
def UO:List Oper->List Nat
 | []=>[]
 |o ::r=>match o.dst with |some t=>t ::UO r |none=>UO r
def K8(env:Ev):List Oper->Ev
 | []=>env
 |o ::r=>K8 (aput o.dst (.lit undef) env) r
theorem GF{t:Nat}:∀{l:List Nat},Xt t l=true↔t∈l
 | []=>by simp [Xt]
 |x ::l=>by
  unfold Xt;rw [Qt,Nat.beq_eq,GF (l:=l),Qu];exact ⟨λh=>h.imp Eq.symm id,λh=>h.imp Eq.symm id⟩
theorem Gj{ds:List Nat}{t:Nat}{v:AV}:∀{e:Ev},Zu ds e=true->look e t=some v->t ∉ ds
 | [],_,h=>by cases h
 |(k,x)::e,hk,h=>by
  simp only [Zu,Qd,Qk] at hk;simp only [look] at h;split at h
  .rename_i e';subst e';intro hm;rw [GF.2 hm] at hk;cases hk.1
  .exact Gj hk.2 h
theorem OI{t:Nat}:∀{l:List Oper} {env:Ev},t ∉ UO l->look (K8 env l) t=look env t
 | [],_,_=>rfl
 |o ::r,env,h=>by
  unfold K8;unfold UO at h
  cases hd:o.dst with
  |none=>rw [hd] at h;exact OI h
  |some d =>
   rw [hd] at h;simp only [Qu,not_or] at h;have h2:=OI (l:=r) (env:=aput (some d) (.lit undef) env) h.2;rw [h2];have:d≠t:=λe=>h.1 e.symm;simp [aput,look,this]
def GV(all:List Oper)(j:Nat)(want:Bool)(Xd:List Nat):List Oper->Bool
 | []=>true
 |o ::r=>(match o.guard with
  |some (j',w')=>(Nat.beq j' j&&(w' == want))||(match (all[j']?).bind (·.dst) with |some t=>Xt t Xd |none=>false)
  |none=>false)&&GV all j want (match o.dst with |some t=>t ::Xd |none=>Xd) r
theorem I3{j:Nat}{want b:Bool}{t:Nat}(ht:(all[j]?).bind (·.dst)=some t):∀(l:List Oper) {l1:List Oper} {env:Ev} {Xd:List Nat},GV all j want Xd l=true->(∀x∈Xd,look env x=some (.lit undef))->t ∉ UO l->t ∉ Xd->look env t=some (.lit (.bool b))->b=!want ->
  SR P n nb0 all l1 l2 K (K8 env l) st->SR P n nb0 all (l++l1) l2 K env st
 | [],_,_,_,_,_,_,_,_,_,h=>h
 |o ::l,l1,env,Xd,ha,hs,hn,hts,hl,hb,h=>by
  unfold GV at ha;obtain ⟨d,op,ty,pos,aft,gu⟩:=o
  cases gu with
  |none=>simp at ha
  |some jw =>
   obtain ⟨j',w'⟩:=jw;simp only [Qd,Qt] at ha;obtain ⟨h1,h2⟩:=ha
   have hsk:ZJ all env ⟨d,op,ty,pos,aft,some (j',w')⟩=some false:=by
    rcases h1 with h1 |h1
    .obtain ⟨e1,e2⟩:=h1;have e1:=Ql e1;have e2:=beq_iff_eq.1 e2;subst e1 e2
     have hgv:Gn all j' env=some (.lit (.bool b)):=by unfold Gn;rw [ht];exact hl
     exact (zqU hgv).trans (by rw [hb];simp)
    .split at h1
     .rename_i t' ht'
      have hgv:Gn all j' env=some (.lit undef):=by unfold Gn;rw [ht'];exact hs t' (GF.1 h1)
      exact zwT hgv
     .cases h1
   refine zGG hsk ?_;have hn':t ∉ UO l:=λhm=>hn (by unfold UO;cases d <;> simp [hm]);have hd:∀d',d=some d'->d'≠t:=λd' e e'=>hn (by subst e;simp [UO,e']);refine I3 ht l h2 (λx hx=>?_) hn' (λhm=>?_) ?_ hb h
   .cases d with
    |none=>exact hs x hx
    |some d =>
     rcases Qu.1 hx with rfl |hx
     .simp [aput,look]
     .by_cases e:d=x
      .simp [aput,look,e]
      .simpa [aput,look,e] using hs x hx
   .cases d with
    |none=>exact hts hm
    |some d =>
     rcases Qu.1 hm with h5 |h5
     .exact hd d rfl h5.symm
     .exact hts h5
   .cases d with
    |none=>exact hl
    |some d=>simpa [aput,look,hd d rfl] using hl
def Gq(env:Ev)(st:St)(y:Operand)(x:Bool)(env':Ev)(st':St):Prop:=
 st'=st/\(∀t v,look env t=some v->look env' t=some v)/\ev env' y=some (.lit (.bool x))
theorem zoC{ds:List Nat}{env:Ev}(hk:Zu ds env=true):∀(k:Nat) {env':Ev},env'.drop k=env->(∀p∈env'.take k,Xt p.1 ds=true)->∀t v,look env t=some v->look env' t=some v
 | 0,env',h,_,t,v,hl=>by simp at h;rw [h];exact hl
 |k+1,[],h,_,t,v,hl=>by simp at h;rw [h] at hl;cases hl
 |k+1,(a,x)::e,h,hm,t,v,hl=>by
  have h1:=zoC hk k (env':=e) (by simpa using h) (λp hp=>hm p (by simp [hp])) t v hl;have h2:a∈ds:=GF.1 (hm (a,x) (by simp));have h3:a≠t:=λe=>Gj hk hl (e ▸ h2);simpa [look,h3] using h1
def WM(ds:List Nat):Nat->Ev->Bool
 | 0,_=>true
 |_+1,[]=>true
 |k+1,(a,_)::e=>Xt a ds&&WM ds k e
theorem zkM{ds:List Nat}:∀{k:Nat} {e:Ev},WM ds k e=true->∀p∈e.take k,Xt p.1 ds=true
 | 0,_,_,p,hp=>by simp at hp
 |k+1,[],_,p,hp=>by simp at hp
 |k+1,(a,x)::e,h,p,hp=>by
  simp only [WM,Qd] at h;simp only [List.take_succ_cons,Qu] at hp
  rcases hp with rfl |hp
  .exact h.1
  .exact zkM h.2 p hp
theorem eg{env env':Ev}{st:St}{y:Operand}{x:Bool}(ds:List Nat)(k:Nat)(h1:env'.drop k=env)(h2:Zu ds env=true)(h3:WM ds k env'=true)(h4:ev env' y=some (.lit (.bool x))):Gq env st y x env' st:=
 ⟨rfl,zoC h2 k h1 (zkM h3),h4⟩
theorem Zi(k:Nat){dp c:Nat}{y:Operand}{ty':TypeId}{pos':String}{aft':Array Edge}{gp:Option (Nat×Bool)}{j:Nat}{b x:Bool}{l:List Oper}(hl:l1.drop k=⟨some dp,.pick (.tmp c) y (.const (.bool false)),ty',pos',aft',gp⟩::l)
  (hj:(all[j]?).bind (·.dst)=some c) (hc:look env c=some (.lit (.bool b))) (hg:GV all j true [] (l1.take k)=true) (hk:Zu (UO (l1.take k)) env=true)
  (hgp:∀env':Ev,(∀t v,look env t=some v->look env' t=some v)->ZJ all env' ⟨some dp,.pick (.tmp c) y (.const (.bool false)),ty',pos',aft',gp⟩=some true)
  (hT:b=true->SR P n nb0 all (l1.take k) (l1.drop k++l2) (Gq env st y x) env st) (hF:b=false->x=false) (h:SR P n nb0 all l l2 K ((dp,.lit (.bool x))::env) st):SR P n nb0 all l1 l2 K env st:=by
 refine zwn k ?_;rw [hl]
 cases b with
 |true =>
  refine zAd (by rw [<-hl];exact hT rfl) ?_;rintro env' st' ⟨rfl,h2,h3⟩;refine G1 (hgp env' h2) ?_;unfold SOp;simp only [ZO,aop];have:ev env' (.tmp c)=some (.lit (.bool true)):=h2 c _ hc;rw [this,h3];simp only [QM,aput];refine Ds (λt v ht=>?_) h;simp only [look] at ht ⊢;split
  .rename_i e;rw [if_pos e] at ht;exact ht
  .rename_i e;rw [if_neg e] at ht;exact h2 t v ht
 |false =>
  have hout:∀t v,look env t=some v->look (K8 env (l1.take k)) t=some v:=λt v ht=>by
   rw [OI (Gj hk ht)];exact ht
  have:=I3 (P:=P) (n:=n) (nb0:=nb0) (l2:=l1.drop k++l2) (K:=λenv st=>SR P n nb0 all (l1.drop k) l2 K env st) (st:=st) (l1:=[]) hj (l1.take k) hg (λ_ h=>by cases h) (Gj hk hc) (λh=>by cases h) hc rfl ?_
  .rw [Qx] at this;rwa [hl] at this
  refine zw ?_;rw [hl];refine G1 (hgp _ hout) ?_;unfold SOp;simp only [ZO,aop];have:ev (K8 env (l1.take k)) (.tmp c)=some (.lit (.bool false)):=hout c _ hc;rw [this];simp only [ev,QM,aput];rw [hF rfl] at h;refine Ds (λt v ht=>?_) h;simp only [look] at ht ⊢;split
  .rename_i e;rw [if_pos e] at ht;exact ht
  .rename_i e;rw [if_neg e] at ht;exact hout t v ht
theorem Ud(k:Nat){dp c:Nat}{y:Operand}{ty':TypeId}{pos':String}{aft':Array Edge}{gp:Option (Nat×Bool)}{j:Nat}{b x:Bool}{l:List Oper}(hl:l1.drop k=⟨some dp,.pick (.tmp c) (.const (.bool true)) y,ty',pos',aft',gp⟩::l)
  (hj:(all[j]?).bind (·.dst)=some c) (hc:look env c=some (.lit (.bool b))) (hg:GV all j false [] (l1.take k)=true) (hk:Zu (UO (l1.take k)) env=true)
  (hgp:∀env':Ev,(∀t v,look env t=some v->look env' t=some v)->ZJ all env' ⟨some dp,.pick (.tmp c) (.const (.bool true)) y,ty',pos',aft',gp⟩=some true)
  (hF:b=false->SR P n nb0 all (l1.take k) (l1.drop k++l2) (Gq env st y x) env st) (hT:b=true->x=true) (h:SR P n nb0 all l l2 K ((dp,.lit (.bool x))::env) st):SR P n nb0 all l1 l2 K env st:=by
 refine zwn k ?_;rw [hl]
 cases b with
 |false =>
  refine zAd (by rw [<-hl];exact hF rfl) ?_;rintro env' st' ⟨rfl,h2,h3⟩;refine G1 (hgp env' h2) ?_;unfold SOp;simp only [ZO,aop];have:ev env' (.tmp c)=some (.lit (.bool false)):=h2 c _ hc;rw [this,h3];simp only [QM,aput];refine Ds (λt v ht=>?_) h;simp only [look] at ht ⊢;split
  .rename_i e;rw [if_pos e] at ht;exact ht
  .rename_i e;rw [if_neg e] at ht;exact h2 t v ht
 |true =>
  have hout:∀t v,look env t=some v->look (K8 env (l1.take k)) t=some v:=λt v ht=>by
   rw [OI (Gj hk ht)];exact ht
  have:=I3 (P:=P) (n:=n) (nb0:=nb0) (l2:=l1.drop k++l2) (K:=λenv st=>SR P n nb0 all (l1.drop k) l2 K env st) (st:=st) (l1:=[]) hj (l1.take k) hg (λ_ h=>by cases h) (Gj hk hc) (λh=>by cases h) hc rfl ?_
  .rw [Qx] at this;rwa [hl] at this
  refine zw ?_;rw [hl];refine G1 (hgp _ hout) ?_;unfold SOp;simp only [ZO,aop];have:ev (K8 env (l1.take k)) (.tmp c)=some (.lit (.bool true)):=hout c _ hc;rw [this];simp only [ev,QM,aput];rw [hT rfl] at h;refine Ds (λt v ht=>?_) h;simp only [look] at ht ⊢;split
  .rename_i e;rw [if_pos e] at ht;exact ht
  .rename_i e;rw [if_neg e] at ht;exact hout t v ht
theorem gpn{env:Ev}{o:Option Tmp}{op:Op}{ty:TypeId}{pos:String}{aft:Array Edge}:∀env':Ev,(∀t v,look env t=some v->look env' t=some v)->ZJ all env' ⟨o,op,ty,pos,aft,none⟩=some true:=λ_ _=>rfl
theorem gps{env:Ev}{o:Option Tmp}{op:Op}{ty:TypeId}{pos:String}{aft:Array Edge}{j t:Nat}{want b:Bool}(hj:(all[j]?).bind (·.dst)=some t)(hv:look env t=some (.lit (.bool b)))(hb:b=want):
  ∀env':Ev,(∀t v,look env t=some v->look env' t=some v)->ZJ all env' ⟨o,op,ty,pos,aft,some (j,want)⟩=some true:=λenv' h=>by
 have hgv:Gn all j env'=some (.lit (.bool b)):=by unfold Gn;rw [hj];exact h t _ hv
 exact (zqU hgv).trans (by rw [hb];simp)
theorem egA{env env':Ev}{st:St}{y:Operand}{b v:Bool}(ds:List Nat)(k:Nat)(hb:b=true)(h1:env'.drop k=env)(h2:Zu ds env=true)(h3:WM ds k env'=true)(h4:ev env' y=some (.lit (.bool v))):Gq env st y (b&&v) env' st:=
 ⟨rfl,zoC h2 k h1 (zkM h3),by rw [hb];exact h4⟩
theorem egO{env env':Ev}{st:St}{y:Operand}{b v:Bool}(ds:List Nat)(k:Nat)(hb:b=false)(h1:env'.drop k=env)(h2:Zu ds env=true)(h3:WM ds k env'=true)(h4:ev env' y=some (.lit (.bool v))):Gq env st y (b||v) env' st:=
 ⟨rfl,zoC h2 k h1 (zkM h3),by rw [hb];exact h4⟩
theorem zJu{b v:Bool}(hb:b=false):(b&&v)=false:=by rw [hb];rfl
theorem orT{b v:Bool}(hb:b=true):(b||v)=true:=by rw [hb];rfl
theorem zGF(k:Nat)(h:SR P n nb0 all l1 l2 K env (st.take k++List.replicate (st.length-k) none))(hk:Nat.ble k st.length=true):SR P n nb0 all l1 l2 K env st:=λops i ho hd hn A m w a h0 hR hE Q hQ=>by
 have hk':=QD hk
 have hlen:(st.take k++List.replicate (st.length-k) none).length=st.length:=by simp;omega
 let m':BM:=λl=>if l<k then m l else none
 have hm':∀l,l<st.length->m' l=m l∨m' l=none:=λl _=>by
  show (if l<k then m l else none)=m l∨(if l<k then m l else none)=none;split
  .exact .inl rfl
  .exact .inr rfl
 have hget:∀l b,m' l=some b->l<k/\m l=some b:=λl b h=>by
  change (if l<k then m l else none)=some b at h;split at h
  .exact ⟨by assumption,h⟩
  .cases h
 have hst:∀l,l<k->(st.take k++List.replicate (st.length-k) none)[l]?=st[l]?:=λl hl=>by
  rw [Qq (by simp;omega),Jv,if_pos hl]
 have hst2:∀l,k≤l->∀x,(st.take k++List.replicate (st.length-k) none)[l]?=some x->x=none:=λl hl x h=>by
  rw [Qs (by simp;omega)] at h;exact Ym (Qc h)
 have hS:Xr A m st.length w A m' st.length w:=⟨Qg _,Qg _,λ_ h=>h,λ_ h=>.inl h,hm',λl b h hh=>.inr ⟨l,b,(hget l b h).2,hh,rfl⟩,λ_ _ _=>rfl,rfl,rfl,rfl⟩
 have hR':R A m' w (st.take k++List.replicate (st.length-k) none):=by
  refine ⟨hR.aLow,λB l b hA h hh=>hR.aOwn B l b hA (hget l b h).2 hh,λl l' b b' h h'=>hR.inj l l' b b' (hget l b h).2 (hget l' b' h').2,λl b h=>?_,λl kk els he=>?_⟩
  .obtain ⟨h1,h2⟩:=hget l b h;rw [hst l h1];exact hR.live l b h2
  .by_cases hl:l<k
   .rw [hst l hl] at he;obtain ⟨b,h1,h2,h3,h4⟩:=hR.blk l kk els he;refine ⟨b,by show (if l<k then m l else none)=some b;rw [if_pos hl];exact h1,h2,λhh=>?_,h4⟩;rw [hlen];exact (h3 hh).keep (Qg _) rfl λav v hv=>hv.step hR hS
   .cases hst2 l (by omega) _ he
 have hE':Env A m' (st.take k++List.replicate (st.length-k) none).length w n env a:=by rw [hlen];exact hE.step hR hS
 exact h ops i ho hd hn A m' w a (by rw [hlen];exact h0) hR' hE' Q λa' w' k'=>hQ a' w' (k'.trans (hS.weak h0))
theorem zI1(j:Nat)(h:SR P n nb0 all l1 l2 K env (st++List.replicate j none)):SR P n nb0 all l1 l2 K env st:=λops i ho hd hn A m w a h0 hR hE Q hQ=>by
 have hlen:(st++List.replicate j none).length=st.length+j:=by simp
 have hm0:∀l b,m l=some b->l<st.length:=λl b h=>hR.lt h;have hS:Xr A m st.length w A m (st.length+j) w:=⟨by omega,Qg _,λ_ h=>h,λ_ h=>.inl h,λ_ _=>.inl rfl,λl b h hh=>.inr ⟨l,b,h,hh,rfl⟩,λ_ _ _=>rfl,rfl,rfl,rfl⟩
 have hR':R A m w (st++List.replicate j none):=by
  refine ⟨hR.aLow,hR.aOwn,hR.inj,λl b h=>?_,λl kk els he=>?_⟩
  .rw [Qq (hm0 l b h)];exact hR.live l b h
  .by_cases hl:l<st.length
   .rw [Qq hl] at he;obtain ⟨b,h1,h2,h3,h4⟩:=hR.blk l kk els he;refine ⟨b,h1,h2,λhh=>?_,h4⟩;rw [hlen];exact (h3 hh).keep (Qg _) rfl λav v hv=>hv.step hR hS
   .rw [Qs (by omega)] at he;cases Ym (Qc he)
 have hE':Env A m (st++List.replicate j none).length w n env a:=by rw [hlen];exact hE.step hR hS
 exact h ops i ho hd hn A m w a (by rw [hlen];omega) hR' hE' Q λa' w' k'=>hQ a' w' (k'.trans (hS.weak h0))
theorem ph(kk:Nat)(h:SR P n nb0 all l1 l2 K env (st++[some (kk,[])])):SR P n nb0 all l1 l2 K env st:=λops i ho hd hn A m w a h0 hR hE Q hQ=>by
 have hp:=hR.push (X3.refl w) ⟨false,0,0,kk,0,false⟩ [] (λh=>by cases h) (λ_=>rfl)
  (λh=>by cases h) (λh=>by cases h) (λh=>by cases h) (λq hq=>by cases hq) (λh=>by cases h)
 have hlen:(st++[some (kk,[])]).length=st.length+1:=by simp
 have hE':=hE.step hR hp.2;rw [<-hlen] at hE';exact h ops i ho hd hn A _ w a (by rw [hlen];omega) hp.1 hE' Q λa' w' k=>hQ a' w' (k.trans (hp.2.weak h0))
def zJp(jj:Nat)(env:Ev)(st:St)(y:Operand)(x:Bool)(env':Ev)(st':St):Prop:=
 st'.take st.length=st/\st'.length=st.length+jj/\(∀t v,look env t=some v->look env' t=some v)/\ev env' y=some (.lit (.bool x))
theorem xg{jj:Nat}{env env':Ev}{st st':St}{y:Operand}{x:Bool}(ds:List Nat)(k:Nat)(h5:st'.take st.length=st)(h6:st'.length=st.length+jj)(h1:env'.drop k=env)(h2:Zu ds env=true)(h3:WM ds k env'=true)(h4:ev env' y=some (.lit (.bool x))):zJp jj env st y x env' st':=
 ⟨h5,h6,zoC h2 k h1 (zkM h3),h4⟩
theorem zDB(k jj:Nat){dp c:Nat}{y:Operand}{ty':TypeId}{pos':String}{aft':Array Edge}{gp:Option (Nat×Bool)}{j:Nat}{b x:Bool}{l:List Oper}(hl:l1.drop k=⟨some dp,.pick (.tmp c) y (.const (.bool false)),ty',pos',aft',gp⟩::l)
  (hj:(all[j]?).bind (·.dst)=some c) (hc:look env c=some (.lit (.bool b))) (hg:GV all j true [] (l1.take k)=true) (hk:Zu (UO (l1.take k)) env=true)
  (hgp:∀env':Ev,(∀t v,look env t=some v->look env' t=some v)->ZJ all env' ⟨some dp,.pick (.tmp c) y (.const (.bool false)),ty',pos',aft',gp⟩=some true)
  (hT:b=true->SR P n nb0 all (l1.take k) (l1.drop k++l2) (zJp jj env st y x) env st) (hF:b=false->x=false) (h:SR P n nb0 all l l2 K ((dp,.lit (.bool x))::env) (st++List.replicate jj none)):SR P n nb0 all l1 l2 K env st:=by
 refine zwn k ?_;rw [hl]
 cases b with
 |true =>
  refine zAd (by rw [<-hl];exact hT rfl) ?_;rintro env' st' ⟨h5,h6,h2,h3⟩;refine zGF st.length ?_ (by rw [Nat.ble_eq];omega);rw [h5,show st'.length-st.length=jj by omega];refine G1 (hgp env' h2) ?_;unfold SOp;simp only [ZO,aop];have:ev env' (.tmp c)=some (.lit (.bool true)):=h2 c _ hc;rw [this,h3];simp only [QM,aput];refine Ds (λt v ht=>?_) h;simp only [look] at ht ⊢;split
  .rename_i e;rw [if_pos e] at ht;exact ht
  .rename_i e;rw [if_neg e] at ht;exact h2 t v ht
 |false =>
  have hout:∀t v,look env t=some v->look (K8 env (l1.take k)) t=some v:=λt v ht=>by
   rw [OI (Gj hk ht)];exact ht
  have:=I3 (P:=P) (n:=n) (nb0:=nb0) (l2:=l1.drop k++l2) (K:=λenv st=>SR P n nb0 all (l1.drop k) l2 K env st) (st:=st) (l1:=[]) hj (l1.take k) hg (λ_ h=>by cases h) (Gj hk hc) (λh=>by cases h) hc rfl ?_
  .rw [Qx] at this;rwa [hl] at this
  refine zw ?_;refine zI1 jj ?_;rw [hl];refine G1 (hgp _ hout) ?_;unfold SOp;simp only [ZO,aop];have:ev (K8 env (l1.take k)) (.tmp c)=some (.lit (.bool false)):=hout c _ hc;rw [this];simp only [ev,QM,aput];rw [hF rfl] at h;refine Ds (λt v ht=>?_) h;simp only [look] at ht ⊢;split
  .rename_i e;rw [if_pos e] at ht;exact ht
  .rename_i e;rw [if_neg e] at ht;exact hout t v ht
theorem ID(k jj:Nat){dp c:Nat}{y:Operand}{ty':TypeId}{pos':String}{aft':Array Edge}{gp:Option (Nat×Bool)}{j:Nat}{b x:Bool}{l:List Oper}(hl:l1.drop k=⟨some dp,.pick (.tmp c) (.const (.bool true)) y,ty',pos',aft',gp⟩::l)
  (hj:(all[j]?).bind (·.dst)=some c) (hc:look env c=some (.lit (.bool b))) (hg:GV all j false [] (l1.take k)=true) (hk:Zu (UO (l1.take k)) env=true)
  (hgp:∀env':Ev,(∀t v,look env t=some v->look env' t=some v)->ZJ all env' ⟨some dp,.pick (.tmp c) (.const (.bool true)) y,ty',pos',aft',gp⟩=some true)
  (hF:b=false->SR P n nb0 all (l1.take k) (l1.drop k++l2) (zJp jj env st y x) env st) (hT:b=true->x=true) (h:SR P n nb0 all l l2 K ((dp,.lit (.bool x))::env) (st++List.replicate jj none)):SR P n nb0 all l1 l2 K env st:=by
 refine zwn k ?_;rw [hl]
 cases b with
 |false =>
  refine zAd (by rw [<-hl];exact hF rfl) ?_;rintro env' st' ⟨h5,h6,h2,h3⟩;refine zGF st.length ?_ (by rw [Nat.ble_eq];omega);rw [h5,show st'.length-st.length=jj by omega];refine G1 (hgp env' h2) ?_;unfold SOp;simp only [ZO,aop];have:ev env' (.tmp c)=some (.lit (.bool false)):=h2 c _ hc;rw [this,h3];simp only [QM,aput];refine Ds (λt v ht=>?_) h;simp only [look] at ht ⊢;split
  .rename_i e;rw [if_pos e] at ht;exact ht
  .rename_i e;rw [if_neg e] at ht;exact h2 t v ht
 |true =>
  have hout:∀t v,look env t=some v->look (K8 env (l1.take k)) t=some v:=λt v ht=>by
   rw [OI (Gj hk ht)];exact ht
  have:=I3 (P:=P) (n:=n) (nb0:=nb0) (l2:=l1.drop k++l2) (K:=λenv st=>SR P n nb0 all (l1.drop k) l2 K env st) (st:=st) (l1:=[]) hj (l1.take k) hg (λ_ h=>by cases h) (Gj hk hc) (λh=>by cases h) hc rfl ?_
  .rw [Qx] at this;rwa [hl] at this
  refine zw ?_;refine zI1 jj ?_;rw [hl];refine G1 (hgp _ hout) ?_;unfold SOp;simp only [ZO,aop];have:ev (K8 env (l1.take k)) (.tmp c)=some (.lit (.bool true)):=hout c _ hc;rw [this];simp only [ev,QM,aput];rw [hT rfl] at h;refine Ds (λt v ht=>?_) h;simp only [look] at ht ⊢;split
  .rename_i e;rw [if_pos e] at ht;exact ht
  .rename_i e;rw [if_neg e] at ht;exact hout t v ht
theorem rg{id:Nat}{ops:Array Oper}{y:Code}{Q:Exit->Ev->St->Prop}(hd:ops.toList.all (λo=>o.dst.all (·<n))=true)(h:SR P n nb0 ops.toList ops.toList [] (λenv st=>SW P n nb0 y Q env st) env st):
  SW P n nb0 (.seq (.region id ops false) y) Q env st:=by
 refine ze ?_;intro A m w a h0 hR hE;refine wp_region ?_
 have:=h ops 0 rfl (by simp) hd A m w a h0 hR hE (λe a' w'=>Ku A m nb0 w n (IJ (SW P n nb0 y Q) Q e) a' w') λa' w' ho=>by
  simp only [Q3,List.range'_zero,wpOps];exact ho
 rw [J7,show ops.size=ops.toList.length by simp];simpa using this
theorem rl{id:Nat}{ops:Array Oper}{Q:Exit->Ev->St->Prop}(hd:ops.toList.all (λo=>o.dst.all (·<n))=true)(h:SR P n nb0 ops.toList ops.toList [] (Q .normal) env st):
  SW P n nb0 (.region id ops false) Q env st:=by
 intro A m w a h0 hR hE;refine wp_region ?_
 have:=h ops 0 rfl (by simp) hd A m w a h0 hR hE (λe a' w'=>Ku A m nb0 w n (Q e) a' w') λa' w' ho=>by
  simpa [wpOps] using ho
 rw [J7,show ops.size=ops.toList.length by simp];simpa using this
end
abbrev zL(S U R:Type):Type:=Option (Sum S (Sum U R))
theorem skF{P:Program}{n nb0:Nat}{all l1 l2:List Oper}{K:Ev->St->Prop}{env:Ev}{st:St}{d:Option Nat}{op:Op}{ty:TypeId}{pos:String}{aft:Array Edge}{j:Nat}{want:Bool}(hv:Gn all j env=some (.lit (.bool (!want))))
  (h:SR P n nb0 all l1 l2 K (aput d (.lit undef) env) st):SR P n nb0 all (⟨d,op,ty,pos,aft,some (j,want)⟩::l1) l2 K env st:=zGG (by rw [zqU hv];cases want <;> rfl) h
mutual
def GR:AV->Bool
 |.any=>true
 |.lit _=>true
 |.isl _ _=>true
 |.ipt _ _ _ _=>true
 |.imp _=>true
 |.mmp _=>false
 |.msl _ _ _=>false
 |.mpt _ _ _=>false
 |.agg cs=>Zm cs
 |.tup cs=>Zm cs
 |.fn _ a b=>Zm a&&Zm b
def Zm:List AV->Bool
 | []=>true
 |x ::l=>GR x&&Zm l
end
theorem Dl.mem{l:List AV}(h:Dl l):∀x∈l,Imm x:=by
 induction h with
 |nil=>exact λx hx=>by cases hx
 |cons h _ ih =>
  intro x hx
  rcases Qu.1 hx with h1 |h1
  .exact h1 ▸ h
  .exact ih x h1
mutual
theorem Ol:∀{x:AV},GR x=true->Imm x
 |.any,_=>.any
 |.lit v,_=>.lit v
 |.isl k e,_=>.isl k e
 |.ipt k e i j,_=>.ipt k e i j
 |.imp e,_=>.imp e
 |.mmp _,h=>by cases h
 |.msl _ _ _,h=>by cases h
 |.mpt _ _ _,h=>by cases h
 |.agg cs,h=>.agg cs (Uk h).mem
 |.tup cs,h=>.tup cs (Uk h).mem
 |.fn f a b,h=>.fn f a b (Uk (QX.1 h).1).mem (Uk (QX.1 h).2).mem
theorem Uk:∀{l:List AV},Zm l=true->Dl l
 | [],_=>.nil
 |x ::l,h=>.cons (Ol (QX.1 h).1) (Uk (QX.1 h).2)
end
inductive Src where
 |old (l:Nat)
 |dead
 |fresh (k:Nat)
instance{n:Nat}:OfNat Src n:=⟨.old n⟩
abbrev Xv:=List Src
def XV(L:Xv)(l:Nat):Option Nat:=match L[l]? with |some (.old x)=>some x |_=>none
def UH(L:Xv)(x:Nat):Bool:=match L with | []=>false |.old y ::r=>Nat.beq y x||UH r x |_ ::r=>UH r x
theorem zvW:∀{L:Xv} {l x:Nat},XV L l=some x->UH L x=true
 | [],l,x,h=>by simp [XV] at h
 |s ::L,0,x,h=>by
  cases s with
  |old y=>simp [XV] at h;subst h;simp [UH]
  |dead=>simp [XV] at h
  |fresh k=>simp [XV] at h
 |s ::L,l+1,x,h=>by
  have:=zvW (L:=L) (l:=l) (x:=x) (by simpa [XV] using h);cases s <;> simp [UH,this]
inductive Rs(st:St)(L:Xv):AV->AV->Prop
 |any (x):Rs st L .any x
 |imm {x} (h:Imm x):Rs st L x x
 |nil {k:Nat}:Rs st L (.isl k []) (.lit (.slice none 0 0))
 |nilown {l k:Nat} (h:L[l]?=some (.fresh k)):Rs st L (.msl l 0 0) (.lit (.slice none 0 0))
 |msl {l l' i n:Nat} (h:XV L l=some l'):Rs st L (.msl l i n) (.msl l' i n)
 |mpt {l l' i j:Nat} (h:XV L l=some l'):Rs st L (.mpt l i j) (.mpt l' i j)
 |mmp {l l':Nat} (h:XV L l=some l'):Rs st L (.mmp l) (.mmp l')
 |sl {l i n k:Nat} {els els':List (List AV)} (hD:UH L l=false) (h:st[l]?=some (some (k,els))) (hin:i+n≤els.length) (hl:els'.length=n) (hi:∀r∈els',∀x∈r,Imm x)
   (hrl:∀q (h:q<n) (h1:i+q<els.length) (h2:q<els'.length),els[i+q].length=els'[q].length)
   (hr:∀q (h:q<n) (h1:i+q<els.length) (h2:q<els'.length) j (h3:j<els[i+q].length) (h4:j<els'[q].length),Rs st L els'[q][j] els[i+q][j]):
   Rs st L (.isl k els') (.msl l i n)
 |slp {l i j k:Nat} {els els':List (List AV)} (hD:UH L l=false) (h:st[l]?=some (some (k,els))) (hl:els'.length=els.length) (hi:∀r∈els',∀x∈r,Imm x)
   (hrl:∀q (h1:q<els.length) (h2:q<els'.length),els[q].length=els'[q].length)
   (hr:∀q (h1:q<els.length) (h2:q<els'.length) j (h3:j<els[q].length) (h4:j<els'[q].length),Rs st L els'[q][j] els[q][j]):
   Rs st L (.ipt k els' i j) (.mpt l i j)
 |sm {l:Nat} {els els':List (List AV)} (hD:UH L l=false) (h:st[l]?=some (some (2,els))) (hl:els'.length=els.length) (hi:∀r∈els',∀x∈r,Imm x)
   (hrl:∀q (h1:q<els.length) (h2:q<els'.length),els[q].length=els'[q].length)
   (hr:∀q (h1:q<els.length) (h2:q<els'.length) j (h3:j<els[q].length) (h4:j<els'[q].length),Rs st L els'[q][j] els[q][j]):
   Rs st L (.imp els') (.mmp l)
 |agg {cs cs':List AV} (hl:cs.length=cs'.length) (hr:∀i (h:i<cs.length) (h':i<cs'.length),Rs st L cs[i] cs'[i]):Rs st L (.agg cs) (.agg cs')
 |tup {cs cs':List AV} (hl:cs.length=cs'.length) (hr:∀i (h:i<cs.length) (h':i<cs'.length),Rs st L cs[i] cs'[i]):Rs st L (.tup cs) (.tup cs')
 |fn {f:Fn} {cs cs' ds ds':List AV} (hl:cs.length=cs'.length) (hr:∀i (h:i<cs.length) (h':i<cs'.length),Rs st L cs[i] cs'[i])
   (hl':ds.length=ds'.length) (hr':∀i (h:i<ds.length) (h':i<ds'.length),Rs st L ds[i] ds'[i]):Rs st L (.fn f cs ds) (.fn f cs' ds')
def B8(st:St)(L:Xv)(els0 els:List (List AV)):Prop:=
 els0.length=els.length/\∀i (h:i<els0.length) (h':i<els.length),els0[i].length=els[i].length/\∀j (h1:j<els0[i].length) (h2:j<els[i].length),Rs st L els0[i][j] els[i][j]
structure GT(L:Xv)(st0 st:St):Prop where
 live:∀(l l':Nat),XV L l=some l'->∃k els0 els,st0[l]?=some (some (k,els0))/\st[l']?=some (some (k,els))/\B8 st L els0 els
 all:∀(l k:Nat) els0,st0[l]?=some (some (k,els0))->(∃l',XV L l=some l')∨(L[l]?=some (Src.fresh k)/\els0=[])
 new:∀(l k:Nat),L[l]?=some (Src.fresh k)->st0[l]?=some (some (k,[]))
 inj:∀l1 l2 x,XV L l1=some x->XV L l2=some x->l1=l2
def Dd(A:Nat->Prop)(m:BM)(L:Xv):Nat->Prop:=λB=>A B∨∃l b,m l=some b/\b.has=true/\b.B=B/\UH L l=false
def Km(m:BM)(L:Xv):BM:=λl=>match L[l]? with |some (.old x)=>m x |some (.fresh k)=>some ⟨false,0,0,k,0,false⟩ |_=>none
theorem zs1{m:BM}{L:Xv}{l x:Nat}(h:XV L l=some x):Km m L l=m x:=by
 unfold XV at h;unfold Km;split at h
 .rename_i y hy;cases h;rw [hy]
 .cases h
theorem zBk{m:BM}{L:Xv}{l k:Nat}(h:L[l]?=some (.fresh k)):Km m L l=some ⟨false,0,0,k,0,false⟩:=by unfold Km;rw [h]
theorem zs0{m:BM}{L:Xv}{l:Nat}{b:Blk}(h:Km m L l=some b)(hh:b.has=true):∃x,XV L l=some x/\m x=some b:=by
 unfold Km at h;split at h
 .rename_i y hy;exact ⟨y,by unfold XV;rw [hy],h⟩
 .cases h;cases hh
 .cases h
theorem Rs.v{A:Nat->Prop}{m:BM}{w:World}{st st0:St}{L:Xv}(hR:R A m w st)(hs:GT L st0 st){x y:AV}(h:Rs st L x y):∀{v},V A m st.length w y v->V (Dd A m L) (Km m L) st0.length w x v:=by
 have hA':∀B,A B->Dd A m L B:=λB h=>.inl h
 induction h with
 |any x=>exact λ{v} _=>.imm (.any v)
 |imm h=>exact λ{v} hv=>.imm ((h.vi hv).widen hA')
 |nil=>intro v hv;rw [hv.lit_inv];exact .imm (.inil _ _ _)
 | @nilown l k h =>
  intro v hv;rw [hv.lit_inv];have h1:=hs.new l k h;exact .msl _ _ _ _ _ _ (Qb.1 h1).1 λb hb=>⟨rfl,Qg _,.inl rfl⟩
 | @msl l l' i n h =>
  intro v hv;obtain ⟨hl,a,n',cap,rfl,hb⟩:=hv.msl_inv;obtain ⟨_,_,_,h1,_,_⟩:=hs.live l l' h;exact .msl _ _ _ _ _ _ (Qb.1 h1).1 λb hb'=>hb b ((zs1 (m:=m) h).symm.trans hb')
 | @mpt l l' i j h =>
  intro v hv;obtain ⟨hl,a,rfl,hb⟩:=hv.mpt_inv;obtain ⟨_,_,_,h1,_,_⟩:=hs.live l l' h;exact .mpt _ _ _ _ (Qb.1 h1).1 λb hb'=>hb b ((zs1 (m:=m) h).symm.trans hb')
 | @mmp l l' h =>
  intro v hv;obtain ⟨hl,a,rfl,hb⟩:=hv.mmp_inv;obtain ⟨_,_,_,h1,_,_⟩:=hs.live l l' h;exact .mmp _ _ (Qb.1 h1).1 λb hb'=>hb b ((zs1 (m:=m) h).symm.trans hb')
 | @sm l els els' hD h hl hi hrl hr ih =>
  intro v hv;obtain ⟨hlt,a,rfl,hb⟩:=hv.mmp_inv;obtain ⟨b,h1,h2,h3,h4⟩:=hR.blk l 2 els h;obtain ⟨h6,hm6,rfl⟩:=hb b h1;obtain ⟨h0,es,clock,h7,h8,h9⟩:=(h3 h6).mval hm6;have hw:=(h3 h6).wide
  exact .imm (.imp els' b.B es clock (.inr ⟨l,b,h1,h6,rfl,hD⟩) h7 (by omega) (λq hq=>by rw [<-hrl q (by omega) hq,hw q (by omega),h0])
   (λq hq j hj=>(hi _ (Qi hq) _ (Qi hj)).vi (ih q (by omega) hq j (by rw [hrl q (by omega) hq];exact hj) hj (h9 q (by omega) j (by rw [hrl q (by omega) hq];exact hj)))))
 | @sl l i n k els els' hD h hin hl hi hrl hr ih =>
  intro v hv;obtain ⟨hlt,a,n',cap,rfl,hb⟩:=hv.msl_inv;obtain ⟨b,h1,h2,h3,h4⟩:=hR.blk l k els h;obtain ⟨rfl,hcap,hc⟩:=hb b h1
  rcases hc with h5 |⟨h6,hm6,rfl,hfit⟩
  .have h0:n'=0:=by omega
   subst h0;obtain rfl:els'=[]:=Qf hl;exact .imm (.inil _ _ _)
  .have hok:=(h3 h6).cells hm6;subst h2
   have hcell:∀q j,q<els'.length->j<b.k->∃u,w.cell? ⟨b.B,b.o+i*b.k+q*b.k+j,none⟩=some u/\∀(h4:q<els'.length) (h5:j<els'[q].length),VI (Dd A m L) w els'[q][j] u:=λq j hq hj=>by
    have hq1:i+q<els.length:=by omega
    have hj1:j<els[i+q].length:=by rw [hok.wide _ hq1];exact hj
    obtain ⟨u,h8,h9⟩:=hok.val (i+q) hq1 j hj1;refine ⟨u,by rw [<-h8];congr 2;rw [QQ];omega,λh10 h11=>?_⟩;exact (hi _ (Qi h10) _ (Qi h11)).vi (ih q (by omega) hq1 h10 j hj1 h11 h9)
   have hw':∀q (hq:q<els'.length),els'[q].length=b.k:=λq hq=>by
    rw [<-hrl q (by omega) (by omega) hq];exact hok.wide _ (by omega)
   have:=VI.isl (A:=Dd A m L) (w:=w) b.k els' b.B (b.o+i*b.k) cap (λq j=>(w.cell? ⟨b.B,b.o+i*b.k+q*b.k+j,none⟩).getD undef) (.inr ⟨l,b,h1,h6,rfl,hD⟩) (by omega) hw'
    (λq j hq hj=>by obtain ⟨u,h8,_⟩:=hcell q j hq hj;rw [h8];rfl)
    (λq hq j hj=>by
     obtain ⟨u,h8,h9⟩:=hcell q j hq (by rw [<-hw' q hq];exact hj);show VI _ w _ ((w.cell? _).getD undef)
     rw [h8];exact h9 hq hj)
   rw [hl] at this;exact .imm this
 | @slp l i j k els els' hD h hl hi hrl hr ih =>
  intro v hv;obtain ⟨hlt,a,rfl,hb⟩:=hv.mpt_inv;obtain ⟨b,h1,h2,h3,h4⟩:=hR.blk l k els h;obtain ⟨h6,hm6,rfl⟩:=hb b h1;have hok:=(h3 h6).cells hm6;subst h2
  have hcell:∀q j,q<els'.length->j<b.k->∃u,w.cell? ⟨b.B,b.o+q*b.k+j,none⟩=some u/\∀(h4:q<els'.length) (h5:j<els'[q].length),VI (Dd A m L) w els'[q][j] u:=λq j hq hj=>by
   have hq1:q<els.length:=by omega
   have hj1:j<els[q].length:=by rw [hok.wide _ hq1];exact hj
   obtain ⟨u,h8,h9⟩:=hok.val q hq1 j hj1;exact ⟨u,h8,λh10 h11=>(hi _ (Qi h10) _ (Qi h11)).vi (ih q hq1 h10 j hj1 h11 h9)⟩
  have hw':∀q (hq:q<els'.length),els'[q].length=b.k:=λq hq=>by
   rw [<-hrl q (by omega) hq];exact hok.wide _ (by omega)
  exact .imm (VI.ipt (A:=Dd A m L) (w:=w) b.k els' i j b.B b.o (λq j=>(w.cell? ⟨b.B,b.o+q*b.k+j,none⟩).getD undef) (.inr ⟨l,b,h1,h6,rfl,hD⟩) hw'
   (λq j hq hj=>by obtain ⟨u,h8,_⟩:=hcell q j hq hj;rw [h8];rfl)
   (λq hq j hj=>by
    obtain ⟨u,h8,h9⟩:=hcell q j hq (by rw [<-hw' q hq];exact hj);show VI _ w _ ((w.cell? _).getD undef)
    rw [h8];exact h9 hq hj))
 |agg hl hr ih =>
  intro v hv;obtain ⟨a,rfl,h1,h2⟩:=hv.agg_inv;exact .agg _ _ (by omega) λi hi=>ih i hi (by omega) (h2 i (by omega))
 |tup hl hr ih =>
  intro v hv;obtain ⟨a,rfl,h1,h2⟩:=hv.tup_inv;exact .tup _ _ (by omega) λi hi=>ih i hi (by omega) (h2 i (by omega))
 |fn hl hr hl' hr' ih ih' =>
  intro v hv;obtain ⟨a,b,rfl,⟨h1,h2⟩,⟨h3,h4⟩⟩:=hv.fn_inv;exact .fn _ _ _ _ _ (by omega) (λi hi=>ih i hi (by omega) (h2 i (by omega))) (by omega) λi hi=>ih' i hi (by omega) (h4 i (by omega))
theorem R.rs{A:Nat->Prop}{m:BM}{w:World}{st st0:St}{L:Xv}(hR:R A m w st)(h:GT L st0 st):R (Dd A m L) (Km m L) w st0:=by
 refine ⟨λB hB=>?_,λB l b hA hb hh=>?_,λl1 l2 b1 b2 h1 h2 hh1 hh2 he=>?_,λl b hb=>?_,λl k els0 he=>?_⟩
 .rcases hB with h1 |⟨l,b,h1,h2,rfl,_⟩
  .exact hR.aLow B h1
  .exact hR.low h1 h2
 .obtain ⟨x,h1,h2⟩:=zs0 hb hh
  rcases hA with h3 |⟨l3,b3,h3,h4,rfl,h5⟩
  .exact hR.aOwn B x b h3 h2 hh
  .intro e;have:=hR.inj x l3 b b3 h2 h3 hh h4 e;subst this;rw [zvW h1] at h5;cases h5
 .obtain ⟨x1,k1,k2⟩:=zs0 h1 hh1;obtain ⟨x2,k3,k4⟩:=zs0 h2 hh2;have:=hR.inj x1 x2 b1 b2 k2 k4 hh1 hh2 he;subst this;exact h.inj l1 l2 x1 k1 k3
 .unfold Km at hb;split at hb
  .rename_i x hx;obtain ⟨k,els0,els,h3,h4,_⟩:=h.live l x (by unfold XV;rw [hx]);exact ⟨els0,by rw [h3];rw [(hR.at hb h4).1]⟩
  .rename_i k hx;cases hb;exact ⟨[],h.new l k hx⟩
  .cases hb
 .rcases h.all l k els0 he with ⟨l',h1⟩ |⟨h1,rfl⟩
  .obtain ⟨k',els0',els,h3,h4,h5⟩:=h.live l l' h1;rw [he] at h3;cases h3;obtain ⟨b,h6,h7,h8,h9⟩:=hR.blk l' k els h4;refine ⟨b,by rw [zs1 h1];exact h6,h7,λhh=>?_,λhh=>?_⟩
   .exact (h8 hh).rel h5.1 λi hi hi'=>⟨(h5.2 i hi hi').1,λj hj hj' v hv=>((h5.2 i hi hi').2 j hj hj').v hR h hv⟩
   .have:=h9 hh;subst this;exact Qf h5.1
  .exact ⟨_,zBk h1,rfl,(λhh=>by cases hh),λ_=>rfl⟩
def GS(nb0:Nat)(L:Xv):Bool:=(List.range nb0).all λl=>match L[l]? with |some (.old x)=>Nat.beq x l |some (.fresh _)=>false |_=>true
theorem zCV{nb0:Nat}{L:Xv}(h:GS nb0 L=true){l:Nat}(hl:l<nb0)(m:BM):Km m L l=m l∨Km m L l=none:=by
 have h1:=(Qp.1 h) l (JF.2 hl);unfold Km
 cases hL:L[l]? with
 |none=>exact .inr rfl
 |some s =>
  rw [hL] at h1
  cases s with
  |old x=>simp at h1;subst h1;exact .inl rfl
  |dead=>exact .inr rfl
  |fresh k=>cases h1
theorem Xr.rs{A m nb0 w A' m' nb' w' st0 st'}{L:Xv}(h:GT L st0 st')(hS:Xr A m nb0 w A' m' nb' w')(hid:GS nb0 L=true)(hn:nb0≤st0.length):Xr A m nb0 w (Dd A' m' L) (Km m' L) st0.length w':=by
 refine ⟨hn,hS.size,λB hB=>.inl (hS.aSub B hB),λB hB=>?_,λl hl=>?_,λl b hb hh=>?_,hS.heap,hS.os,hS.tape,hS.output⟩
 .rcases hB with h1 |⟨l,b,h1,h2,rfl,_⟩
  .exact hS.aNew B h1
  .rcases hS.mNew l b h1 h2 with h3 |h3
   .exact .inr (.inl h3)
   .exact .inr (.inr h3)
 .rcases zCV hid hl m' with h1 |h1
  .rw [h1];exact hS.mOld l hl
  .exact .inr h1
 .obtain ⟨x,h1,h2⟩:=zs0 hb hh;exact hS.mNew x b h2 hh
def Ua(st:St)(L:Xv):Ev->Ev->Prop
 | [],_=>True
 |(t,v0)::r,env=>(∃v,look env t=some v/\Rs st L v0 v)/\Ua st L r env
theorem Ua.get{st L}:∀{env0 env:Ev},Ua st L env0 env->∀t v0,look env0 t=some v0->∃v,look env t=some v/\Rs st L v0 v
 | [],_,_,t,v0,h=>by cases h
 |(k,x)::r,env,h,t,v0,hl=>by
  simp only [look] at hl;split at hl
  .rename_i e;subst e;cases hl;exact h.1
  .exact Ua.get h.2 t v0 hl
theorem Env.rs{A m w st st0 n env0 env a}{L:Xv}(hR:R A m w st)(hs:GT L st0 st)(hE:Env A m st.length w n env a)(he:Ua st L env0 env):Env (Dd A m L) (Km m L) st0.length w n env0 a:=
 ⟨hE.size,λt v0 hl=>by
  obtain ⟨v,h1,h2⟩:=he.get t v0 hl;obtain ⟨h3,h4⟩:=hE.val t v h1
  exact ⟨h3,h2.v hR hs h4⟩,hE.defers⟩
def UR(st:St)(L:Xv):Xv->St->Prop
 | [],[]=>True
 |.dead ::r,none ::s=>UR st L r s
 |.fresh k ::r,some (k',els)::s=>(k'=k/\els=[])/\UR st L r s
 |.old x ::r,some (k,els0)::s=>(∃els,st[x]?=some (some (k,els))/\B8 st L els0 els)/\UR st L r s
 |_,_=>False
theorem UR.at{st:St}{L:Xv}:∀{r:Xv} {s:St},UR st L r s->∀l:Nat,
  (∀x,r[l]?=some (.old x)->∃k els0 els,s[l]?=some (some (k,els0))/\st[x]?=some (some (k,els))/\B8 st L els0 els) /\
  (∀k,r[l]?=some (.fresh k)->s[l]?=some (some (k,[])))/\(∀k els0,s[l]?=some (some (k,els0))->(∃x,r[l]?=some (.old x))∨(r[l]?=some (.fresh k)/\els0=[]))
 | [],[],_,l=>by simp
 | [],_ :: _,h,_=>by cases h
 |.dead :: _,[],h,_=>by cases h
 |.dead :: _,some _ :: _,h,_=>by cases h
 |.fresh _ :: _,[],h,_=>by cases h
 |.fresh _ :: _,none :: _,h,_=>by cases h
 |.old _ :: _,[],h,_=>by cases h
 |.old _ :: _,none :: _,h,_=>by cases h
 |.dead ::r,none ::s,h,l=>by
  cases l with
  |zero=>simp
  |succ l=>simpa using UR.at (r:=r) (s:=s) h l
 |.fresh k ::r,some (k',els)::s,h,l=>by
  obtain ⟨⟨rfl,rfl⟩,h2⟩:=h
  cases l with
  |zero=>simp
  |succ l=>simpa using UR.at (r:=r) (s:=s) h2 l
 |.old x ::r,some (k,els0)::s,h,l=>by
  obtain ⟨⟨els,h1,h3⟩,h2⟩:=h
  cases l with
  |zero =>
   refine ⟨λy hy=>?_,λk' hk=>by simp at hk,λk' e' he'=>.inl ⟨x,by simp⟩⟩;simp at hy;subst hy;exact ⟨k,els0,els,by simp,h1,h3⟩
  |succ l=>simpa using UR.at (r:=r) (s:=s) h2 l
def Uw:Xv->Bool
 | []=>true
 |.old x ::r=>(!UH r x)&&Uw r
 |_ ::r=>Uw r
theorem zxw:∀{L:Xv},Uw L=true->∀l1 l2 x,XV L l1=some x->XV L l2=some x->l1=l2
 | [],_,l1,_,x,h,_=>by simp [XV] at h
 |s ::L,h,l1,l2,x,h1,h2=>by
  have hL:Uw L=true:=by cases s <;> simp [Uw] at h <;> first |exact h.2 |exact h
  cases l1 with
  |zero =>
   cases l2 with
   |zero=>rfl
   |succ l2 =>
    cases s with
    |old y =>
     simp [XV] at h1;subst h1;have:=zvW (L:=L) (l:=l2) (x:=y) (by simpa [XV] using h2);simp [Uw,this] at h
    |dead=>simp [XV] at h1
    |fresh k=>simp [XV] at h1
  |succ l1 =>
   cases l2 with
   |zero =>
    cases s with
    |old y =>
     simp [XV] at h2;subst h2;have:=zvW (L:=L) (l:=l1) (x:=y) (by simpa [XV] using h1);simp [Uw,this] at h
    |dead=>simp [XV] at h2
    |fresh k=>simp [XV] at h2
   |succ l2=>rw [zxw hL l1 l2 x (by simpa [XV] using h1) (by simpa [XV] using h2)]
theorem GT.of{L:Xv}{st0 st:St}(ho:Uw L=true)(h:UR st L L st0):GT L st0 st where
 live:=λl l' hl=>by
  unfold XV at hl;split at hl
  .rename_i x hx;cases hl;exact (h.at l).1 _ hx
  .cases hl
 all:=λl k els0 he=>by
  rcases (h.at l).2.2 k els0 he with ⟨x,hx⟩ |h1
  .exact .inl ⟨x,by unfold XV;rw [hx]⟩
  .exact .inr h1
 new:=λl k hk=>(h.at l).2.1 k hk
 inj:=zxw ho
def Can(nb0:Nat)(env0:Ev)(st0:St)(env:Ev)(st:St):Prop:=
 ∃L:Xv,Ua st L env0 env/\Uw L=true/\UR st L L st0/\GS nb0 L=true/\nb0≤st0.length
section
variable {P : Program} {n nb0 : Nat} {env env0 : Ev} {st st0 : St}
theorem Wz{c:Code}{Q:Exit->Ev->St->Prop}(hc:Can nb0 env0 st0 env st)(h:SW P n nb0 c Q env0 st0):SW P n nb0 c Q env st:=by
 obtain ⟨L,h1,h2,h3,h4,h5⟩:=hc;intro A m w a h0 hR hE;have hs:=GT.of h2 h3;exact wp_mono (h _ _ w a h5 (hR.rs hs) (hE.rs hR hs h1)) λ_ _ _ k=>k.trans ((Xr.refl0 A m st.length w h0).rs hs h4 h5)
theorem zu{all l1 l2:List Oper}{K:Ev->St->Prop}(hc:Can nb0 env0 st0 env st)(h:SR P n nb0 all l1 l2 K env0 st0):SR P n nb0 all l1 l2 K env st:=by
 obtain ⟨L,h1,h2,h3,h4,h5⟩:=hc;intro ops i ho hd hn A m w a h0 hR hE Q hQ;have hs:=GT.of h2 h3;exact h ops i ho hd hn _ _ w a h5 (hR.rs hs) (hE.rs hR hs h1) Q λa' w' k=>hQ a' w' (k.trans ((Xr.refl0 A m st.length w h0).rs hs h4 h5))
theorem Xz{x y:Code}{Q:Exit->Ev->St->Prop}{X:Type}(E:X->Ev)(S:X->St)(I:X->Prop)
  (h:SW P n nb0 x (IJ (λenv st=>∃z,I z/\Can nb0 (E z) (S z) env st) Q) env st) (k:∀z,I z->SW P n nb0 y Q (E z) (S z)):SW P n nb0 (.seq x y) Q env st:=
 ze (h.mono λe env st h=>by cases e <;> first |(obtain ⟨z,h1,h2⟩:=h;exact Wz h2 (k z h1)) |exact h)
def LQ(id:Nat){X B R:Type}(nb0:Nat)(E:X->Ev)(S:X->St)(E':B->Ev)(S':B->St)(post:R->Ev->St->Prop)(o:Sum X (Sum B R)):Exit->Ev->St->Prop
 |.normal,env,st=>∃z,o=.inl z/\Can nb0 (E z) (S z) env st
 |.exit i,env,st=>i=id/\∃b,o=.inr (.inl b)/\Can nb0 (E' b) (S' b) env st
 |.ret,env,st=>∃r,o=.inr (.inr r)/\post r env st
 |_,_,_=>False
theorem zJP{id:Nat}{c y:Code}{Q:Exit->Ev->St->Prop}{X B R:Type}(E:X->Ev)(S:X->St)(E':B->Ev)(S':B->St)(post:R->Ev->St->Prop){body:X->Option (Sum X (Sum B R))}{z0:X}{o:Sum B R}
  (ho:zk body z0=some o) (hc:Can nb0 (E z0) (S z0) env st) (round:∀z r,body z=some r->SW P n nb0 c (LQ id nb0 E S E' S' post r) (E z) (S z))
  (hb:∀b,o=.inl b->SW P n nb0 y Q (E' b) (S' b)) (hr:∀r,o=.inr r->∀env st,post r env st->Q .ret env st):SW P n nb0 (.seq (.block id (.loop c)) y) Q env st:=by
 obtain ⟨N,hN⟩:=Ok ho;refine ze (zh (zze (λk env st=>∃z,ZR body k z=some o/\Can nb0 (E z) (S z) env st) N ⟨z0,hN,hc⟩ ?_));rintro k env st ⟨z,hz,hcan⟩
 cases k with
 |zero=>cases hz
 |succ k =>
  unfold ZR at hz
  cases hbz:body z with
  |none=>rw [hbz] at hz;cases hz
  |some r =>
   rw [hbz] at hz;refine Wz hcan ((round z r hbz).mono λe env st h=>?_)
   cases e with
   |normal =>
    obtain ⟨z',rfl,h2⟩:=h;exact ⟨k,QS k,z',hz,h2⟩
   |exit i =>
    obtain ⟨rfl,b,rfl,h2⟩:=h;show WA i _ (.exit i) env st;simp only [WA,if_true];exact Wz h2 (hb b (sm hz).symm)
   |ret =>
    obtain ⟨r',rfl,h2⟩:=h;exact hr r' (sm hz).symm env st h2
   |goto l=>exact h.elim
   |panic c=>exact h.elim
   |outgrown=>exact h.elim
end
def Xf(s:List UInt8):List AV:=[.lit (.string (B s))]
def rI(k:IntKind)(n:Int):List AV:=[.lit (.int k n)]
def rB(b:Bool):List AV:=[.lit (.bool b)]
def rL{α:Type}(k:Nat)(f:α->List AV)(l:List α):List AV:=[.isl k (l.map f)]
def zIj(nb0:Nat)(av0:AV)(st0:St)(av:AV)(st:St):Prop:=
 ∃L:Xv,Rs st L av0 av/\Uw L=true/\UR st L L st0/\GS nb0 L=true/\nb0≤st0.length
def U0(P:Program)(fn:Func)(nb0:Nat)(av0:AV)(st0:St)(env:Ev)(st:St):Prop:=∃av,Ht P fn env st=some av/\zIj nb0 av0 st0 av st
def QF(P:Program)(fn:Func)(nb0:Nat)(av0:AV)(st0:St):Exit->Ev->St->Prop
 |.normal,env,st=>U0 P fn nb0 av0 st0 env st
 |.ret,env,st=>U0 P fn nb0 av0 st0 env st
 |_,_,_=>False
theorem zR {P : Program} {f : FuncId} {fn : Func} {c : Code} {args : List AV} {st : St} {av0 : AV} {st0 : St} (hf : P.funcs[f]? = some fn) (hb : fn.body = some c) (hn : (fn.name == "runtime.NumGoroutine") = false) (hlen : Nat.ble args.length fn.ntmps = true)
  (h:SW P fn.ntmps st.length c (QF P fn st.length av0 st0) (HM 0 args) st):UZ P f args st (λav st'=>av=av0/\st'=st0):=by
 have h1:=zvk (K:=λav st'=>zIj st.length av0 st0 av st') hf hb hn (QD hlen) (h.mono λe env st h=>by cases e <;> exact h);refine ⟨h1.1,λA m w vals hR hv=>(h1.2 A m w vals hR hv).mono λe w' ⟨v,A',m',st',av,he,hR',hS,hv',L,k1,k2,k3,k4,k5⟩=>?_⟩;have hs:=GT.of k2 k3;exact ⟨v,_,_,st0,av0,he,hR'.rs hs,hS.rs hs k4 k5,k1.v hR' hs hv',rfl,rfl⟩
theorem zi {P : Program} {f : FuncId} {fn : Func} {c : Code} {args : List AV} {res : AV} (hf : P.funcs[f]? = some fn) (hb : fn.body = some c) (hn : (fn.name == "runtime.NumGoroutine") = false) (hlen : Nat.ble args.length fn.ntmps = true) (hi : GR res = true)
  (h:SW P fn.ntmps 0 c (QF P fn 0 res []) (HM 0 args) []):Xo P f args res:=
 zDy ((zR (st:=[]) hf hb hn hlen h).mono λav st ⟨h1,h2⟩=>by subst h1;exact .imm (Ol hi))
inductive SB where
 |no
 |many (k:Nat) (els:List (List AV))
 |one (k:Nat) (cs:List AV)
 |xs (k:Nat) (rows:List (List AV))
def SB.b:SB->Option (Nat×List (List AV))
 |.no=>none
 |.many k els=>some (k,els)
 |.one k cs=>some (k,[cs])
 |.xs k rows=>some (k,rows)
def SBs:List SB->St
 | []=>[]
 |x ::r=>x.b ::SBs r
def SB.ok:SB->Prop
 |.many _ els=>∀r∈els,∀x∈r,Imm x
 |_=>True
def IA:List SB->Prop
 | []=>True
 |x ::r=>x.ok/\IA r
def SC(P:Program)(f:FuncId)(args:List AV)(bs0:List SB)(av:AV)(bs1:List SB):Prop:=IA bs1/\UZ P f args (SBs bs0) (λa s=>a=av/\s=SBs bs1)
def Hu(ρ:Nat->Option Nat):List AV->List AV->Prop
 | [],[]=>True
 |x ::l,y ::r=>Rn ρ x y/\Hu ρ l r
 |_,_=>False
theorem Hu.get{ρ}:∀{l r:List AV},Hu ρ l r->l.length=r.length/\∀i (h:i<l.length) (h':i<r.length),Rn ρ l[i] r[i]
 | [],[],_=>⟨rfl,λi h=>by cases h⟩
 | [],_ :: _,h=>h.elim
 |_ :: _,[],h=>h.elim
 |x ::l,y ::r,h=>by
  obtain ⟨h1,h2⟩:=Hu.get h.2;refine ⟨by simp [h1],λi hi hi'=>?_⟩
  cases i with
  |zero=>exact h.1
  |succ i=>exact h2 i (by simpa using hi) (by simpa using hi')
def InB(ρ:Nat->Option Nat)(st:St):List Nat->List SB->Prop
 | [],[]=>True
 |l ::L,.many k els ::bs=>(st[l]?=some (some (k,els))/\∀r∈els,∀x∈r,Imm x)/\InB ρ st L bs
 |l ::L,.one k cs ::bs=>(∃cs',st[l]?=some (some (k,[cs']))/\Hu ρ cs cs')/\InB ρ st L bs
 |_,_=>False
theorem InB.at{ρ st}:∀{L:List Nat} {bs:List SB},InB ρ st L bs->L.length=bs.length/\∀i l:Nat,L[i]?=some l->∃k els0 els,(SBs bs)[i]?=some (some (k,els0))/\st[l]?=some (some (k,els))/\U8 ρ els0 els
 | [],[],_=>⟨rfl,λi l h=>by simp at h⟩
 | [],_ :: _,h=>h.elim
 |_ :: _,[],h=>h.elim
 |_ :: _,.no :: _,h=>h.elim
 |_ :: _,.xs _ _ :: _,h=>h.elim
 |l ::L,.many k els ::bs,h=>by
  obtain ⟨h1,h2⟩:=InB.at h.2;refine ⟨by simp [h1],λi x hx=>?_⟩
  cases i with
  |zero =>
   simp at hx;subst hx;exact ⟨k,els,els,rfl,h.1.1,U8.same h.1.2⟩
  |succ i=>simpa [SBs] using h2 i x (by simpa using hx)
 |l ::L,.one k cs ::bs,h=>by
  obtain ⟨h1,h2⟩:=InB.at h.2;refine ⟨by simp [h1],λi x hx=>?_⟩
  cases i with
  |zero =>
   simp at hx;subst hx;obtain ⟨cs',h3,h4⟩:=h.1;exact ⟨k,[cs],[cs'],rfl,h3,U8.one h4.get.1 h4.get.2⟩
  |succ i=>simpa [SBs] using h2 i x (by simpa using hx)
theorem zrK:∀bs:List SB,(SBs bs).length=bs.length
 | []=>rfl
 |_ ::r=>by simp [SBs,zrK r]
def zJN(τ:Nat->Nat):SB->Option (Nat×List (List AV))
 |.no=>none
 |.many k els=>some (k,els)
 |.one k cs=>some (k,[rnL τ cs])
 |.xs k rows=>some (k,rows.map (rnL τ))
def zDK(τ:Nat->Nat):List SB->St
 | []=>[]
 |x ::r=>zJN τ x ::zDK τ r
def zFN(τ:Nat->Nat):St->List Nat->List SB->St
 |st,l ::L,b ::bs=>zFN τ (st.set l (zJN τ b)) L bs
 |st,_,_=>st
def B7(τ:Nat->Nat):List Nat->List SB->St
 |_ ::L,_ ::bs=>B7 τ L bs
 |_,bs=>zDK τ bs
def zJm(L:List Nat)(st:St)(bs:List SB):St:=zFN (tau L st.length) st L bs++B7 (tau L st.length) L bs
theorem Imm.rn{τ:Nat->Nat}{x:AV}(h:Imm x):rn τ x=x:=by
 induction h with
 |any=>rfl
 |lit v=>rfl
 |isl k e=>rfl
 |ipt k e i j=>rfl
 |imp e=>rfl
 |agg cs _ ih =>
  rw [Go.Proofs.YthmnlfenkhmmhaaGreat.rn,US];congr 1
  (conv=>rhs;rw [<-J8 cs]);exact Jm ih
 |tup cs _ ih =>
  rw [Go.Proofs.YthmnlfenkhmmhaaGreat.rn,US];congr 1
  (conv=>rhs;rw [<-J8 cs]);exact Jm ih
 |fn f cs ds _ _ ih ih' =>
  rw [Go.Proofs.YthmnlfenkhmmhaaGreat.rn,US,US];congr 1
  ·(conv=>rhs;rw [<-J8 cs]);exact Jm ih
  .conv=>rhs;rw [<-J8 ds]
   exact Jm ih'
theorem zDJ{τ:Nat->Nat}{b:SB}(h:b.ok):zJN τ b=K3 τ b.b:=by
 cases b with
 |no=>rfl
 |one k cs=>rfl
 |xs k rows=>rfl
 |many k els =>
  show some (k,els)=some (k,G6 τ els);congr 2;unfold G6
  conv=>lhs;rw [<-J8 els]
  refine Jm λr hr=>?_;rw [US]
  conv=>lhs;rw [<-J8 (id r)]
  exact Jm λx hx=>((h r hr x hx).rn).symm
theorem zAh{τ:Nat->Nat}:∀{bs:List SB},IA bs->zDK τ bs=(SBs bs).map (K3 τ)
 | [],_=>rfl
 |b ::bs,h=>by rw [zDK,SBs,Yl,zDJ h.1,zAh h.2]
theorem zAk{τ:Nat->Nat}:∀{L:List Nat} {st:St} {bs:List SB},IA bs->zFN τ st L bs=Gy τ st L ((SBs bs).take L.length)
 | [],st,bs,_=>by cases bs <;> rfl
 |l ::L,st,[],_=>rfl
 |l ::L,st,b ::bs,h=>by
  rw [zFN,SBs,Qv,List.take_succ_cons,Gy,zDJ h.1];exact zAk h.2
theorem zwS{τ:Nat->Nat}:∀{L:List Nat} {bs:List SB},IA bs->B7 τ L bs=((SBs bs).drop L.length).map (K3 τ)
 | [],bs,h=>by unfold B7;exact zAh h
 |l ::L,[],_=>by simp [B7,zDK,SBs]
 |l ::L,b ::bs,h=>by
  rw [B7,SBs,Qv,List.drop_succ_cons];exact zwS h.2
theorem zId{L:List Nat}{st:St}{bs:List SB}(h:IA bs):zJm L st bs=Uj L st (SBs bs):=by
 unfold zJm Uj;rw [zAk h,zwS h]
def IP:List Nat->Bool
 | []=>true
 |x ::l=>(!Xt x l)&&IP l
theorem zr1:∀{l:List Nat},IP l=true->l.Nodup
 | [],_=>List.nodup_nil
 |x ::l,h=>by
  simp only [IP,Qd,Qk] at h;refine Jk.2 ⟨λhm=>?_,zr1 h.2⟩;rw [GF.2 hm] at h;cases h.1
def zB7(k:Nat):List Nat->Bool
 | []=>true
 |x ::l=>Nat.blt x k&&zB7 k l
theorem zwW{k:Nat}:∀{l:List Nat},zB7 k l=true->∀x∈l,x<k
 | [],_,x,h=>by cases h
 |y ::l,h,x,hx=>by
  simp only [zB7,Qd] at h
  rcases Qu.1 hx with rfl |hx
  .exact QD h.1
  .exact zwW h.2 x hx
section
variable {P : Program} {env : Ev} {st : St} {K : Ev -> St -> Prop} {d : Nat} {ty : TypeId} {pos : String} {aft : Array Edge} {gu : Option (Nat × Bool)}
theorem XW{op:Op}{av:AV}{st':St}(hc:ZO op=false)(h:aop P env st op=some (av,st'))(k:K ((d,av)::env) st'):SOp P ⟨some d,op,ty,pos,aft,gu⟩ env st K:=by
 unfold SOp;simp only [hc,h];exact k
theorem zJG{op:Op}{av:AV}{st':St}(hc:ZO op=false)(h:aop P env st op=some (av,st'))(k:K env st'):SOp P ⟨none,op,ty,pos,aft,gu⟩ env st K:=by
 unfold SOp;simp only [hc,h];exact k
theorem mv{x:Operand}{v:AV}(hx:ev env x=some v)(k:K ((d,v)::env) st):SOp P ⟨some d,.move x,ty,pos,aft,gu⟩ env st K:=XW rfl (by simp [aop,hx]) k
theorem asg{x:Operand}{v:AV}(hx:ev env x=some v)(k:K ((d,v)::env) st):SOp P ⟨some d,.assign x,ty,pos,aft,gu⟩ env st K:=XW rfl (by simp [aop,hx]) k
theorem bn{o:BinOp}{t u:TypeId}{x y:Operand}{ti:TI}{a b v:AV}(ht:Xh P t=some ti)(hx:ev env x=some a)(hy:ev env y=some b)(h:Ur ti.k o a b=some v)(k:K ((d,v)::env) st):
  SOp P ⟨some d,.binOp o t x y u,ty,pos,aft,gu⟩ env st K:=XW rfl (by simp [aop,ht,hx,hy,h]) k
theorem lss{t u:TypeId}{x y:Operand}{ti:TI}{kk:IntKind}{a b:Int}(ht:Xh P t=some ti)(hx:ev env x=some (.lit (.int kk a)))(hy:ev env y=some (.lit (.int kk b)))(k:K ((d,.lit (.bool (decide (a<b))))::env) st):
  SOp P ⟨some d,.binOp .lss t x y u,ty,pos,aft,gu⟩ env st K:=bn ht hx hy (by simp [Ur,shI,Gp]) k
theorem leq{t u:TypeId}{x y:Operand}{ti:TI}{kk:IntKind}{a b:Int}(ht:Xh P t=some ti)(hx:ev env x=some (.lit (.int kk a)))(hy:ev env y=some (.lit (.int kk b)))(k:K ((d,.lit (.bool (decide (a≤b))))::env) st):
  SOp P ⟨some d,.binOp .leq t x y u,ty,pos,aft,gu⟩ env st K:=bn ht hx hy (by simp [Ur,shI,Gp]) k
theorem gtr{t u:TypeId}{x y:Operand}{ti:TI}{kk:IntKind}{a b:Int}(ht:Xh P t=some ti)(hx:ev env x=some (.lit (.int kk a)))(hy:ev env y=some (.lit (.int kk b)))(k:K ((d,.lit (.bool (decide (b<a))))::env) st):
  SOp P ⟨some d,.binOp .gtr t x y u,ty,pos,aft,gu⟩ env st K:=bn ht hx hy (by simp [Ur,shI,Gp]) k
theorem geq{t u:TypeId}{x y:Operand}{ti:TI}{kk:IntKind}{a b:Int}(ht:Xh P t=some ti)(hx:ev env x=some (.lit (.int kk a)))(hy:ev env y=some (.lit (.int kk b)))(k:K ((d,.lit (.bool (decide (b≤a))))::env) st):
  SOp P ⟨some d,.binOp .geq t x y u,ty,pos,aft,gu⟩ env st K:=bn ht hx hy (by simp [Ur,shI,Gp]) k
theorem eql{t u:TypeId}{x y:Operand}{ti:TI}{kk:IntKind}{a b:Int}(ht:Xh P t=some ti)(hx:ev env x=some (.lit (.int kk a)))(hy:ev env y=some (.lit (.int kk b)))(k:K ((d,.lit (.bool (a == b)))::env) st):
  SOp P ⟨some d,.binOp .eql t x y u,ty,pos,aft,gu⟩ env st K:=bn ht hx hy (by simp [Ur,shI,Gp]) k
theorem neq{t u:TypeId}{x y:Operand}{ti:TI}{kk:IntKind}{a b:Int}(ht:Xh P t=some ti)(hx:ev env x=some (.lit (.int kk a)))(hy:ev env y=some (.lit (.int kk b)))(k:K ((d,.lit (.bool (!(a == b))))::env) st):
  SOp P ⟨some d,.binOp .neq t x y u,ty,pos,aft,gu⟩ env st K:=bn ht hx hy (by simp [Ur,shI,Gp,bne]) k
theorem add{t u:TypeId}{x y:Operand}{ti:TI}{kk:IntKind}{a b:Int}(ht:Xh P t=some ti)(hx:ev env x=some (.lit (.int kk a)))(hy:ev env y=some (.lit (.int kk b)))(k:K ((d,.lit (.int kk (kk.wrap (a+b))))::env) st):
  SOp P ⟨some d,.binOp .add t x y u,ty,pos,aft,gu⟩ env st K:=bn ht hx hy (by simp [Ur,shI,Gp,arI]) k
theorem sub{t u:TypeId}{x y:Operand}{ti:TI}{kk:IntKind}{a b:Int}(ht:Xh P t=some ti)(hx:ev env x=some (.lit (.int kk a)))(hy:ev env y=some (.lit (.int kk b)))(k:K ((d,.lit (.int kk (kk.wrap (a-b))))::env) st):
  SOp P ⟨some d,.binOp .sub t x y u,ty,pos,aft,gu⟩ env st K:=bn ht hx hy (by simp [Ur,shI,Gp,arI]) k
theorem mul{t u:TypeId}{x y:Operand}{ti:TI}{kk:IntKind}{a b:Int}(ht:Xh P t=some ti)(hx:ev env x=some (.lit (.int kk a)))(hy:ev env y=some (.lit (.int kk b)))(k:K ((d,.lit (.int kk (kk.wrap (a*b))))::env) st):
  SOp P ⟨some d,.binOp .mul t x y u,ty,pos,aft,gu⟩ env st K:=bn ht hx hy (by simp [Ur,shI,Gp,arI]) k
theorem arb{o:BinOp}{t u:TypeId}{x y:Operand}{ti:TI}{kk kb:IntKind}{a b r:Int}(ht:Xh P t=some ti)(hx:ev env x=some (.lit (.int kk a)))(hy:ev env y=some (.lit (.int kb b)))
  (h:(shI kk o a b=some r)∨(shI kk o a b=none/\kk=kb/\Gp o a b=none/\arI kk o a b=some r)) (k:K ((d,.lit (.int kk r))::env) st):SOp P ⟨some d,.binOp o t x y u,ty,pos,aft,gu⟩ env st K:=
 bn ht hx hy (by rcases h with h |⟨h1,rfl,h2,h3⟩ <;> simp [Ur, *]) k
theorem quo{t u:TypeId}{x y:Operand}{ti:TI}{kk:IntKind}{a b r:Int}(ht:Xh P t=some ti)(hx:ev env x=some (.lit (.int kk a)))(hy:ev env y=some (.lit (.int kk b)))(h:zKj kk a b=some r)(k:K ((d,.lit (.int kk r))::env) st):
  SOp P ⟨some d,.binOp .quo t x y u,ty,pos,aft,gu⟩ env st K:=arb ht hx hy (.inr ⟨rfl,rfl,rfl,h⟩) k
theorem rem{t u:TypeId}{x y:Operand}{ti:TI}{kk:IntKind}{a b r:Int}(ht:Xh P t=some ti)(hx:ev env x=some (.lit (.int kk a)))(hy:ev env y=some (.lit (.int kk b)))(h:zI7 a b=some r)(k:K ((d,.lit (.int kk r))::env) st):
  SOp P ⟨some d,.binOp .rem t x y u,ty,pos,aft,gu⟩ env st K:=arb ht hx hy (.inr ⟨rfl,rfl,rfl,h⟩) k
theorem shl{t u:TypeId}{x y:Operand}{ti:TI}{kk kb:IntKind}{a b r:Int}(ht:Xh P t=some ti)(hx:ev env x=some (.lit (.int kk a)))(hy:ev env y=some (.lit (.int kb b)))(h:zKo kk a b=some r)(k:K ((d,.lit (.int kk r))::env) st):
  SOp P ⟨some d,.binOp .shl t x y u,ty,pos,aft,gu⟩ env st K:=arb ht hx hy (.inl h) k
theorem shr{t u:TypeId}{x y:Operand}{ti:TI}{kk kb:IntKind}{a b r:Int}(ht:Xh P t=some ti)(hx:ev env x=some (.lit (.int kk a)))(hy:ev env y=some (.lit (.int kb b)))(h:zKp kk a b=some r)(k:K ((d,.lit (.int kk r))::env) st):
  SOp P ⟨some d,.binOp .shr t x y u,ty,pos,aft,gu⟩ env st K:=arb ht hx hy (.inl h) k
theorem seq{t u:TypeId}{x y:Operand}{ti:TI}{a b:List UInt8}(ht:Xh P t=some ti)(hx:ev env x=some (.lit (.string (B a))))(hy:ev env y=some (.lit (.string (B b))))(k:K ((d,.lit (.bool (a == b)))::env) st):
  SOp P ⟨some d,.binOp .eql t x y u,ty,pos,aft,gu⟩ env st K:=bn ht hx hy rfl k
theorem sne{t u:TypeId}{x y:Operand}{ti:TI}{a b:List UInt8}(ht:Xh P t=some ti)(hx:ev env x=some (.lit (.string (B a))))(hy:ev env y=some (.lit (.string (B b))))(k:K ((d,.lit (.bool (!(a == b))))::env) st):
  SOp P ⟨some d,.binOp .neq t x y u,ty,pos,aft,gu⟩ env st K:=bn ht hx hy rfl k
theorem slt{t u:TypeId}{x y:Operand}{ti:TI}{a b:List UInt8}(ht:Xh P t=some ti)(hx:ev env x=some (.lit (.string (B a))))(hy:ev env y=some (.lit (.string (B b))))(k:K ((d,.lit (.bool (Op.bytesLess a b)))::env) st):
  SOp P ⟨some d,.binOp .lss t x y u,ty,pos,aft,gu⟩ env st K:=bn ht hx hy rfl k
theorem GO{t u:TypeId}{x y:Operand}{ti:TI}{a b r:List UInt8}(ht:Xh P t=some ti)(hx:ev env x=some (.lit (.string (B a))))(hy:ev env y=some (.lit (.string (B b))))(h:X2 a b=some r)(k:K ((d,.lit (.string (B r)))::env) st):
  SOp P ⟨some d,.binOp .add t x y u,ty,pos,aft,gu⟩ env st K:=bn ht hx hy (by
   unfold X2 at h;split at h
   .rename_i h1;cases h;simp [Ur,zJO,h1]
   .cases h) k
theorem beq{t u:TypeId}{x y:Operand}{ti:TI}{a b:Bool}(ht:Xh P t=some ti)(hk:ti.k=.bool)(hx:ev env x=some (.lit (.bool a)))(hy:ev env y=some (.lit (.bool b)))(k:K ((d,.lit (.bool (a == b)))::env) st):
  SOp P ⟨some d,.binOp .eql t x y u,ty,pos,aft,gu⟩ env st K:=bn ht hx hy (by rw [hk];rfl) k
theorem bne{t u:TypeId}{x y:Operand}{ti:TI}{a b:Bool}(ht:Xh P t=some ti)(hk:ti.k=.bool)(hx:ev env x=some (.lit (.bool a)))(hy:ev env y=some (.lit (.bool b)))(k:K ((d,.lit (.bool (!(a == b))))::env) st):
  SOp P ⟨some d,.binOp .neq t x y u,ty,pos,aft,gu⟩ env st K:=bn ht hx hy (by rw [hk];rfl) k
theorem nt{t:TypeId}{x:Operand}{b:Bool}(hx:ev env x=some (.lit (.bool b)))(k:K ((d,.lit (.bool (!b)))::env) st):SOp P ⟨some d,.unOp .not t x,ty,pos,aft,gu⟩ env st K:=XW rfl (by simp [aop,hx,aun]) k
theorem ng{t:TypeId}{x:Operand}{kk:IntKind}{a:Int}(hx:ev env x=some (.lit (.int kk a)))(k:K ((d,.lit (.int kk (kk.wrap (0-a))))::env) st):SOp P ⟨some d,.unOp .neg t x,ty,pos,aft,gu⟩ env st K:=XW rfl (by simp [aop,hx,aun]) k
theorem pk{c x y:Operand}{b:Bool}{v:AV}(hc:ev env c=some (.lit (.bool b)))(h:(match b with |true=>ev env x |false=>ev env y)=some v)(k:K ((d,v)::env) st):SOp P ⟨some d,.pick c x y,ty,pos,aft,gu⟩ env st K:=XW rfl (by cases b <;> simp at h <;> simp [aop,hc,h]) k
theorem ex{x:Operand}{i:Nat}{vs:List AV}{v:AV}(hx:ev env x=some (.tup vs))(h:vs[i]?=some v)(k:K ((d,v)::env) st):SOp P ⟨some d,.extract x i,ty,pos,aft,gu⟩ env st K:=XW rfl (by simp [aop,hx,h]) k
theorem al{t:TypeId}{ti:TI}(nn:Nat)(ht:Xh P t=some ti)(hn:st.length=nn)(k:K ((d,.mpt nn 0 0)::env) (st++[some (ti.size,[Zd ti.zero])])):SOp P ⟨some d,.alloc t,ty,pos,aft,gu⟩ env st K:=XW rfl (by simp [aop,ht,hn]) k
theorem bx{t:TypeId}{x:Operand}{v:AV}{cs:List AV}(nn kk:Nat)(hx:ev env x=some v)(hc:G5 v=some cs)(hl:cs.length=kk)(hn:st.length=nn)(k:K ((d,.mpt nn 0 0)::env) (st++[some (kk,[cs])])):
  SOp P ⟨some d,.box t x,ty,pos,aft,gu⟩ env st K:=XW rfl (by simp [aop,hx,hc,hn,hl]) k
theorem ld{t:TypeId}{x:Operand}{ti:TI}{p v:AV}(ht:Xh P t=some ti)(hx:ev env x=some p)(h:Dq st ti p=some v)(k:K ((d,v)::env) st):SOp P ⟨some d,.load t x,ty,pos,aft,gu⟩ env st K:=XW rfl (by simp [aop,ht,hx,h]) k
theorem sto{t:TypeId}{x y:Operand}{ti:TI}{p v:AV}{st':St}(ht:Xh P t=some ti)(hx:ev env x=some p)(hy:ev env y=some v)(h:Od st ti p v=some st')(k:K env st'):SOp P ⟨none,.store t x y,ty,pos,aft,gu⟩ env st K:=zJG (av:=.lit undef) rfl (by simp [aop,ht,hx,hy,h]) k
theorem fa{t:TypeId}{x:Operand}{f:Nat}{ti:TI}{p v:AV}(ht:Xh P t=some ti)(hx:ev env x=some p)(hl:Hz st p=true)(h:zzh ti p f=some v)(k:K ((d,v)::env) st):SOp P ⟨some d,.fieldAddr t x f,ty,pos,aft,gu⟩ env st K:=XW rfl (by simp [aop,ht,hx,hl,h]) k
theorem nc{x:Operand}{p:AV}(hx:ev env x=some p)(hl:Hz st p=true)(k:K ((d,p)::env) st):SOp P ⟨some d,.nilCheck x,ty,pos,aft,gu⟩ env st K:=XW rfl (by simp [aop,hx,hl]) k
theorem mf{f:FuncId}{a b:Array Operand}{ax bx:List AV}(ha:Du env a.toList=some ax)(hb:Du env b.toList=some bx)(k:K ((d,.fn (.func f) ax bx)::env) st):SOp P ⟨some d,.makeFunc (.func f) a b,ty,pos,aft,gu⟩ env st K:=XW rfl (by simp [aop,ha,hb]) k
theorem lnS{x:Operand}{t:TypeId}{ti:TI}{l:List UInt8}(ht:Xh P t=some ti)(hk:ti.k=.str)(hx:ev env x=some (.lit (.string (B l))))(k:K ((d,.lit (.int .i64 (l.length:Nat)))::env) st):
  SOp P ⟨some d,.call ⟨.builtin .len,#[x],#[t]⟩,ty,pos,aft,gu⟩ env st K:=XW rfl (by simp [aop,Hf,Dx,ht,hk,hx]) k
theorem lnI{α:Type}{x:Operand}{t e:TypeId}{ti:TI}{kk:Nat}{l:List α}{f:α->List AV}(ht:Xh P t=some ti)(hk:ti.k=.slc e)(hx:ev env x=some (.isl kk (l.map f)))(k:K ((d,.lit (.int .i64 (l.length:Nat)))::env) st):
  SOp P ⟨some d,.call ⟨.builtin .len,#[x],#[t]⟩,ty,pos,aft,gu⟩ env st K:=XW rfl (by simp [aop,Hf,Dx,ht,hk,hx]) k
theorem lnM{x:Operand}{t e:TypeId}{ti:TI}{l i n:Nat}(ht:Xh P t=some ti)(hk:ti.k=.slc e)(hx:ev env x=some (.msl l i n))(hl:Hz st (.mpt l 0 0)=true)(k:K ((d,.lit (.int .i64 (n:Nat)))::env) st):
  SOp P ⟨some d,.call ⟨.builtin .len,#[x],#[t]⟩,ty,pos,aft,gu⟩ env st K:=XW rfl (by
   simp only [Hz] at hl
   cases hq:st[l]? with
   |none=>rw [hq] at hl;cases hl
   |some b =>
    cases b with
    |none=>rw [hq] at hl;cases hl
    |some b=>simp [aop,Hf,Dx,ht,hk,hx,hq]) k
theorem lnN{x:Operand}{t e:TypeId}{ti:TI}(ht:Xh P t=some ti)(hk:ti.k=.slc e)(hx:ev env x=some (.lit (.slice none 0 0)))(k:K ((d,.lit (.int .i64 0))::env) st):
  SOp P ⟨some d,.call ⟨.builtin .len,#[x],#[t]⟩,ty,pos,aft,gu⟩ env st K:=XW rfl (by simp [aop,Hf,Dx,ht,hk,hx]) k
theorem ixS{t:TypeId}{x y:Operand}{ti:TI}{kk:IntKind}{l:List UInt8}{i:Int}{c:UInt8}(ht:Xh P t=some ti)(hk:ti.k=.str)(hx:ev env x=some (.lit (.string (B l))))(hy:ev env y=some (.lit (.int kk i)))(h:idx l i=some c)
  (k:K ((d,.lit (.int .u8 (c.toNat:Int)))::env) st):SOp P ⟨some d,.index t x y,ty,pos,aft,gu⟩ env st K:=XW rfl (by
   obtain ⟨h0,_,h1⟩:=zQ h
   simp [aop,ht,hk,hx,hy,zH9,h0,h1]) k
theorem ixI{α:Type}{t e:TypeId}{x y:Operand}{ti te:TI}{kk:IntKind}{sz:Nat}{l:List α}{f:α->List AV}{i:Int}{c:α}(ht:Xh P t=some ti)(hk:ti.k=.slc e)(he:Xh P e=some te)(hs:te.size=sz)(hx:ev env x=some (.isl sz (l.map f)))
  (hy:ev env y=some (.lit (.int kk i))) (h:idx l i=some c) (k:K ((d,.ipt sz (l.map f) i.toNat 0)::env) st):SOp P ⟨some d,.indexAddr t x y,ty,pos,aft,gu⟩ env st K:=XW rfl (by
   obtain ⟨h0,h2,h1⟩:=zQ h
   have h3:i<(l.length:Int):=by omega
   simp [aop,ht,hk,he,hx,hy,Dy,hs,h0,h3]) k
theorem ixM{α:Type}{t e:TypeId}{x y:Operand}{ti te:TI}{kk:IntKind}{sz b:Nat}{l:List α}{f:α->List AV}{i:Int}{c:α}(ht:Xh P t=some ti)(hk:ti.k=.slc e)(he:Xh P e=some te)(hs:te.size=sz)(hx:ev env x=some (.msl b 0 l.length))
  (hb:st[b]?=some (some (sz,l.map f))) (hy:ev env y=some (.lit (.int kk i))) (h:idx l i=some c) (k:K ((d,.mpt b i.toNat 0)::env) st):SOp P ⟨some d,.indexAddr t x y,ty,pos,aft,gu⟩ env st K:=XW rfl (by
   obtain ⟨h0,h2,h1⟩:=zQ h
   have h3:i<(l.length:Int):=by omega
   simp [aop,ht,hk,he,hx,hy,Dy,hs,h0,h3,hb]) k
theorem ixX{t e:TypeId}{x y:Operand}{ti te:TI}{kk:IntKind}{i:Int}{v p:AV}(ht:Xh P t=some ti)(hk:ti.k=.slc e)(he:Xh P e=some te)(hx:ev env x=some v)
  (hy:ev env y=some (.lit (.int kk i))) (h:Dy st te.size v i=some p) (k:K ((d,p)::env) st):SOp P ⟨some d,.indexAddr t x y,ty,pos,aft,gu⟩ env st K:=XW rfl (by simp [aop,ht,hk,he,hx,hy,h]) k
def Wy(ti:TI)(r:List AV)(j:Nat):Option AV:=
 match ti.k.isAgg with
 |some true=>if j+ti.size≤r.length then some (.agg ((r.drop j).take ti.size)) else none
 |some false=>r[j]?
 |none=>none
theorem ztb{ti:TI}{p:AV}{r:List AV}{j:Nat}(h:Gv st p=some (r,j)):Dq st ti p=Wy ti r j:=by
 unfold Dq Wy;rw [h]
 cases ti.k.isAgg with
 |none=>rfl
 |some b=>cases b <;> rfl
theorem ldI{α:Type}{t:TypeId}{x:Operand}{ti:TI}{sz i j:Nat}{l:List α}{f:α->List AV}{c:α}{v:AV}(ht:Xh P t=some ti)(hx:ev env x=some (.ipt sz (l.map f) i j))(h:l[i]?=some c)(hv:Wy ti (f c) j=some v)(k:K ((d,v)::env) st):
  SOp P ⟨some d,.load t x,ty,pos,aft,gu⟩ env st K:=ld ht hx ((ztb (by simp [Gv,h])).trans hv) k
theorem ldM{α:Type}{t:TypeId}{x:Operand}{ti:TI}{sz b i j:Nat}{l:List α}{f:α->List AV}{c:α}{v:AV}(ht:Xh P t=some ti)(hx:ev env x=some (.mpt b i j))(hb:st[b]?=some (some (sz,l.map f)))(h:l[i]?=some c)(hv:Wy ti (f c) j=some v)(k:K ((d,v)::env) st):
  SOp P ⟨some d,.load t x,ty,pos,aft,gu⟩ env st K:=ld ht hx ((ztb (by simp [Gv,hb,h])).trans hv) k
theorem slS{t:TypeId}{x:Operand}{lo hi:Option Operand}{ti:TI}{l r:List UInt8}{a b:Int}(ht:Xh P t=some ti)(hk:ti.k=.str)(hx:ev env x=some (.lit (.string (B l))))(hlo:ZU env 0 lo=some a.toNat)(hhi:ZU env l.length hi=some b.toNat)
  (h:XK l a b=some r) (k:K ((d,.lit (.string (B r)))::env) st):SOp P ⟨some d,.slice t x lo hi none,ty,pos,aft,gu⟩ env st K:=XW rfl (by
   unfold XK at h;split at h
   .rename_i h1;cases h;have e:UL (.lit (.string (B l)))=some l.length:=rfl;simp only [aop,ht,hk,hx,e,hlo,hhi];rw [if_pos (by omega)]
   .cases h) k
theorem slI{α:Type}{t e:TypeId}{x:Operand}{lo hi:Option Operand}{ti te:TI}{sz:Nat}{l r:List α}{f:α->List AV}{a b:Int}(ht:Xh P t=some ti)(hk:ti.k=.slc e)(he:Xh P e=some te)(hs:te.size=sz)(hx:ev env x=some (.isl sz (l.map f)))
  (hlo:ZU env 0 lo=some a.toNat) (hhi:ZU env l.length hi=some b.toNat) (h:XK l a b=some r) (k:K ((d,.isl sz (r.map f))::env) st):SOp P ⟨some d,.slice t x lo hi none,ty,pos,aft,gu⟩ env st K:=XW rfl (by
   unfold XK at h;split at h
   .rename_i h1;cases h
    have e':UL (.isl sz (l.map f))=some l.length:=by simp [UL]
    simp only [aop,ht,hk,hx,e',he,hlo,hhi,Wo];rw [if_pos ⟨hs.symm,by omega,by rw [Q4];omega⟩];simp [List.map_drop,List.map_take]
   .cases h) k
theorem pc{c:Call}{g:FuncId}{args:List AV}{res:AV}(h:Xo P g args res)(hc:ZO (.call c)=true)(hg:Ko env (.call c)=some (g,args))(hi:Zm args=true)(k:K ((d,res)::env) st):SOp P ⟨some d,.call c,ty,pos,aft,gu⟩ env st K:=by
 unfold SOp;simp only [hc,hg];exact zvl h (Uk hi) k
theorem pcs{c:Call}{g:FuncId}{args args':List AV}{res:AV}(h:Xo P g args' res)(hc:ZO (.call c)=true)(hg:Ko env (.call c)=some (g,args))(hs:Wu st args args')(hp:Kp res)(k:K ((d,res)::env) st):SOp P ⟨some d,.call c,ty,pos,aft,gu⟩ env st K:=by
 unfold SOp;simp only [hc,hg];exact zy7 h hp hs k
theorem sc(L:List Nat){c:Call}{g:FuncId}{args args0:List AV}{bs0 bs1:List SB}{av:AV}(h:SC P g args0 bs0 av bs1)(hc:ZO (.call c)=true)(hg:Ko env (.call c)=some (g,args))(hnd:IP L=true)(hlt:zB7 st.length L=true)
  (ha:Hu (λi=>L[i]?) args0 args) (hs:InB (λi=>L[i]?) st L bs0) (k:K ((d,rn (tau L st.length) av)::env) (zJm L st bs1)):SOp P ⟨some d,.call c,ty,pos,aft,gu⟩ env st K:=by
 unfold SOp;simp only [hc,hg];refine zy6 h.2 L (by rw [zrK];exact hs.at.1) (zr1 hnd) (zwW hlt) ha.get.1 ha.get.2 ⟨λi l hl=>hs.at.2 i l hl,λi kk els he=>?_,λi1 i2 x h1 h2=>?_⟩ ?_
 .have:i<(SBs bs0).length:=(Qb.1 he).1;rw [zrK,<-hs.at.1] at this;exact ⟨L[i],Qe this⟩
 .obtain ⟨l1,e1⟩:=Qb.1 h1;obtain ⟨l2,e2⟩:=Qb.1 h2;exact (List.getElem_inj (zr1 hnd)).1 (e1.trans e2.symm)
 .rintro a s ⟨rfl,rfl⟩;rw [<-zId h.1];exact k
theorem apM{α:Type}{x y:Operand}{t u' e:TypeId}{ti te tu:TI}{e':TypeId}{sz b w:Nat}{l z r:List α}{f:α->List AV}{v:AV}(nn:Nat)(ht:Xh P t=some ti)(hk:ti.k=.slc e)(he:Xh P e=some te)(hs:te.size=sz)(hw:te.bytes=w)(hz:0<sz)(hu:Xh P u'=some tu)(hku:tu.k=.slc e')
  (hx:ev env x=some (.msl b 0 l.length)) (hb:st[b]?=some (some (sz,l.map f))) (hy:ev env y=some v) (hr:UA st sz v=some (z.map f)) (h1:∀x,(f x).all AV.one=true) (hn:st.length=nn) (h:Xx w l z=some r)
  (k:K ((d,.msl nn 0 r.length)::env) (st.set b none++[some (sz,r.map f)])):SOp P ⟨some d,.call ⟨.builtin .append,#[x,y],#[t,u']⟩,ty,pos,aft,gu⟩ env st K:=XW rfl (by
   obtain ⟨rfl,h2,h3⟩:=zwZ h
   have h4:Kt (z.map f)=true:=by unfold Kt;rw [List.all_map];simp [h1]
   have hbo:Dv st sz (.msl b 0 l.length)=some (l.map f,st.set b none):=by simp [Dv,hb,zrC]
   simp only [aop,Hf,IW,ht,hx,hy,hu,hk,he,hs,hbo,hku,hr];rw [if_pos ⟨hz,h4,by simpa [hw] using h2,by simpa using h3⟩]
   simp [hn]) k
theorem apN{α:Type}{x y:Operand}{t u' e:TypeId}{ti te tu:TI}{e':TypeId}{sz w:Nat}{z r:List α}{f:α->List AV}{v:AV}(nn:Nat)(ht:Xh P t=some ti)(hk:ti.k=.slc e)(he:Xh P e=some te)(hs:te.size=sz)(hw:te.bytes=w)(hz:0<sz)(hu:Xh P u'=some tu)(hku:tu.k=.slc e')
  (hx:ev env x=some (.lit (.slice none 0 0))) (hy:ev env y=some v) (hr:UA st sz v=some (z.map f)) (h1:∀x,(f x).all AV.one=true) (hn:st.length=nn) (h:Xx w [] z=some r)
  (k:K ((d,.msl nn 0 r.length)::env) (st++[some (sz,r.map f)])):SOp P ⟨some d,.call ⟨.builtin .append,#[x,y],#[t,u']⟩,ty,pos,aft,gu⟩ env st K:=XW rfl (by
   obtain ⟨hq,h2,h3⟩:=zwZ h
   have hq':z=r:=by simpa using hq.symm
   subst hq'
   have h4:Kt (z.map f)=true:=by unfold Kt;rw [List.all_map];simp [h1]
   simp only [aop,Hf,IW,ht,hx,hy,hu,hk,he,hs,Dv,hku,hr];rw [if_pos ⟨hz,h4,by simpa [hw] using h2,by simpa using h3⟩]
   simp [hn]) k
theorem roI{α:Type}{sz:Nat}{z:List α}{f:α->List AV}:UA st sz (.isl sz (z.map f))=some (z.map f):=by simp [UA]
theorem roM{α:Type}{sz b:Nat}{z:List α}{f:α->List AV}(hb:st[b]?=some (some (sz,z.map f))):UA st sz (.msl b 0 z.length)=some (z.map f):=by simp [UA,hb,zrC]
theorem bd{t:TypeId}{ps:Array (Nat×Operand)}{ti:TI}{pl:List (Nat×Nat)}{parts:List (Nat×AV)}{cs:List AV}(ht:Xh P t=some ti)(hk:ti.k=.agg pl)(hp:HI env ps.toList=some parts)(h:Ws pl (Zd ti.zero) parts=some cs)(k:K ((d,.agg cs)::env) st):
  SOp P ⟨some d,.build t ps,ty,pos,aft,gu⟩ env st K:=XW rfl (by simp [aop,ht,hk,hp,h]) k
theorem bl{t e:TypeId}{len:Nat}{ps:Array (Nat×Operand)}{ti te:TI}{parts:List (Nat×AV)}{rows:List (List AV)}{sz:Nat}(nn:Nat)(ht:Xh P t=some ti)(hk:ti.k=.slc e)(he:Xh P e=some te)(hs:te.size=sz)(hz:0<sz)(hl:len*sz≤16777216)(hp:HI env ps.toList=some parts)
  (h:IL sz (List.replicate len (Zd te.zero)) parts=some rows) (hn:st.length=nn) (k:K ((d,.msl nn 0 len)::env) (st++[some (sz,rows)])):SOp P ⟨some d,.buildSlice t len ps,ty,pos,aft,gu⟩ env st K:=XW rfl (by
   simp only [aop,ht,hk,he,hp,hs,h];rw [if_pos ⟨hz,hl⟩]
   simp [hn]) k
end
theorem ci{st:St}{L:Xv}{v:AV}(h:GR v=true):Rs st L v v:=.imm (Ol h)
theorem ce{st:St}{L:Xv}{t:Nat}{v:AV}{e0 env:Ev}(h1:look env t=some v)(h2:GR v=true)(r:Ua st L e0 env):Ua st L ((t,v)::e0) env:=⟨⟨v,h1,ci h2⟩,r⟩
theorem cv{st:St}{L:Xv}{t:Nat}{v0 v:AV}{e0 env:Ev}(h1:look env t=some v)(h2:Rs st L v0 v)(r:Ua st L e0 env):Ua st L ((t,v0)::e0) env:=⟨⟨v,h1,h2⟩,r⟩
theorem cn{st:St}{L:Xv}{env:Ev}:Ua st L [] env:=trivial
theorem XY{α:Type}{st:St}{L:Xv}{l:List α}{f:α->List AV}(h:∀x,Zm (f x)=true):B8 st L (l.map f) (l.map f):=
 ⟨rfl,λi hi _=>⟨rfl,λj hj _=>.imm (by
  obtain ⟨y,_,hy⟩:=QW.1 (Qi hi);have:=(Uk (h y)).mem;rw [hy] at this
  exact this _ (Qi hj))⟩⟩
def Uf(st:St)(L:Xv):List AV->List AV->Prop
 | [],[]=>True
 |x ::l,y ::r=>Rs st L x y/\Uf st L l r
 |_,_=>False
theorem Uf.get{st:St}{L:Xv}:∀{l r:List AV},Uf st L l r->l.length=r.length/\∀i (h:i<l.length) (h':i<r.length),Rs st L l[i] r[i]
 | [],[],_=>⟨rfl,λi h=>by cases h⟩
 | [],_ :: _,h=>h.elim
 |_ :: _,[],h=>h.elim
 |x ::l,y ::r,h=>by
  obtain ⟨h1,h2⟩:=Uf.get h.2;refine ⟨by simp [h1],λi hi hi'=>?_⟩
  cases i with
  |zero=>exact h.1
  |succ i=>exact h2 i (by simpa using hi) (by simpa using hi')
def zye(st:St)(L:Xv):List (List AV)->List (List AV)->Prop
 | [],[]=>True
 |x ::l,y ::r=>Uf st L x y/\zye st L l r
 |_,_=>False
theorem Ze{st:St}{L:Xv}{r0 r:List AV}(h:Uf st L r0 r):B8 st L [r0] [r]:=
 ⟨rfl,λi hi _=>by
  have:i=0:=by simp at hi;exact hi
  subst this
  exact ⟨h.get.1,λj h1 h2=>h.get.2 j h1 h2⟩⟩
theorem G4{st:St}{L:Xv}:∀{l r:List (List AV)},zye st L l r->B8 st L l r
 | [],[],_=>⟨rfl,λi h=>by cases h⟩
 | [],_ :: _,h=>h.elim
 |_ :: _,[],h=>h.elim
 |x ::l,y ::r,h=>by
  obtain ⟨h1,h2⟩:=G4 h.2;refine ⟨by simp [h1],λi hi hi'=>?_⟩
  cases i with
  |zero=>exact ⟨h.1.get.1,λj a b=>h.1.get.2 j a b⟩
  |succ i=>exact h2 i (by simpa using hi) (by simpa using hi')
theorem Hx{st:St}{L:Xv}{l r:List AV}(h:Uf st L l r):Rs st L (.agg l) (.agg r):=.agg h.get.1 h.get.2
theorem zKn{st:St}{L:Xv}{f:Fn}{a a' b b':List AV}(h:Uf st L a a')(h':Uf st L b b'):Rs st L (.fn f a b) (.fn f a' b'):=.fn h.get.1 h.get.2 h'.get.1 h'.get.2
theorem Gs{st:St}{L:Xv}{l r:List AV}(h:Uf st L l r):Rs st L (.tup l) (.tup r):=.tup h.get.1 h.get.2
theorem ZI{α:Type}{st:St}{L:Xv}{b sz:Nat}{l:List α}{f:α->List AV}(hD:UH L b=false)(hb:st[b]?=some (some (sz,l.map f)))(h:∀x,Zm (f x)=true):Rs st L (.isl sz (l.map f)) (.msl b 0 l.length):=
 .sl hD hb (by simp) (by simp) (λr hr x hx=>by obtain ⟨y,_,rfl⟩:=QW.1 hr;exact (Uk (h y)).mem x hx) (λq _ _ _=>by simp) (λq _ _ h2 j _ h4=>by
  have:(l.map f)[0+q]'(by simpa using h2)=(l.map f)[q]:=by simp
  simp only [this]
  exact .imm ((Uk (h l[q])).mem _ (by simp)))
def RsX(st:St)(L:Xv):List (List AV)->List (List AV)->Prop
 | [],[]=>True
 |r0 ::l,r ::q=>(Uf st L r0 r/\Zm r0=true)/\RsX st L l q
 |_,_=>False
theorem RsX.get{st:St}{L:Xv}:∀{l r:List (List AV)},RsX st L l r->l.length=r.length/\∀i (h:i<l.length) (h':i<r.length),Uf st L l[i] r[i]/\Zm l[i]=true
 | [],[],_=>⟨rfl,λi h=>by cases h⟩
 | [],_ :: _,h=>h.elim
 |_ :: _,[],h=>h.elim
 |x ::l,y ::r,h=>by
  obtain ⟨h1,h2⟩:=RsX.get h.2;refine ⟨by simp [h1],λi hi hi'=>?_⟩
  cases i with
  |zero=>exact h.1
  |succ i=>exact h2 i (by simpa using hi) (by simpa using hi')
theorem DA{st:St}{L:Xv}{b sz n:Nat}{els els':List (List AV)}(hD:UH L b=false)(hb:st[b]?=some (some (sz,els)))(h:RsX st L els' els)(hn:els.length=n:=by rfl):Rs st L (.isl sz els') (.msl b 0 n):=by
 subst hn;refine .sl hD hb (by simp) h.get.1 (λr hr x hx=>?_) (λq _ h1 h2=>?_) (λq _ h1 h2 j h3 h4=>?_)
 .obtain ⟨i,hi,rfl⟩:=JI hr;exact (Uk (h.get.2 i hi (by rw [<-h.get.1];exact hi)).2).mem x hx
 .have:=(h.get.2 q h2 (by omega)).1.get.1;simp only [QP];exact this.symm
 .have:=(h.get.2 q h2 (by omega)).1.get.2 j h4 (by simpa using h3);simpa using this
theorem Xw{α:Type}{sz:Nat}{l:List α}{f:α->List AV}(h:∀x,Zm (f x)=true):(SB.many sz (l.map f)).ok:=λr hr x hx=>by
 obtain ⟨y,_,rfl⟩:=QW.1 hr;exact (Uk (h y)).mem x hx
def OW(n nb0:Nat)(K:Ev->St->Prop)(env:Ev)(st:St):Prop:=∀A m w a,nb0≤st.length->R A m w st->Env A m st.length w n env a->Ku A m nb0 w n K a w
theorem zl{n nb0:Nat}{K:Ev->St->Prop}{env:Ev}{st:St}(h:K env st):OW n nb0 K env st:=λA m w a h0 hR hE=>⟨A,m,env,st,hR,hE,Xr.refl0 _ _ _ _ h0,h⟩
theorem zGJ{P:Program}{n nb0:Nat}{env:Ev}{st:St}{id:Nat}{c:Code}{Q:Exit->Ev->St->Prop}{X B R:Type}(E:X->Ev)(S:X->St)(E':B->Ev)(S':B->St)(post:R->Ev->St->Prop){body:X->Option (Sum X (Sum B R))}{z0:X}{o:Sum B R}
  (ho:zk body z0=some o) (hc:Can nb0 (E z0) (S z0) env st) (round:∀z r,body z=some r->SW P n nb0 c (LQ id nb0 E S E' S' post r) (E z) (S z))
  (hb:∀b,o=.inl b->OW n nb0 (Q .normal) (E' b) (S' b)) (hr:∀r,o=.inr r->∀env st,post r env st->Q .ret env st):SW P n nb0 (.block id (.loop c)) Q env st:=by
 obtain ⟨N,hN⟩:=Ok ho
 have key:SW P n nb0 (.block id (.loop c)) (λe env st=>match e with |.normal=>∃b,o=.inl b/\Can nb0 (E' b) (S' b) env st |e=>Q e env st) env st:=by
  refine zh (zze (λk env st=>∃z,ZR body k z=some o/\Can nb0 (E z) (S z) env st) N ⟨z0,hN,hc⟩ ?_);rintro k env st ⟨z,hz,hcan⟩
  cases k with
  |zero=>cases hz
  |succ k =>
   unfold ZR at hz
   cases hbz:body z with
   |none=>rw [hbz] at hz;cases hz
   |some r =>
    rw [hbz] at hz;refine Wz hcan ((round z r hbz).mono λe env st h=>?_)
    cases e with
    |normal =>
     obtain ⟨z',rfl,h2⟩:=h;exact ⟨k,QS k,z',hz,h2⟩
    |exit i =>
     obtain ⟨rfl,b,rfl,h2⟩:=h;simp only [IJ,WA,if_true];exact ⟨b,(sm hz).symm,h2⟩
    |ret =>
     obtain ⟨r',rfl,h2⟩:=h;exact hr r' (sm hz).symm env st h2
    |goto l=>exact h.elim
    |panic c=>exact h.elim
    |outgrown=>exact h.elim
 intro A m w a h0 hR hE;refine wp_mono (key A m w a h0 hR hE) λe a' w' ho=>?_
 cases e with
 |normal =>
  obtain ⟨A',m',e',s',k1,k2,k3,b,hob,L,h1,h2,h3,h4,h5⟩:=ho;have hs:=GT.of h2 h3;exact (hb b hob _ _ _ _ h5 (k1.rs hs) (k2.rs k1 hs h1)).trans (k3.rs hs h4 h5)
 |exit i=>exact ho
 |ret=>exact ho
 |goto l=>exact ho
 |panic c=>exact ho
 |outgrown=>exact ho
section
variable {P : Program} {env : Ev} {st : St} {K : Ev -> St -> Prop} {d : Nat} {ty : TypeId} {pos : String} {aft : Array Edge} {gu : Option (Nat × Bool)}
theorem roX{α:Type}{sz b n:Nat}{z:List α}{f:α->List AV}(hb:st[b]?=some (some (sz,z.map f)))(hn:n=z.length):UA st sz (.msl b 0 n)=some (z.map f):=by subst hn;exact roM hb
theorem zzv{α:Type}{l r:List α}{a b:Int}(h:XK l a b=some r):0≤a/\a≤b/\b≤l.length:=by
 unfold XK at h;split at h
 .assumption
 .cases h
theorem KK{α:Type}{l r:List α}{a b:Int}{x:Operand}{k:Nat}(hx:ev env x=some (.lit (.int .i64 a)))(h:XK l a b=some r):ZU env k (some x)=some a.toNat:=by
 simp [ZU,hx,zC8,(zzv h).1]
theorem HF{α:Type}{l r:List α}{a b:Int}{x:Operand}{k:Nat}(hx:ev env x=some (.lit (.int .i64 b)))(h:XK l a b=some r):ZU env k (some x)=some b.toNat:=by
 have:=zzv h;simp [ZU,hx,zC8,show 0≤b by omega]
end
theorem si{st:St}{v:AV}(h:GR v=true):Zr st v v:=.imm (Ol h)
def HG(st:St):List AV->List AV->Prop
 | [],[]=>True
 |x ::l,y ::r=>Zr st x y/\HG st l r
 |_,_=>False
theorem HG.get{st:St}:∀{l r:List AV},HG st l r->l.length=r.length/\∀i (h:i<l.length) (h':i<r.length),Zr st l[i] r[i]
 | [],[],_=>⟨rfl,λi h=>by cases h⟩
 | [],_ :: _,h=>h.elim
 |_ :: _,[],h=>h.elim
 |x ::l,y ::r,h=>by
  obtain ⟨h1,h2⟩:=HG.get h.2;refine ⟨by simp [h1],λi hi hi'=>?_⟩
  cases i with
  |zero=>exact h.1
  |succ i=>exact h2 i (by simpa using hi) (by simpa using hi')
theorem XM{α:Type}{st:St}{b sz:Nat}{l:List α}{f:α->List AV}(hb:st[b]?=some (some (sz,l.map f)))(h:∀x,Zm (f x)=true):Zr st (.msl b 0 l.length) (.isl sz (l.map f)):=
 .msl hb (by simp) (by simp) (λq _ _ _=>by simp) (λq _ _ h2 j _ h4=>by
  have:(l.map f)[0+q]'(by simpa using h2)=(l.map f)[q]:=by simp
  simp only [this];refine .imm ?_;obtain ⟨y,_,hy⟩:=QW.1 (Qi h2);have h6:=(Uk (h y)).mem;rw [hy] at h6
  exact h6 _ (Qi h4))
def zBX(st:St):List (List AV)->List (List AV)->Prop
 | [],[]=>True
 |x ::l,y ::r=>HG st x y/\zBX st l r
 |_,_=>False
theorem zBX.get{st:St}:∀{l r:List (List AV)},zBX st l r->l.length=r.length/\∀i (h:i<l.length) (h':i<r.length),HG st l[i] r[i]
 | [],[],_=>⟨rfl,λi h=>by cases h⟩
 | [],_ :: _,h=>h.elim
 |_ :: _,[],h=>h.elim
 |x ::l,y ::r,h=>by
  obtain ⟨h1,h2⟩:=zBX.get h.2;refine ⟨by simp [h1],λi hi hi'=>?_⟩
  cases i with
  |zero=>exact h.1
  |succ i=>exact h2 i (by simpa using hi) (by simpa using hi')
theorem zI8{st:St}{b sz n:Nat}{els els':List (List AV)}(hb:st[b]?=some (some (sz,els)))(h:zBX st els els')(hn:els.length=n:=by rfl):Zr st (.msl b 0 n) (.isl sz els'):=by
 subst hn;refine .msl hb (by simp) h.get.1.symm (λq _ h1 h2=>?_) (λq _ h1 h2 j h3 h4=>?_)
 .have:=(h.get.2 q (by omega) h2).get.1;simp only [QP];exact this
 .have:=(h.get.2 q (by omega) h2).get.2 j (by simpa using h3) h4;simpa using this
theorem XR{st:St}{b k j:Nat}{cs cs':List AV}(hb:st[b]?=some (some (k,[cs])))(h:HG st cs cs'):Zr st (.mpt b 0 j) (.ipt k [cs'] 0 j):=by
 refine .mpt hb rfl (λq h1 h2=>?_) (λq h1 h2 i h3 h4=>?_)
 .have:q=0:=by simp at h1;exact h1
  subst this;exact h.get.1
 .have:q=0:=by simp at h1;exact h1
  subst this;exact h.get.2 i h3 h4
theorem ZA{st:St}{f:Fn}{a a' b b':List AV}(h:HG st a a')(h':HG st b b'):Zr st (.fn f a b) (.fn f a' b'):=.fn h.get.1 h.get.2 h'.get.1 h'.get.2
mutual
def plB:AV->Bool
 |.any=>true
 |.lit _=>true
 |.agg cs=>zJj cs
 |.tup cs=>zJj cs
 |_=>false
def zJj:List AV->Bool
 | []=>true
 |x ::l=>plB x&&zJj l
end
inductive B9:List AV->Prop
 |nil:B9 []
 |cons {x l} (h:Kp x) (t:B9 l):B9 (x ::l)
theorem B9.mem{l:List AV}(h:B9 l):∀x∈l,Kp x:=by
 induction h with
 |nil=>exact λx hx=>by cases hx
 |cons h _ ih =>
  intro x hx
  rcases Qu.1 hx with h1 |h1
  .exact h1 ▸ h
  .exact ih x h1
mutual
theorem zGE:∀{x:AV},plB x=true->Kp x
 |.any,_=>.any
 |.lit v,_=>.lit v
 |.isl _ _,h=>by cases h
 |.ipt _ _ _ _,h=>by cases h
 |.msl _ _ _,h=>by cases h
 |.mpt _ _ _,h=>by cases h
 |.fn _ _ _,h=>by cases h
 |.agg cs,h=>.agg cs (zyU h).mem
 |.tup cs,h=>.tup cs (zyU h).mem
theorem zyU:∀{l:List AV},zJj l=true->B9 l
 | [],_=>.nil
 |x ::l,h=>.cons (zGE (QX.1 h).1) (zyU (QX.1 h).2)
end
theorem XA{v:AV}(h:plB v=true:=by rfl):Kp v:=zGE h
theorem mkI{α:Type}{l:List α}{f:α->List AV}(h:∀x,Zm (f x)=true):∀r∈l.map f,∀x∈r,Imm x:=λr hr x hx=>by
 obtain ⟨y,_,rfl⟩:=QW.1 hr;exact (Uk (h y)).mem x hx
inductive Nl:AV->AV->Prop
 |imm {x} (h:Imm x):Nl x x
 |nil {k}:Nl (.lit (.slice none 0 0)) (.isl k [])
 |agg {cs cs':List AV} (hl:cs.length=cs'.length) (hr:∀i (h:i<cs.length) (h':i<cs'.length),Nl cs[i] cs'[i]):Nl (.agg cs) (.agg cs')
theorem Nl.vi{A:Nat->Prop}{w:World}{x y:AV}(h:Nl x y):∀{v m nb},V A m nb w x v->VI A w y v:=by
 induction h with
 |imm h=>exact λhv=>h.vi hv
 |nil=>intro v m nb hv;rw [hv.lit_inv];exact .inil _ _ _
 |agg hl hr ih =>
  intro v m nb hv;obtain ⟨a,rfl,h1,h2⟩:=hv.agg_inv;exact .agg _ _ (by omega) λi hi=>ih i (by omega) hi (h2 i (by omega))
def NlL:List AV->List AV->Prop
 | [],[]=>True
 |x ::l,y ::r=>Nl x y/\NlL l r
 |_,_=>False
theorem NlL.get:∀{l r:List AV},NlL l r->l.length=r.length/\∀i (h:i<l.length) (h':i<r.length),Nl l[i] r[i]
 | [],[],_=>⟨rfl,λi h=>by cases h⟩
 | [],_ :: _,h=>h.elim
 |_ :: _,[],h=>h.elim
 |x ::l,y ::r,h=>by
  obtain ⟨h1,h2⟩:=NlL.get h.2;refine ⟨by simp [h1],λi hi hi'=>?_⟩
  cases i with
  |zero=>exact h.1
  |succ i=>exact h2 i (by simpa using hi) (by simpa using hi')
theorem nlI{v:AV}(h:GR v=true):Nl v v:=.imm (Ol h)
theorem nlN{k:Nat}:Nl (.lit (.slice none 0 0)) (.isl k []):=.nil
theorem nlA{cs cs':List AV}(h:NlL cs cs'):Nl (.agg cs) (.agg cs'):=.agg h.get.1 h.get.2
theorem pcn{P:Program}{env:Ev}{st:St}{K:Ev->St->Prop}{d:Nat}{ty:TypeId}{pos:String}{aft:Array Edge}{gu:Option (Nat×Bool)}{c:Call}{g:FuncId}{args args':List AV}{res:AV}(h:Xo P g args' res)
  (hc:ZO (.call c)=true) (hg:Ko env (.call c)=some (g,args)) (hi:NlL args args') (k:K ((d,res)::env) st):SOp P ⟨some d,.call c,ty,pos,aft,gu⟩ env st K:=by
 unfold SOp;simp only [hc,hg];refine ⟨h.1,λA m w vals hR hv=>(h.2 A w vals hR.aLow ⟨by rw [<-hi.get.1];exact hv.1,λi hi'=>(hi.get.2 i (by rw [hi.get.1];exact hi') hi').vi (hv.2 i (by rw [hi.get.1];exact hi'))⟩).mono λe w' ⟨v,he,hg,hvi⟩=>?_⟩;obtain ⟨h1,h2⟩:=hR.grow (A':=zB9 A w w') hg (λB hB=>.inl hB) (λB hB=>hB);exact ⟨v,_,m,st,res,he,h1,h2,.imm hvi,k⟩
theorem rnI{ρ:Nat->Option Nat}{v:AV}(h:GR v=true):Rn ρ v v:=.imm (Ol h)
def GY(all:List Oper)(s i:Nat):Bool:=
 match all[s]? with
 |some o=>o.after.toList.any λe=>Region.binds .any e&&Nat.beq e.on i
 |none=>false
def Wv(all:List Oper)(i:Nat):List Nat->Bool
 | []=>true
 |s ::p=>(!GY all s i)&&Wv all i p
def KL(all:List Oper)(ss p en:List Nat)(i:Nat):Bool:=
 match all[i]? with
 |some o=>o.after.toList.all λe=>!Region.binds .any e||(if Xt e.on ss then Xt e.on p else Xt e.on en)
 |none=>false
def Kd(all:List Oper)(ss p en:List Nat):Bool:=
 (List.range all.length).all λi=>Xt i ss||Xt i en||!KL all ss p en i
def Z9(p:List Nat):List Nat->Bool
 | []=>true
 |s ::r=>Xt s p&&Z9 p r
def Dc(all:List Oper)(i:Nat):Nat->List Oper->List Tmp
 |_,[]=>[]
 |k,o ::r=>match o.dst with
  |some t=>if GY all k i then Dc all i (k+1) r else t ::Dc all i (k+1) r
  |none=>Dc all i (k+1) r
def ea(all:List Oper)(e0:Ev)(i:Nat):Ev:=Kr (Dc all i 0 all) e0
theorem zz3{all:List Oper}{i:Nat}:∀{l:List Oper} {k:Nat} {j:Nat} {t:Tmp},X6 l j=some t->GY all (k+j) i=false->t∈Dc all i k l
 | [],k,j,t,h,_=>by simp [X6] at h
 |o ::l,k,0,t,h,hw=>by
  have hd:o.dst=some t:=by simpa [X6] using h
  unfold Dc;rw [hd];simp only [Jd] at hw;simp [hw]
 |o ::l,k,j+1,t,h,hw=>by
  have h1:t∈Dc all i (k+1) l:=zz3 (j:=j) (by simpa [X6] using h) (by rw [QR,Yc 1];exact hw);unfold Dc;split
  .split
   .exact h1
   .exact Ji _ h1
  .exact h1
theorem zHg{all:List Oper}{e0:Ev}{i:Nat}{t:Tmp}{v:AV}(h:look (ea all e0 i) t=some v):look e0 t=some v/\∀j,X6 all j=some t->GY all j i=true:=by
 refine ⟨zmS.2 v h,λj hj=>?_⟩
 cases hw:GY all j i with
 |true=>rfl
 |false =>
  have:=(zmS (e:=e0) (ds:=Dc all i 0 all) (t:=t)).1 (zz3 (k:=0) hj (by rw [QP];exact hw));unfold ea at h;rw [this] at h;cases h
def Uy(P:Program)(all:List Oper)(env0 F:Ev)(st:St)(i:Nat):Prop:=
 match all[i]? with
 |some o=>∃v,(match o.dst with |some t=>look F t=some v |none=>True)/\Wp P all (ea all env0 i) st F o v
 |none=>False
def UM(P:Program)(all:List Oper)(env0 F:Ev)(st:St)(p:List Nat):List Nat->Prop
 | []=>True
 |i ::r=>(Wv all i p=true->Uy P all env0 F st i)/\UM P all env0 F st p r
theorem UM.at{P all env0 F st p}:∀{l:List Nat},UM P all env0 F st p l->∀i,Xt i l=true->Wv all i p=true->Uy P all env0 F st i
 | [],_,i,h,_=>by cases h
 |x ::l,h,i,hm,hp=>by
  simp only [Xt,Qt] at hm
  rcases hm with h1 |h1
  .have:=Ql h1;subst this;exact h.1 hp
  .exact UM.at h.2 i h1 hp
def XZ:Ev->List Nat
 | []=>[]
 |(t,_)::e=>t ::XZ e
def UQ(all:List Oper)(l:List Nat):List Nat->Bool
 | []=>true
 |k ::r=>(l.any λj=>match X6 all j with |some t=>Nat.beq t k |none=>false)&&UQ all l r
theorem zqq{all:List Oper}{l:List Nat}:∀{ks:List Nat},UQ all l ks=true->∀k∈ks,∃j,Xt j l=true/\X6 all j=some k
 | [],_,k,h=>by cases h
 |x ::r,h,k,hk=>by
  simp only [UQ,Qd] at h
  rcases Qu.1 hk with rfl |hk
  .obtain ⟨j,h1,h2⟩:=QB.1 h.1;refine ⟨j,GF.2 h1,?_⟩;split at h2
   .rename_i t ht;rw [ht,Ql h2]
   .cases h2
  .exact zqq h.2 k hk
def DT(P:Program)(all:List Oper)(ss:List Nat)(env0:Ev)(K:Ev->St->Prop):Nat->List Nat->List Nat->Ev->St->Prop
 | 0,p,en,F,st=>UM P all env0 F st p en/\Kd all ss p en=true/\Z9 p ss=true/\K (F++Kr (Kl all) env0) st
 |n+1,p,en,F,st=>UM P all env0 F st p en/\Kd all ss p en=true/\Z9 p ss=false/\∀s,Xt s ss=true->Xt s p=false->KL all ss p en s=true ->
   match all[s]? with
   |some o=>K6 (sel F (ea all env0 s) (Zj all o.after.toList)) (GC all o.guard)=some true/\Us P o.op (sel F (ea all env0 s) (Zj all o.after.toList)) st (λav st'=>∃en' new,
     Zu (XZ new) F=true/\UQ all ((s ::p)++(en'++en)) (XZ new)=true/\(match o.dst with |some t=>look (new++F) t=some av |none=>True)/\DT P all ss env0 K n (s ::p) (en'++en) (new++F) st')
   |none=>False
theorem zmM:∀{e:Ev} {t:Nat} {v:AV},look e t=some v->t∈XZ e
 | [],t,v,h=>by cases h
 |(k,x)::e,t,v,h=>by
  simp only [look] at h;split at h
  .rename_i e';subst e';simp [XZ]
  .simp [XZ,zmM h]
theorem zFh{new F:Ev}(hk:Zu (XZ new) F=true){t:Nat}{v:AV}(h:look F t=some v):look (new++F) t=some v:=by
 have h1:=Gj hk h
 have:∀{e:Ev},t ∉ XZ e->look (e++F) t=some v:=λ{e}=>by
  induction e with
  |nil=>intro _;exact h
  |cons p e ih =>
   obtain ⟨k,x⟩:=p;intro hn;simp only [XZ,Qu,not_or] at hn;simp only [J1,look,if_neg (Ne.symm hn.1)];exact ih hn.2
 exact this h1
theorem zAC{all:List Oper}{s i:Nat}{o:Oper}(ho:all[s]?=some o)(h:GY all s i=true):∃e∈o.after.toList,Region.binds .any e=true/\e.on=i:=by
 unfold GY at h;rw [ho] at h;simp only [QB,Qd] at h;obtain ⟨e,h1,h2,h3⟩:=h;exact ⟨e,h1,h2,Ql h3⟩
theorem zuY{p:List Nat}:∀{l:List Nat},(∀s,Xt s l=true->Xt s p=true)->Z9 p l=true
 | [],_=>rfl
 |x ::l,h=>by
  unfold Z9;rw [h x (by simp [Xt]),zuY λs hs=>h s (by simp [Xt,hs])];rfl
theorem zwV{p:List Nat}:∀{l:List Nat},Z9 p l=true->∀s,Xt s l=true->Xt s p=true
 | [],_,s,h=>by cases h
 |x ::l,h,s,hs=>by
  simp only [Z9,Qd] at h;simp only [Xt,Qt] at hs
  rcases hs with h1 |h1
  .rw [<-Ql h1];exact h.1
  .exact zwV h.2 s h1
theorem zyL{s:Nat}:∀{l r:List Nat},Xt s (l++r)=true↔Xt s l=true∨Xt s r=true
 |l,r=>by simp only [GF,Qm]
theorem ztI{s x:Nat}{l:List Nat}:Xt s (x ::l)=true↔s=x∨Xt s l=true:=by simp only [GF,Qu]
theorem zDu{all:List Oper}{i:Nat}:∀{p:List Nat},(∀s,Xt s p=true->GY all s i=false)->Wv all i p=true
 | [],_=>rfl
 |s ::p,h=>by
  unfold Wv;rw [h s (by simp [Xt]),zDu λs hs=>h s (by simp [Xt,hs])];rfl
def zGQ(all:List Oper)(F:Ev)(env0:Ev)(listed:Array Bool)(t:Tmp)(v:AV):Prop:=
 (look env0 t=some v/\∀j,X6 all j=some t->listed.getD j false=false)∨∃j,listed.getD j false=true/\X6 all j=some t/\look F t=some v
theorem zGa{P:Program}{ops:Array Oper}{ss:List Nat}{env0:Ev}{K:Ev->St->Prop}{n nb0:Nat}{Q:Exit->Act->World->Prop}{A0:Nat->Prop}{m0:BM}{w0:World}
  (hok:Hy n ops.toList=true) (hss:∀s,Xt s ss=true->s<ops.size)
  (hQ:∀a w,Ku A0 m0 nb0 w0 n K a w->Q .normal a w):
  ∀(fuel:Nat) (k:Nat) (p en:List Nat) (F:Ev) (st:St) (listed:Array Bool) (A:Nat->Prop) (m:BM) (w:World) (a:Act),DT P ops.toList ss env0 K k p en F st ->
   (∀i,Xt i p=true->listed.getD i false=true)->(∀i,Xt i ss=true->listed.getD i false=true->Xt i p=true)->(∀i,listed.getD i false=true->Xt i ss=false->Xt i en=true) ->
   (∀s i,listed.getD s false=true->GY ops.toList s i=true->listed.getD i false=true)->(∀t v,look F t=some v->∃j,X6 ops.toList j=some t) ->
   (∀j t,listed.getD j false=true->X6 ops.toList j=some t->∃v,look F t=some v) ->
   listed.size=ops.size->listed.toList.countP (· == false)≤fuel->R A m w st->Xr A0 m0 nb0 w0 A m st.length w ->
   a.tmps.size=n->a.defers=[]->(∀t v,zGQ ops.toList F env0 listed t v->t<n/\V A m st.length w v (a.tmps.getD t undef))->wpAny P .any ops Q fuel listed a w:=by
 obtain ⟨hok1,huniq⟩:=zAJ hok
 have lt_of:∀j t,X6 ops.toList j=some t->j<ops.size:=λj t hj=>by
  unfold X6 at hj
  cases ho:ops.toList[j]? with
  |none=>rw [ho] at hj;cases hj
  |some o=>simpa using (Qb.1 ho).1
 have allin:∀listed:Array Bool,listed.size=ops.size->Region.ready .any ops listed=[]->∀j,j<ops.size->listed.getD j false=true:=λlisted hsz hr j=>by
  induction j using Nat.strongRecOn with
  |_ j ihj =>
   intro hj
   cases hb:listed.getD j false with
   |true=>rfl
   |false =>
    exfalso
    have hj':j<listed.size:=by omega
    have hb':listed.getD j true=false:=by simpa [Array.getD,hj'] using hb
    have hoj:ops[j]?=some ops[j]:=QN hj
    have:j∈Region.ready .any ops listed:=mem_ready.2 ⟨hb',_,hoj,λe he hbe=>by
     have hlt:=(hok1 j ops[j] (by simp)).2 e (by simpa using he) hbe
     exact ihj e.on hlt (by omega)⟩
    rw [hr] at this;cases this
 have fin:∀(k:Nat) (p en:List Nat) (F:Ev) (st:St) (listed:Array Bool) (A:Nat->Prop) (m:BM) (w:World) (a:Act),DT P ops.toList ss env0 K k p en F st ->
   (∀i,Xt i ss=true->listed.getD i false=true->Xt i p=true) ->
   (∀t v,look F t=some v->∃j,X6 ops.toList j=some t)->(∀j,j<ops.size->listed.getD j false=true)->R A m w st->Xr A0 m0 nb0 w0 A m st.length w ->
   a.tmps.size=n->a.defers=[]->(∀t v,zGQ ops.toList F env0 listed t v->t<n/\V A m st.length w v (a.tmps.getD t undef))->Q .normal a w:=λk p en F st listed A m w a hD hRu hF hall hR hS h1 h2 hI=>by
  cases k with
  |zero =>
   refine hQ a w ⟨A,m,_,st,hR,zzC h1 h2 λt v htv=>?_,hS,hD.2.2.2⟩
   rcases zv3 htv with h |h
   .refine hI t v (.inl ⟨zmS.2 v h,λj hj=>?_⟩);rw [zmS.1 (zzB hj)] at h;cases h
   .obtain ⟨j,hj⟩:=hF t v h;exact hI t v (.inr ⟨j,hall j (lt_of j t hj),hj,h⟩)
  |succ k =>
   exfalso;have h3:=hD.2.2.1;rw [zuY λs hs=>hRu s hs (hall s (hss s hs))] at h3;cases h3
 intro fuel
 induction fuel with
 |zero =>
  intro k p en F st listed A m w a hD r0 r1 r2 hW hF hL hsz hc hR hS h1 h2 hI
  have hall:∀j,j<ops.size->listed.getD j true=true:=λj hj=>by
   have h0:listed.toList.countP (· == false)=0:=by omega
   rw [List.countP_eq_zero] at h0
   have hj':j<listed.size:=by omega
   have:=h0 listed[j] (by simp)
   have e:listed.getD j true=listed[j]:=by simp [Array.getD,hj']
   rw [e];simpa using this
  refine ⟨?_,fin k p en F st listed A m w a hD r1 hF (λj hj=>?_) hR hS h1 h2 hI⟩
  .rw [List.eq_nil_iff_forall_not_mem];intro j hj;obtain ⟨h3,o,ho,_⟩:=mem_ready.1 hj;rw [hall j (Ye.1 ho).1] at h3;cases h3
  .have:=hall j hj
   have hj':j<listed.size:=by omega
   simpa [Array.getD,hj'] using this
 |succ fuel ih =>
  intro k p en F st listed A m w a hD r0 r1 r2 hW hF hL hsz hc hR hS h1 h2 hI;refine ⟨λhr=>fin k p en F st listed A m w a hD r1 hF (allin listed hsz hr) hR hS h1 h2 hI,λi hi=>?_⟩;obtain ⟨h3,o,ho,hdep⟩:=mem_ready.1 hi;have hil:i<ops.size:=(Ye.1 ho).1
  have hil':i<listed.size:=by omega
  have hoL:ops.toList[i]?=some o:=by simpa using ho
  have hdi:X6 ops.toList i=o.dst:=by unfold X6;rw [hoL];rfl
  have hnl:listed.getD i false=false:=by simpa [Array.getD,hil'] using h3
  have hE:Env A m st.length w n (sel F (ea ops.toList env0 i) (Zj ops.toList o.after.toList)) a:=zzC h1 h2 λt u htu=>hI t u ((zv5 htu).imp (λh=>by
    obtain ⟨h3,h4⟩:=zHg h;refine ⟨h3,λj hj=>?_⟩
    cases hl:listed.getD j false with
    |false=>rfl
    |true=>rw [hW j i hl (h4 j hj)] at hnl;cases hnl) λ⟨he,hF⟩=>by
   obtain ⟨e,he1,hb,hd⟩:=zvJ he
   exact ⟨e.on,hdep e (by simpa using he1) hb,hd,hF⟩)
  have hcnt:(listed.setIfInBounds i true).toList.countP (· == false)≤fuel:=by
   have hli:listed[i]=false:=by simpa [Array.getD,hil'] using h3
   have e1:(listed.setIfInBounds i true).toList=listed.toList.set i true:=by simp
   have hlt:i<listed.toList.length:=by simpa using hil'
   have hpos:0<listed.toList.countP (· == false):=List.countP_pos_iff.2 ⟨false,by rw [<-hli];simp,rfl⟩;rw [e1,List.countP_set hlt]
   have e2:listed.toList[i]=false:=by simpa using hli
   have e3:(true == false)=false:=rfl;have e4:(false == false)=true:=rfl;simp only [e2,e3,e4,if_true,Jx,if_false];omega
  have set_ne:∀j,j≠i->(listed.setIfInBounds i true).getD j false=listed.getD j false:=λj hj=>by
   rw [getD_set_ne false (Ne.symm hj)]
  have set_eq:(listed.setIfInBounds i true).getD i false=true:=by simp [Array.getD,hil']
  have set_up:∀j,listed.getD j false=true->(listed.setIfInBounds i true).getD j false=true:=λj hj=>by
   by_cases h:j=i
   .subst h;exact set_eq
   .rw [set_ne j h];exact hj
  have hdn:=(hok1 i o hoL).1
  have old:∀(val:Value) (v:AV) (w':World) (A':Nat->Prop) (m':BM) (nb':Nat) (t:Nat) (u:AV),Xr A m st.length w A' m' nb' w'->V A' m' nb' w' v val ->
    zGQ ops.toList F env0 listed t u->(X6 ops.toList i≠some t)->t<n/\V A' m' nb' w' u ((a.put o.dst val).tmps.getD t undef):=λval v w' A' m' nb' t u hS' hV hj hne=>by
   have hE1:Env A m st.length w n [(t,u)] a:=zzC h1 h2 λt' u' h'=>by
    rcases zoQ h' with ⟨rfl,rfl⟩ |h''
    .exact hI _ _ hj
    .cases h''
   have hE2:=(hE1.step hR hS').aput hdn hV;refine hE2.val t u ?_
   cases hdd:o.dst with
   |none=>simp [aput,look]
   |some d =>
    have:d≠t:=λe=>hne (by rw [hdi,hdd,e]);simp [aput,look,this]
  have new_:∀(val:Value) (v:AV) (w':World) (A':Nat->Prop) (m':BM) (nb':Nat) (t:Nat),Xr A m st.length w A' m' nb' w'->V A' m' nb' w' v val->o.dst=some t->t<n/\V A' m' nb' w' v ((a.put o.dst val).tmps.getD t undef):=λval v w' A' m' nb' t hS' hV hd=>by
   have hE0:Env A m st.length w n [] a:=zzC h1 h2 λt' u' (h':none=some u')=>by cases h'
   have hE2:=(hE0.step hR hS').aput hdn hV;exact hE2.val t v (by rw [hd];simp [aput,look])
  unfold wpOp;rw [ho];simp only
  cases his:Xt i ss with
  |true =>
   have hnp:Xt i p=false:=by
    cases h:Xt i p with
    |false=>rfl
    |true=>rw [r0 i h] at hnl;cases hnl
   have hwi:KL ops.toList ss p en i=true:=by
    unfold KL;rw [hoL];simp only [Qp,Qt,Qk];intro e he
    cases hb:Region.binds .any e with
    |false=>exact .inl rfl
    |true =>
     refine .inr ?_;have hl:=hdep e (by simpa using he) hb;split
     .rename_i hs;exact r1 _ hs hl
     .rename_i hs;exact r2 _ hl (by simpa using hs)
   cases k with
   |zero =>
    exfalso;have:=zwV hD.2.2.1 i his;rw [hnp] at this;cases this
   |succ k =>
    have hst:=hD.2.2.2 i his hnp hwi;rw [hoL] at hst;simp only at hst;obtain ⟨hg,hop⟩:=hst;rw [DM hE ((zth _ _ _).trans hg)];simp only [if_true];refine .inl (zGC hR hE hop λval w' A' m' st' av k1 k2 k3 ⟨en',new,k4,k5,k6,k7⟩=>?_);have hlk:∀t u,look F t=some u->look (new++F) t=some u:=λt u h=>zFh k4 h;refine ih k (i ::p) (en'++en) (new++F) st' _ A' m' w' _ k7 (λj hj=>?_) (λj hj hl=>?_) (λj hl hj=>?_) (λs j hs hw=>?_) (λt v ht=>?_) (λj t hl hj=>?_) (by simpa using hsz) hcnt k1 (hS.trans0 (k2.weak (Qg _) |> λh=>h.weak hS.nbLe)) (by cases hdd:o.dst <;> simp [Act.put,h1]) (by cases hdd:o.dst <;> simp [Act.put,h2]) (λt u hJ=>?_)
    .rcases ztI.1 hj with rfl |h
     .exact set_eq
     .exact set_up j (r0 j h)
    .by_cases h:j=i
     .subst h;exact ztI.2 (.inl rfl)
     .rw [set_ne j h] at hl;exact ztI.2 (.inr (r1 j hj hl))
    .by_cases h:j=i
     .subst h;rw [his] at hj;cases hj
     .rw [set_ne j h] at hl;exact zyL.2 (.inr (r2 j hl hj))
    .by_cases h:s=i
     .subst h;obtain ⟨e,he,hb,rfl⟩:=zAC hoL hw;exact set_up _ (hdep e (by simpa using he) hb)
     .rw [set_ne s h] at hs;exact set_up _ (hW s j hs hw)
    .rcases zv3 (e:=F) (G:=new) ht with h |h
     .exact hF t v h
     .obtain ⟨j,_,hj⟩:=zqq k5 t (zmM h);exact ⟨j,hj⟩
    .by_cases h:j=i
     .subst h;rw [hdi] at hj;rw [hj] at k6;exact ⟨av,k6⟩
     .rw [set_ne j h] at hl;obtain ⟨v,hv⟩:=hL j t hl hj;exact ⟨v,hlk t v hv⟩
    .rcases hJ with ⟨hJ,hJ2⟩ |⟨j,hj1,hj2,hj3⟩
     .have hni:X6 ops.toList i≠some t:=λhd=>by
       have:=hJ2 i hd;rw [set_eq] at this;cases this
      refine old val av w' A' m' st'.length t u k2 k3 (.inl ⟨hJ,λj hj=>?_⟩) hni;have:=hJ2 j hj;by_cases h:j=i
      .subst h;exact absurd hj hni
      .rwa [set_ne j h] at this
     .by_cases hji:j=i
      .subst hji;rw [hdi] at hj2;rw [hj2] at k6;have hu:u=av:=Option.some.inj (hj3.symm.trans k6);subst hu;exact new_ val u w' A' m' st'.length t k2 k3 hj2
      .rw [set_ne j hji] at hj1;obtain ⟨v,hv⟩:=hL j t hj1 hj2;have hu:u=v:=Option.some.inj (hj3.symm.trans (hlk t v hv));subst hu;exact old val av w' A' m' st'.length t u k2 k3 (.inr ⟨j,hj1,hj2,hv⟩) λhd=>hji (huniq _ _ _ hj2 hd)
  |false =>
   have hcl:Kd ops.toList ss p en=true:=by cases k <;> exact hD.2.1
   have hpa:UM P ops.toList env0 F st p en:=by cases k <;> exact hD.1
   have hwi:KL ops.toList ss p en i=true:=by
    unfold KL;rw [hoL];simp only [Qp,Qt,Qk];intro e he
    cases hb:Region.binds .any e with
    |false=>exact .inl rfl
    |true =>
     refine .inr ?_;have hl:=hdep e (by simpa using he) hb;split
     .rename_i hs;exact r1 _ hs hl
     .rename_i hs;exact r2 _ hl (by simpa using hs)
   have hen:Xt i en=true:=by
    have:=(Qp.1 hcl) i (JF.2 (by simpa using hil));rw [his,hwi] at this;simpa using this
   have hpe:Wv ops.toList i p=true:=zDu λs hs=>by
    cases hw:GY ops.toList s i with
    |false=>rfl
    |true=>rw [hW s i (r0 s hs) hw] at hnl;cases hnl
   have hat:=hpa.at i hen hpe;unfold Uy at hat;rw [hoL] at hat;simp only at hat;obtain ⟨v,hv,hop⟩:=hat
   have next:∀(val:Value) (w':World) (A':Nat->Prop) (m':BM),R A' m' w' st->Xr A m st.length w A' m' st.length w'->V A' m' st.length w' v val->wpAny P .any ops Q fuel (listed.setIfInBounds i true) (a.put o.dst val) w':=λval w' A' m' hR' hS' hV=>by
    refine ih k p en F st _ A' m' w' _ hD (λj hj=>set_up j (r0 j hj)) (λj hj hl=>?_) (λj hl hj=>?_) (λs j hs hw=>?_) hF (λj t hl hj=>?_) (by simpa using hsz) hcnt hR' (hS.trans0 (hS'.weak hS.nbLe)) (by cases hdd:o.dst <;> simp [Act.put,h1]) (by cases hdd:o.dst <;> simp [Act.put,h2]) λt u hJ=>?_
    .by_cases h:j=i
     .subst h;rw [his] at hj;cases hj
     .rw [set_ne j h] at hl;exact r1 j hj hl
    .by_cases h:j=i
     .subst h;exact hen
     .rw [set_ne j h] at hl;exact r2 j hl hj
    .by_cases h:s=i
     .subst h;obtain ⟨e,he,hb,rfl⟩:=zAC hoL hw;exact set_up _ (hdep e (by simpa using he) hb)
     .rw [set_ne s h] at hs;exact set_up _ (hW s j hs hw)
    .by_cases h:j=i
     .subst h;rw [hdi] at hj;rw [hj] at hv;exact ⟨v,hv⟩
     .rw [set_ne j h] at hl;exact hL j t hl hj
    .rcases hJ with ⟨hJ,hJ2⟩ |⟨j,hj1,hj2,hj3⟩
     .have hni:X6 ops.toList i≠some t:=λhd=>by
       have:=hJ2 i hd;rw [set_eq] at this;cases this
      refine old val v w' A' m' st.length t u hS' hV (.inl ⟨hJ,λj hj=>?_⟩) hni;have:=hJ2 j hj;by_cases h:j=i
      .subst h;exact absurd hj hni
      .rwa [set_ne j h] at this
     .by_cases hji:j=i
      .subst hji;rw [hdi] at hj2;rw [hj2] at hv;have hu:u=v:=Option.some.inj (hj3.symm.trans hv);subst hu;exact new_ val u w' A' m' st.length t hS' hV hj2
      .rw [set_ne j hji] at hj1;exact old val v w' A' m' st.length t u hS' hV (.inr ⟨j,hj1,hj2,hj3⟩) λhd=>hji (huniq _ _ _ hj2 hd)
   unfold Wp at hop;split at hop
   .rename_i hg;rw [DM hE ((zth _ _ _).trans hg)];simp only [if_true];refine .inl (zGC hR hE hop λval w' A' m' st' av k1 k2 k3 ⟨k4,k5⟩=>?_);subst k4;subst k5
    exact next val w' A' m' k1 k2 k3
   .rename_i hg;rw [DM hE ((zth _ _ _).trans hg)];simp only [Jx,if_false];subst hop
    exact next undef w A m hR (Xr.refl _ _ _ _) (.imm (.lit _))
   .exact hop.elim
def G3(k:Nat):List Nat->Bool
 | []=>true
 |x ::l=>Nat.blt x k&&G3 k l
theorem zxo{k:Nat}:∀{l:List Nat},G3 k l=true->∀s,Xt s l=true->s<k
 | [],_,s,h=>by cases h
 |x ::l,h,s,hs=>by
  simp only [G3,Qd] at h;simp only [Xt,Qt] at hs
  rcases hs with h1 |h1
  .rw [<-Ql h1];exact QD h.1
  .exact zxo h.2 s h1
theorem Gh{P:Program}{n nb0:Nat}{Q:Exit->Ev->St->Prop}{env:Ev}{st:St}{id:Nat}{ops:Array Oper}(ss en:List Nat)(F:Ev)(k:Nat)(hm:P.follows .mixedOrders=true)(hok:Hy n ops.toList=true)(hss:G3 ops.size ss=true)(hks:UQ ops.toList en (XZ F)=true)
  (h:DT P ops.toList ss env (Q .normal) k [] en F st):SW P n nb0 (.region id ops true) Q env st:=by
 intro A m w a h0 hR hE
 have hg:X3 w { w with drawn:=w.drawn+1 }:=⟨Qg _,λ_ _=>rfl,rfl,rfl,rfl⟩
 obtain ⟨hR1,hS1⟩:=hR.grow' hg;refine wp_region_any hm ?_
 have hf:∀j,(Array.replicate ops.size false).getD j false=false:=λj=>by simp [Array.getD]
 refine zGa (n:=n) (nb0:=nb0) (A0:=A) (m0:=m) (w0:=w) (K:=Q .normal) (Q:=λe a' w'=>Ku A m nb0 w n (Q e) a' w') hok (zxo hss) (λa w h=>h) ops.size k [] en F st _ A m _ a h
  (λi hi=>by cases hi) (λi _ hl=>by rw [hf] at hl;cases hl) (λi hl _=>by rw [hf] at hl;cases hl) (λs i hs _=>by rw [hf] at hs;cases hs) (λt v ht=>?_) (λj t hl _=>by rw [hf] at hl;cases hl) (by simp) ?_ hR1 (hS1.weak h0) hE.size hE.defers ?_
 .obtain ⟨j,_,hj⟩:=zqq hks t (zmM ht);exact ⟨j,hj⟩
 .refine QL (List.countP_le_length) ?_;simp
 .intro t v hJ
  rcases hJ with ⟨hJ,_⟩ |⟨j,hj,_⟩
  .exact (hE.step hR hS1).val t v hJ
  .rw [hf] at hj;cases hj
theorem rd{P:Program}{n nb0:Nat}{Q:Exit->Ev->St->Prop}{env:Ev}{st:St}{id:Nat}{ops:Array Oper}{y:Code}(E:Ev)(S:St)(ss en:List Nat)(F:Ev)(k:Nat)(hm:P.follows .mixedOrders=true)(hok:Hy n ops.toList=true)(hss:G3 ops.size ss=true)(hks:UQ ops.toList en (XZ F)=true)
  (h:DT P ops.toList ss env (λenv st=>Can nb0 E S env st) k [] en F st) (hy:SW P n nb0 y Q E S):SW P n nb0 (.seq (.region id ops true) y) Q env st:=
 ze ((Gh (Q:=λe env st=>match e with |.normal=>Can nb0 E S env st |_=>False) ss en F k hm hok hss hks h).mono λe env st h=>by
  cases e with
  |normal=>exact Wz h hy
  |_=>exact h.elim)
theorem rdL{P:Program}{n nb0:Nat}{Q:Exit->Ev->St->Prop}{env:Ev}{st:St}{id:Nat}{ops:Array Oper}(E:Ev)(S:St)(ss en:List Nat)(F:Ev)(k:Nat)(hm:P.follows .mixedOrders=true)(hok:Hy n ops.toList=true)(hss:G3 ops.size ss=true)(hks:UQ ops.toList en (XZ F)=true)
  (h:DT P ops.toList ss env (λenv st=>Can nb0 E S env st) k [] en F st) (hy:Q .normal E S):SW P n nb0 (.region id ops true) Q env st:=by
 intro A m w a h0 hR hE
 refine wp_mono (Gh (Q:=λe env st=>match e with |.normal=>Can nb0 E S env st |_=>False) ss en F k hm hok hss hks h A m w a h0 hR hE) λe a' w' ho=>?_
 obtain ⟨A',m',e',s',h1,h2,h3,h4⟩:=ho
 cases e with
 |normal =>
  obtain ⟨L,c1,c2,c3,c4,c5⟩:=h4;have hs:=GT.of c2 c3;exact ⟨_,_,E,S,h1.rs hs,h2.rs h1 hs c1,h3.rs hs c4 c5,hy⟩
 |_=>exact h4.elim
section
variable {P : Program} {all : List Oper} {env0 F env : Ev} {st : St} {ss p en : List Nat} {K : Ev -> St -> Prop}
theorem zJ5{o:Oper}{K:AV->St->Prop}{t:Nat}(hd:o.dst=some t)(h:SOp P o env st λenv' st'=>∃v,env'=(t,v)::env/\K v st'):Us P o.op env st K:=by
 unfold SOp at h;unfold Us;rw [hd] at h
 have e:∀av st',(∃v,aput (some t) av env=(t,v)::env/\K v st')->K av st':=λav st' ⟨v,h1,h2⟩=>by
  have:v=av:=by simp [aput] at h1;exact h1.symm
  subst this;exact h2
 generalize ZO o.op=c at h ⊢
 cases c with
 |true =>
  simp only at h ⊢;generalize Ko env o.op=x at h ⊢
  cases x with
  |none=>exact h.elim
  |some y=>exact h.mono e
 |false =>
  simp only at h ⊢;generalize aop P env st o.op=x at h ⊢
  cases x with
  |none=>exact h.elim
  |some y=>exact e _ _ h
theorem pa{i t:Nat}{o:Oper}{v:AV}(ho:all[i]?=some o)(hd:o.dst=some t)(hg:o.guard=none)(hv:look F t=some v)(h:SOp P o (sel F (ea all env0 i) (Zj all o.after.toList)) st λenv' st'=>env'=(t,v)::sel F (ea all env0 i) (Zj all o.after.toList)/\st'=st):Uy P all env0 F st i:=by
 unfold Uy;rw [ho];refine ⟨v,by rw [hd];exact hv,?_⟩;unfold Wp;rw [hg];exact zJ5 hd (h' h)
where
 h' {o:Oper} {t:Nat} {v:AV} {env:Ev} (h:SOp P o env st λenv' st'=>env'=(t,v)::env/\st'=st):SOp P o env st λenv' st'=>∃u,env'=(t,u)::env/\(u=v/\st'=st):=by
  unfold SOp at h ⊢;generalize ZO o.op=c at h ⊢
  cases c with
  |true =>
   simp only at h ⊢;generalize Ko env o.op=x at h ⊢
   cases x with
   |none=>exact h.elim
   |some y=>exact h.mono λav st' ⟨h1,h2⟩=>⟨v,h1,rfl,h2⟩
  |false =>
   simp only at h ⊢;generalize aop P env st o.op=x at h ⊢
   cases x with
   |none=>exact h.elim
   |some y=>exact ⟨v,h.1,rfl,h.2⟩
theorem pag{i t:Nat}{o:Oper}{v:AV}{b:Bool}{c:Nat}{want:Bool}(ho:all[i]?=some o)(hd:o.dst=some t)(hg:GC all o.guard=some (some c,want))(hc:look (sel F (ea all env0 i) (Zj all o.after.toList)) c=some (.lit (.bool b)))(hb:b=want)(hv:look F t=some v)
  (h:SOp P o (sel F (ea all env0 i) (Zj all o.after.toList)) st λenv' st'=>env'=(t,v)::sel F (ea all env0 i) (Zj all o.after.toList)/\st'=st):Uy P all env0 F st i:=by
 unfold Uy;rw [ho];refine ⟨v,by rw [hd];exact hv,?_⟩;unfold Wp;rw [hg];simp only [K6,hc,hb,beq_self_eq_true];exact zJ5 hd (pa.h' h)
theorem pas{i t:Nat}{o:Oper}{b:Bool}{c:Nat}{want:Bool}(ho:all[i]?=some o)(hd:o.dst=some t)(hg:GC all o.guard=some (some c,want))(hc:look (sel F (ea all env0 i) (Zj all o.after.toList)) c=some (.lit (.bool b)))(hb:b=!want)(hv:look F t=some (.lit undef)):Uy P all env0 F st i:=by
 unfold Uy;rw [ho];refine ⟨.lit undef,by rw [hd];exact hv,?_⟩;unfold Wp;rw [hg];simp only [K6,hc,hb]
 have:((!want) == want)=false:=by cases want <;> rfl
 rw [this];trivial
theorem pau{i t:Nat}{o:Oper}{c:Nat}{want:Bool}(ho:all[i]?=some o)(hd:o.dst=some t)(hg:GC all o.guard=some (some c,want))(hc:look (sel F (ea all env0 i) (Zj all o.after.toList)) c=some (.lit undef))(hv:look F t=some (.lit undef)):Uy P all env0 F st i:=by
 unfold Uy;rw [ho];refine ⟨.lit undef,by rw [hd];exact hv,?_⟩;unfold Wp;rw [hg];simp only [K6,hc,undef]
def zJS(P:Program)(all:List Oper)(ss:List Nat)(env0:Ev)(K:Ev->St->Prop)(n:Nat)(p en:List Nat)(F:Ev)(st:St)(s:Nat):Prop:=
 ∃o,all[s]?=some o/\K6 (sel F (ea all env0 s) (Zj all o.after.toList)) (GC all o.guard)=some true/\SOp P o (sel F (ea all env0 s) (Zj all o.after.toList)) st λenv' st'=>∃av en' new,env'=aput o.dst av (sel F (ea all env0 s) (Zj all o.after.toList)) /\
  Zu (XZ new) F=true/\UQ all ((s ::p)++(en'++en)) (XZ new)=true/\(match o.dst with |some t=>look (new++F) t=some av |none=>True)/\DT P all ss env0 K n (s ::p) (en'++en) (new++F) st'
def Dr(P:Program)(all:List Oper)(ss:List Nat)(env0:Ev)(K:Ev->St->Prop)(n:Nat)(p en:List Nat)(F:Ev)(st:St):List Nat->Prop
 | []=>True
 |s ::r=>(Xt s p=false->KL all ss p en s=true->zJS P all ss env0 K n p en F st s)/\Dr P all ss env0 K n p en F st r
theorem Dr.at{n:Nat}:∀{l:List Nat},Dr P all ss env0 K n p en F st l->∀s,Xt s l=true->Xt s p=false->KL all ss p en s=true->zJS P all ss env0 K n p en F st s
 | [],_,s,h=>by cases h
 |x ::l,h,s,hs=>by
  simp only [Xt,Qt] at hs
  rcases hs with h1 |h1
  .rw [<-Ql h1];exact h.1
  .exact Dr.at h.2 s h1
theorem dtS{n:Nat}(h1:UM P all env0 F st p en)(h2:Kd all ss p en=true)(h3:Z9 p ss=false)(h4:Dr P all ss env0 K n p en F st ss):DT P all ss env0 K (n+1) p en F st:=by
 refine ⟨h1,h2,h3,λs a b c=>?_⟩;obtain ⟨o,ho,hg,hs⟩:=h4.at s a b c;rw [ho];refine ⟨hg,?_⟩;unfold SOp at hs;unfold Us;generalize ZO o.op=cc at hs ⊢
 have e:∀av st',(∃av0 en' new,aput o.dst av (sel F (ea all env0 s) (Zj all o.after.toList))=aput o.dst av0 (sel F (ea all env0 s) (Zj all o.after.toList))/\Zu (XZ new) F=true/\UQ all ((s ::p)++(en'++en)) (XZ new)=true /\
   (match o.dst with |some t=>look (new++F) t=some av0 |none=>True)/\DT P all ss env0 K n (s ::p) (en'++en) (new++F) st') ->
   ∃en' new,Zu (XZ new) F=true/\UQ all ((s ::p)++(en'++en)) (XZ new)=true/\(match o.dst with |some t=>look (new++F) t=some av |none=>True)/\DT P all ss env0 K n (s ::p) (en'++en) (new++F) st':=λav st' ⟨av0,en',new,k1,k2,k3,k4,k5⟩=>by
  refine ⟨en',new,k2,k3,?_,k5⟩
  cases hd:o.dst with
  |none=>trivial
  |some t =>
   rw [hd] at k1 k4
   have:av=av0:=by simpa [aput] using k1
   rw [this];exact k4
 cases cc with
 |true =>
  simp only at hs ⊢;generalize Ko (sel F (ea all env0 s) (Zj all o.after.toList)) o.op=x at hs ⊢
  cases x with
  |none=>exact hs.elim
  |some y=>exact hs.mono e
 |false =>
  simp only at hs ⊢;generalize aop P (sel F (ea all env0 s) (Zj all o.after.toList)) st o.op=x at hs ⊢
  cases x with
  |none=>exact hs.elim
  |some y=>exact e _ _ hs
theorem dt0(h1:UM P all env0 F st p en)(h2:Kd all ss p en=true)(h3:Z9 p ss=true)(h4:K (F++Kr (Kl all) env0) st):DT P all ss env0 K 0 p en F st:=⟨h1,h2,h3,h4⟩
theorem bb(b:Bool):b=true∨b=false:=by cases b <;> simp
theorem pkb{c x y:Operand}{ty:TypeId}{pos:String}{aft:Array Edge}{gu:Option (Nat×Bool)}{d:Nat}{b want:Bool}{v:AV}(hc:ev env c=some (.lit (.bool b)))(hb:b=want)(h:cond want (ev env x) (ev env y)=some v)(k:K ((d,v)::env) st):
  SOp P ⟨some d,.pick c x y,ty,pos,aft,gu⟩ env st K:=by
 subst hb;refine XW rfl ?_ k;cases b <;> simp only [cond] at h <;> simp [aop,hc,h]
end
theorem cg{env:Ev}{c:Nat}{b want:Bool}(hc:look env c=some (.lit (.bool b)))(hb:b=want):K6 env (some (some c,want))=some true:=by
 simp only [K6,hc,hb,beq_self_eq_true]
abbrev iA(n:Int):AV:=.lit (.int .i64 n)
abbrev bA(b:Bool):AV:=.lit (.bool b)
abbrev sA(l:List UInt8):AV:=.lit (.string (B l))
section
variable {P : Program} {env : Ev} {st : St} {K : Ev -> St -> Prop} {d : Nat} {ty : TypeId} {pos : String} {aft : Array Edge} {gu : Option (Nat × Bool)}
theorem BX{α:Type}{t:TypeId}{x y:Operand}{ti:TI}{sz b i j:Nat}{l:List α}{f:α->List AV}{c c':α}{v:AV}{cs:List AV}(ht:Xh P t=some ti)(hx:ev env x=some (.mpt b i j))(hb:st[b]?=some (some (sz,l.map f)))
  (h:l[i]?=some c) (hy:ev env y=some v) (hc:G5 v=some cs) (hsz:Nat.beq cs.length ti.size=true) (hj:Nat.ble (j+cs.length) sz=true) (hf:(f c).take j++cs++(f c).drop (j+cs.length)=f c')
  (k:K env (st.set b (some (sz,(l.set i c').map f)))):SOp P ⟨none,.store t x y,ty,pos,aft,gu⟩ env st K:=by
 refine zJG (av:=.lit undef) rfl (st':=st.set b (some (sz,(l.set i c').map f))) ?_ k;have hi:i<l.length:=(Qb.1 h).1
 have e1:Ka (l.map f) i j cs=(l.set i c').map f:=by
  unfold Ka;rw [JS,h];simp only [QM];rw [hf,List.map_set]
 have e2:Od st ti (.mpt b i j) v=some (st.set b (some (sz,(l.set i c').map f))):=by
  simp only [Od,hc,hb];rw [if_pos ⟨by simpa using hi,QD hj,Ql hsz⟩,e1]
 simp [aop,ht,hx,hy,e2]
end
theorem zHA{α:Type}{l:List α}{i:Int}{j:Nat}{x c:α}(h:idx l i=some c):idx (l.set j x) i=some (if j=i.toNat then x else c):=by
 obtain ⟨h0,h1,h2⟩:=zQ h;unfold idx;rw [if_pos h0,List.getElem?_set];split
 .rename_i e;subst e;simp [h1]
 .exact h2
theorem zJZ{P:Program}{env:Ev}{st:St}{K:Ev->St->Prop}{d:Nat}{ty:TypeId}{pos:String}{aft:Array Edge}{gu:Option (Nat×Bool)}{α:Type}{t e:TypeId}{x y:Operand}{ti te:TI}{kk:IntKind}{sz b n:Nat}{l:List α}{f:α->List AV}{i:Int}{c:α}(hn:l.length=n)
  (ht:Xh P t=some ti) (hk:ti.k=.slc e) (he:Xh P e=some te) (hs:te.size=sz) (hx:ev env x=some (.msl b 0 n))
  (hb:st[b]?=some (some (sz,l.map f))) (hy:ev env y=some (.lit (.int kk i))) (h:idx l i=some c) (k:K ((d,.mpt b i.toNat 0)::env) st):SOp P ⟨some d,.indexAddr t x y,ty,pos,aft,gu⟩ env st K:=by
 subst hn;exact ixM ht hk he hs hx hb hy h k
theorem BV{st:St}{L:Xv}{l l' i n n':Nat}(e:n'=n)(h:XV L l=some l'):Rs st L (.msl l i n') (.msl l' i n):=by subst e;exact .msl h
theorem zHZ{α:Type}{st:St}{L:Xv}{b sz n:Nat}{l:List α}{f:α->List AV}(e:l.length=n)(hD:UH L b=false)(hb:st[b]?=some (some (sz,l.map f)))(h:∀x,Zm (f x)=true):Rs st L (.isl sz (l.map f)) (.msl b 0 n):=by
 subst e;exact ZI hD hb h
section
variable {α : Type}
def Zg(k:List UInt8):List (List UInt8×α)->Option α
 | []=>none
 |(a,x)::r=>cond (decide (k=a)) (some x) (Zg k r)
def ZV(k:List UInt8)(x:α):List (List UInt8×α)->List (List UInt8×α)
 | []=>[(k,x)]
 |(a,y)::r=>cond (decide (k=a)) ((k,x)::r) ((a,y)::ZV k x r)
def rKV(g:α->AV)(p:List UInt8×α):List AV:=[.lit (.string (B p.1)),g p.2]
theorem zrh{g:α->AV}{k:List UInt8}:∀{l:List (List UInt8×α)} {i:Nat},
  (∀x,Zg k l=some x->∃j,Uh k (l.map (rKV g)) i=some (some (i+j,g x))/\j<l.length/\∀y,(ZV k y l).map (rKV g)=(l.map (rKV g)).set j [.lit (.string (B k)),g y]) /\
  (Zg k l=none->Uh k (l.map (rKV g)) i=some none/\∀y,ZV k y l=l++[(k,y)])
 | [],i=>⟨λx h=>(by cases h),λ_=>⟨rfl,λy=>rfl⟩⟩
 |(a,z)::r,i=>by
  obtain ⟨h1,h2⟩:=zrh (g:=g) (k:=k) (l:=r) (i:=i+1);by_cases hd:k=a
  .subst hd;refine ⟨λx h=>?_,λh=>?_⟩
   .simp only [Zg,decide_true,RT] at h;cases h;refine ⟨0,?_,by simp,λy=>?_⟩
    .show Uh k ([AV.lit (.string (B k)),g z]:: _) i=_;unfold Uh;simp
    .simp [ZV,rKV]
   .simp [Zg] at h
  .have e1:Uh k (List.map (rKV g) ((a,z)::r)) i=Uh k (r.map (rKV g)) (i+1):=by
    show Uh k ([AV.lit (.string (B a)),g z]:: _) i=_
    conv=>lhs;unfold Uh
    simp [hd]
   have e2:Zg k ((a,z)::r)=Zg k r:=by simp [Zg,hd]
   have e3:∀y,ZV k y ((a,z)::r)=(a,z)::ZV k y r:=λy=>by simp [ZV,hd]
   refine ⟨λx h=>?_,λh=>?_⟩
   .rw [e2] at h;obtain ⟨j,h3,h4,h5⟩:=h1 x h;refine ⟨j+1,by rw [e1,h3];congr 3;omega,by simp;omega,λy=>?_⟩;rw [e3,Yl,h5 y];rfl
   .rw [e2] at h;obtain ⟨h3,h4⟩:=h2 h;exact ⟨by rw [e1,h3],λy=>by rw [e3,h4 y];rfl⟩
theorem zHN{g:α->AV}{k:List UInt8}{y:α}{l:List (List UInt8×α)}:zJg (B k) (g y) (l.map (rKV g))=some ((ZV k y l).map (rKV g)):=by
 unfold zJg;have h:=zrh (g:=g) (k:=k) (l:=l) (i:=0);rw [show (B k).data.toList=k from rfl]
 cases hg:Zg k l with
 |some x =>
  obtain ⟨j,h1,_,h2⟩:=h.1 x hg;rw [h1,h2 y];simp
 |none =>
  obtain ⟨h1,h2⟩:=h.2 hg;rw [h1,h2 y,JN];rfl
theorem zGW{P:Program}{st:St}{t e:TypeId}{mv:AV}{te:TI}{l:List (List UInt8×α)}{g:α->AV}{z:α}{k:List UInt8}(hm:Gu P t=some e)(he:Xh P e=some te)(hr:Ww st mv=some (l.map (rKV g)))(hz:B0 te.zero=g z):
  WK P st t mv k true=some (.tup [g ((Zg k l).getD z),.lit (.bool (Zg k l).isSome)]):=by
 unfold WK;rw [hm];simp only;rw [he,hr];simp only;have h:=zrh (g:=g) (k:=k) (l:=l) (i:=0)
 cases hg:Zg k l with
 |some x =>
  obtain ⟨j,h1,_⟩:=h.1 x hg;rw [h1];rfl
 |none=>rw [(h.2 hg).1,hz];rfl
theorem zGV{P:Program}{st:St}{t e:TypeId}{mv:AV}{te:TI}{l:List (List UInt8×α)}{g:α->AV}{z:α}{k:List UInt8}(hm:Gu P t=some e)(he:Xh P e=some te)(hr:Ww st mv=some (l.map (rKV g)))(hz:B0 te.zero=g z):
  WK P st t mv k false=some (g ((Zg k l).getD z)):=by
 unfold WK;rw [hm];simp only;rw [he,hr];simp only;have h:=zrh (g:=g) (k:=k) (l:=l) (i:=0)
 cases hg:Zg k l with
 |some x =>
  obtain ⟨j,h1,_⟩:=h.1 x hg;rw [h1];rfl
 |none=>rw [(h.2 hg).1,hz];rfl
end
def Xy{α:Type}(k:Nat)(f:α->List AV):Option α->AV
 |none=>.lit (.pointer none)
 |some x=>.ipt k [f x] 0 0
def Zq{α β:Type}(o:Option α)(a:β)(b:α->β):β:=match o with |none=>a |some x=>b x
theorem oeN{α β:Type}{a r:β}{b:α->β}(h:Zq none a b=r):a=r:=h
theorem oeS{α β:Type}{a r:β}{x:α}{b:α->β}(h:Zq (some x) a b=r):b x=r:=h
theorem Zh{α:Type}{k:Nat}{f:α->List AV}{o:Option α}(h:∀x,Zm (f x)=true):GR (Xy k f o)=true:=by cases o <;> rfl
theorem Z8{x:AV}{l:List AV}(h:GR x=true)(hl:Zm l=true):Zm (x ::l)=true:=by simp [Zm,h,hl]
theorem zzM{l:List AV}(hl:Zm l=true):GR (.tup l)=true:=hl
section
variable {P : Program} {env : Ev} {st : St} {K : Ev -> St -> Prop} {d : Tmp} {ty : TypeId} {pos : String} {aft : Array Edge} {gu : Option (Nat × Bool)}
theorem eqp{t u e:TypeId}{x y:Operand}{ti:TI}{a:AV}{b:Bool}(ht:Xh P t=some ti)(hk:ti.k=.ptr e)(hx:ev env x=some a)(hy:ev env y=some (.lit (.pointer none)))(h1:Ur (.ptr e) .eql a (.lit (.pointer none))=none)(h2:aeq P t .eql a (.lit (.pointer none))=none)
  (h:zIp (.ptr e) st .eql a (.lit (.pointer none))=some (.lit (.bool b))) (k:K ((d,.lit (.bool b))::env) st):SOp P ⟨some d,.binOp .eql t x y u,ty,pos,aft,gu⟩ env st K:=
 XW rfl (by simp only [aop,ht,hx,hy,hk,h1,h2,h,QM]) k
theorem nep{t u e:TypeId}{x y:Operand}{ti:TI}{a:AV}{b:Bool}(ht:Xh P t=some ti)(hk:ti.k=.ptr e)(hx:ev env x=some a)(hy:ev env y=some (.lit (.pointer none)))(h1:Ur (.ptr e) .neq a (.lit (.pointer none))=none)(h2:aeq P t .neq a (.lit (.pointer none))=none)
  (h:zIp (.ptr e) st .neq a (.lit (.pointer none))=some (.lit (.bool b))) (k:K ((d,.lit (.bool b))::env) st):SOp P ⟨some d,.binOp .neq t x y u,ty,pos,aft,gu⟩ env st K:=
 XW rfl (by simp only [aop,ht,hx,hy,hk,h1,h2,h,QM]) k
theorem zJY{α:Type}{t u e:TypeId}{x y:Operand}{ti:TI}{k':Nat}{f:α->List AV}{o:Option α}(ht:Xh P t=some ti)(hk:ti.k=.ptr e)(hx:ev env x=some (Xy k' f o))(hy:ev env y=some (.lit (.pointer none)))
  (k:K ((d,.lit (.bool o.isNone))::env) st):SOp P ⟨some d,.binOp .eql t x y u,ty,pos,aft,gu⟩ env st K:=by
 cases o with
 |none=>exact eqp ht hk hx hy rfl rfl rfl k
 |some x=>exact eqp ht hk hx hy rfl rfl rfl k
theorem zKi{α:Type}{t u e:TypeId}{x y:Operand}{ti:TI}{k':Nat}{f:α->List AV}{o:Option α}(ht:Xh P t=some ti)(hk:ti.k=.ptr e)(hx:ev env x=some (Xy k' f o))(hy:ev env y=some (.lit (.pointer none)))
  (k:K ((d,.lit (.bool (!o.isNone)))::env) st):SOp P ⟨some d,.binOp .neq t x y u,ty,pos,aft,gu⟩ env st K:=by
 cases o with
 |none=>exact nep ht hk hx hy rfl rfl rfl k
 |some x=>exact nep ht hk hx hy rfl rfl rfl k
theorem mmk{t e:TypeId}(nn:Nat)(hm:Gu P t=some e)(hn:st.length=nn)(k:K ((d,.mmp nn)::env) (st++[some (2,[])])):SOp P ⟨some d,.makeMap t none,ty,pos,aft,gu⟩ env st K:=
 XW rfl (by subst hn;simp only [aop,hm]) k
theorem mup{α:Type}{t e:TypeId}{m k' x:Operand}{b:Nat}{s:List UInt8}{v:α}{a:AV}{g:α->AV}{l:List (List UInt8×α)}(hm:Gu P t=some e)(h1:ev env m=some (.mmp b))(h2:ev env k'=some (.lit (.string (B s))))(h3:ev env x=some a)(hv:a=g v)
  (hb:st[b]?=some (some (2,l.map (rKV g)))) (k:K env (st.set b (some (2,(ZV s v l).map (rKV g))))):SOp P ⟨none,.mapUpdate t m k' x,ty,pos,aft,gu⟩ env st K:=by
 subst hv;exact zJG (av:=.lit undef) rfl (by simp only [aop,h1,h2,h3,zvv,hm,hb,zHN,QM]) k
theorem zJ1{α:Type}{t e:TypeId}{m k':Operand}{mv:AV}{te:TI}{s:List UInt8}{g:α->AV}{z:α}{l:List (List UInt8×α)}(hm:Gu P t=some e)(he:Xh P e=some te)(h1:ev env m=some mv)(h2:ev env k'=some (.lit (.string (B s))))(hr:Ww st mv=some (l.map (rKV g)))(hz:B0 te.zero=g z)
  (k:K ((d,.tup [g ((Zg s l).getD z),.lit (.bool (Zg s l).isSome)])::env) st):SOp P ⟨some d,.lookup t m k' true,ty,pos,aft,gu⟩ env st K:=
 XW rfl (by simp only [aop,h1,h2];rw [zGW hm he hr hz];rfl) k
theorem zKe{α:Type}{t e:TypeId}{m k':Operand}{mv:AV}{te:TI}{s:List UInt8}{g:α->AV}{z:α}{l:List (List UInt8×α)}(hm:Gu P t=some e)(he:Xh P e=some te)(h1:ev env m=some mv)(h2:ev env k'=some (.lit (.string (B s))))(hr:Ww st mv=some (l.map (rKV g)))(hz:B0 te.zero=g z)
  (k:K ((d,g ((Zg s l).getD z))::env) st):SOp P ⟨some d,.lookup t m k' false,ty,pos,aft,gu⟩ env st K:=
 XW rfl (by simp only [aop,h1,h2];rw [zGV hm he hr hz];rfl) k
theorem zDM{α:Type}{L:Xv}{b:Nat}{l:List (List UInt8×α)}{g:α->AV}(hD:UH L b=false)(hb:st[b]?=some (some (2,l.map (rKV g))))(h:∀x,Zm (rKV g x)=true):Rs st L (.imp (l.map (rKV g))) (.mmp b):=
 .sm hD hb rfl (λr hr x hx=>by obtain ⟨y,_,rfl⟩:=QW.1 hr;exact (Uk (h y)).mem x hx) (λq _ _=>rfl) (λq h1 h2 j h3 h4=>by
  refine .imm ?_;obtain ⟨y,_,hy⟩:=QW.1 (Qi h2);have h6:=(Uk (h y)).mem;rw [hy] at h6
  exact h6 _ (Qi h4))
theorem zDS{α:Type}{b:Nat}{l:List (List UInt8×α)}{g:α->AV}(hb:st[b]?=some (some (2,l.map (rKV g))))(h:∀x,Zm (rKV g x)=true):Zr st (.mmp b) (.imp (l.map (rKV g))):=
 .mmp hb rfl (λq _ _=>rfl) (λq h1 h2 j h3 h4=>by
  refine .imm ?_;obtain ⟨y,_,hy⟩:=QW.1 (Qi h2);have h6:=(Uk (h y)).mem;rw [hy] at h6
  exact h6 _ (Qi h4))
theorem rsP{α:Type}{L:Xv}{b k:Nat}{row:List AV}{x:α}{f:α->List AV}(hD:UH L b=false)(hb:st[b]?=some (some (k,[row])))(h:Uf st L (f x) row)(hi:Zm (f x)=true):Rs st L (Xy k f (some x)) (.mpt b 0 0):=
 .slp hD hb rfl (λr hr y hy=>by obtain rfl:=Qz.1 hr;exact (Uk hi).mem y hy) (λq h1 h2=>by
  have:q=0:=by simpa using h1
  subst this;exact h.get.1.symm) (λq h1 h2 j h3 h4=>by
  have:q=0:=by simpa using h1
  subst this;exact h.get.2 j h4 h3)
theorem fdV{t:TypeId}{x:Operand}{f:Nat}{a v:AV}(hx:ev env x=some a)(h:afv P t f a=some v)(k:K ((d,v)::env) st):SOp P ⟨some d,.field t x f,ty,pos,aft,gu⟩ env st K:=
 XW rfl (by simp only [aop,hx,h,QM]) k
def mkP(w:Nat)(n:Int):Option Nat:=if 0≤n/\n≤16777216/\(w:Int)*n≤281474976710656 then some n.toNat else none
theorem mks{α:Type}{t e:TypeId}{x y:Operand}{ti te:TI}{kl kc:IntKind}{n:Int}{N w:Nat}{f:α->List AV}{z:α}(nn:Nat)(ht:Xh P t=some ti)(hk:ti.k=.slc e)(he:Xh P e=some te)(hs:te.size=1)(hw:te.bytes=w)(hx:ev env x=some (.lit (.int kl n)))(hy:ev env y=some (.lit (.int kc n)))
  (hz:Zd te.zero=f z) (hn:st.length=nn) (h:mkP w n=some N) (k:K ((d,.msl nn 0 (List.length (List.replicate N z)))::env) (st++[some (1,(List.replicate N z).map f)])):SOp P ⟨some d,.makeSlice t x y,ty,pos,aft,gu⟩ env st K:=by
 unfold mkP at h;split at h
 .rename_i hc;cases h;refine XW rfl ?_ k;subst hn;subst hw;simp only [aop,hx,hy,zEI,ht,hk,he];rw [if_pos ⟨trivial,hc.1,by omega,by rw [hs];omega,hc.2.2⟩,hz,hs];simp
 .cases h
theorem mnI{x y:Operand}{kk kk':IntKind}{a b:Int}{ats:Array TypeId}(hx:ev env x=some (.lit (.int kk a)))(hy:ev env y=some (.lit (.int kk' b)))(k:K ((d,.lit (.int kk (if b<a then b else a)))::env) st):
  SOp P ⟨some d,.call { callee:=.builtin .min,args:=#[x,y],argTypes:=ats },ty,pos,aft,gu⟩ env st K:=
 XW rfl (by simp [aop,Hf,zzj,hx,hy]) k
end
section
variable {X Y : Type}
def Dg(F:(X->Option Y)->X->Option Y):Nat->X->Option Y
 | 0,_=>none
 |n+1,x=>F (Dg F n) x
open Classical in
def zJ3(F:(X->Option Y)->X->Option Y)(x:X):Option Y:=
 if h:∃n y,Dg F n x=some y then some h.choose_spec.choose else none
def BT(F:(X->Option Y)->X->Option Y)(x:X):Option Y:=
 match Dg F 30 x with
 |some y=>some y
 |none=>zJ3 F x
theorem zHW{F:(X->Option Y)->X->Option Y}{x:X}{y:Y}(h:BT F x=some y):∃n,Dg F n x=some y:=by
 unfold BT at h;split at h
 .rename_i z h0;cases h;exact ⟨_,h0⟩
 .unfold zJ3 at h;split at h
  .rename_i hex;cases h;exact ⟨_,hex.choose_spec.choose_spec⟩
  .cases h
theorem zDC{F:(X->Option Y)->X->Option Y}{Q:X->Y->Prop}(h:∀v,(∀x y,v x=some y->Q x y)->∀x y,F v x=some y->Q x y){x:X}{y:Y}(hr:BT F x=some y):Q x y:=by
 obtain ⟨n,hn⟩:=zHW hr
 have key:∀n x y,Dg F n x=some y->Q x y:=by
  intro n
  induction n with
  |zero=>intro x y h;cases h
  |succ n ih=>intro x y h1;exact h _ ih x y h1
 exact key n x y hn
end
def GN:List Nat->Ev->Ev
 |_,[]=>[]
 |s,(t,v)::r=>match Xt t s with |true=>GN s r |false=>(t,v)::GN (t ::s) r
theorem zph:∀{s:List Nat} {e:Ev} {t:Nat} {v:AV},look (GN s e) t=some v->Xt t s=false/\look e t=some v
 |_,[],t,v,h=>by cases h
 |s,(k,x)::r,t,v,h=>by
  unfold GN at h;simp only [look]
  cases hm:Xt k s with
  |true =>
   rw [hm] at h;obtain ⟨h1,h2⟩:=zph h;refine ⟨h1,?_⟩;split
   .rename_i e;subst e;rw [hm] at h1;cases h1
   .exact h2
  |false =>
   rw [hm] at h;simp only [look] at h;split at h
   .rename_i e;subst e;cases h;exact ⟨hm,by rw [if_pos rfl]⟩
   .rename_i e;obtain ⟨h1,h2⟩:=zph h;simp only [Xt,Qn] at h1;exact ⟨h1.2,by rw [if_neg e];exact h2⟩
mutual
def zFF:AV->List Nat->List Nat
 |.msl l _ _,a=>l ::a
 |.mpt l _ _,a=>l ::a
 |.mmp l,a=>l ::a
 |.agg cs,a=>IB cs a
 |.tup cs,a=>IB cs a
 |.fn _ x y,a=>IB x (IB y a)
 |_,a=>a
def IB:List AV->List Nat->List Nat
 | [],a=>a
 |x ::l,a=>zFF x (IB l a)
end
def zI5:Ev->List Nat->List Nat
 | [],a=>a
 |(_,v)::r,a=>zFF v (zI5 r a)
def zI6:List (List AV)->List Nat->List Nat
 | [],a=>a
 |x ::l,a=>IB x (zI6 l a)
def IC(st:St):Nat->List Nat->List Nat->List Nat
 | 0,_,Xd=>Xd
 |_+1,[],Xd=>Xd
 |n+1,l ::r,Xd =>
  match Xt l Xd with
  |true=>IC st n r Xd
  |false=>match st[l]? with |some (some (_,els))=>IC st n (zI6 els r) (l ::Xd) |_=>IC st n r (l ::Xd)
def IF(st:St)(nb0:Nat)(Xd:List Nat):Nat->St->Xv
 |_,[]=>[]
 |i,none ::r=>match Nat.blt i nb0 with |true=>.dead ::IF st nb0 Xd (i+1) r |false=>IF st nb0 Xd (i+1) r
 |i,some _ ::r=>match Nat.blt i nb0||Xt i Xd with |true=>.old i ::IF st nb0 Xd (i+1) r |false=>IF st nb0 Xd (i+1) r
def Dp(x:Nat):Nat->Xv->Option Nat
 |_,[]=>none
 |i,.old y ::r=>match Nat.beq y x with |true=>some i |false=>Dp x (i+1) r
 |i,_ ::r=>Dp x (i+1) r
theorem zs2{x:Nat}:∀{L:Xv} {i l:Nat},Dp x i L=some l->i≤l/\L[l-i]?=some (.old x)
 | [],i,l,h=>by cases h
 |.old y ::r,i,l,h=>by
  unfold Dp at h;split at h
  .rename_i hy;cases h;rw [Ql hy];exact ⟨Qg _,by simp⟩
  .obtain ⟨h1,h2⟩:=zs2 h;refine ⟨by omega,?_⟩;rw [show l-i=(l-(i+1))+1 by omega];simpa using h2
 |.dead ::r,i,l,h=>by
  obtain ⟨h1,h2⟩:=zs2 (L:=r) h;refine ⟨by omega,?_⟩;rw [show l-i=(l-(i+1))+1 by omega];simpa using h2
 |.fresh k ::r,i,l,h=>by
  obtain ⟨h1,h2⟩:=zs2 (L:=r) h;refine ⟨by omega,?_⟩;rw [show l-i=(l-(i+1))+1 by omega];simpa using h2
theorem ztS{x:Nat}{L:Xv}{l:Nat}(h:Dp x 0 L=some l):XV L l=some x:=by
 have:=(zs2 h).2;unfold XV;rw [Yz] at this;rw [this]
mutual
def tnV(L:Xv):AV->Option AV
 |.msl l i n=>match Dp l 0 L with |some q=>some (.msl q i n) |none=>some .any
 |.mpt l i j=>match Dp l 0 L with |some q=>some (.mpt q i j) |none=>some .any
 |.mmp l=>match Dp l 0 L with |some q=>some (.mmp q) |none=>some .any
 |.imp e=>some (.imp e)
 |.agg cs=>match tnL L cs with |some r=>some (.agg r) |none=>none
 |.tup cs=>match tnL L cs with |some r=>some (.tup r) |none=>none
 |.fn f a b=>match tnL L a,tnL L b with |some x,some y=>some (.fn f x y) |_,_=>none
 |.any=>some .any
 |.lit v=>some (.lit v)
 |.isl k e=>some (.isl k e)
 |.ipt k e i j=>some (.ipt k e i j)
def tnL(L:Xv):List AV->Option (List AV)
 | []=>some []
 |x ::l=>match tnV L x,tnL L l with |some y,some r=>some (y ::r) |_,_=>none
end
mutual
theorem zEk{st:St}{L:Xv}:∀{x y:AV},tnV L x=some y->Rs st L y x
 |.msl l i n,y,h=>by
  unfold tnV at h;split at h
  .rename_i q hq;cases h;exact .msl (ztS hq)
  .cases h;exact .any _
 |.mpt l i j,y,h=>by
  unfold tnV at h;split at h
  .rename_i q hq;cases h;exact .mpt (ztS hq)
  .cases h;exact .any _
 |.mmp l,y,h=>by
  unfold tnV at h;split at h
  .rename_i q hq;cases h;exact .mmp (ztS hq)
  .cases h;exact .any _
 |.imp e,y,h=>by unfold tnV at h;cases h;exact .imm (.imp _)
 |.agg cs,y,h=>by
  unfold tnV at h;split at h
  .rename_i q hq;cases h;exact Hx (B3 hq)
  .cases h
 |.tup cs,y,h=>by
  unfold tnV at h;split at h
  .rename_i q hq;cases h;exact Gs (B3 hq)
  .cases h
 |.fn f a b,y,h=>by
  unfold tnV at h;split at h
  .rename_i q1 q2 hq1 hq2;cases h;exact zKn (B3 hq1) (B3 hq2)
  .cases h
 |.any,y,h=>by unfold tnV at h;cases h;exact .any _
 |.lit v,y,h=>by unfold tnV at h;cases h;exact .imm (.lit _)
 |.isl k e,y,h=>by unfold tnV at h;cases h;exact .imm (.isl _ _)
 |.ipt k e i j,y,h=>by unfold tnV at h;cases h;exact .imm (.ipt _ _ _ _)
theorem B3{st:St}{L:Xv}:∀{x y:List AV},tnL L x=some y->Uf st L y x
 | [],y,h=>by unfold tnL at h;cases h;trivial
 |x ::l,y,h=>by
  unfold tnL at h;split at h
  .rename_i a b ha hb;cases h;exact ⟨zEk ha,B3 hb⟩
  .cases h
end
def tnR(L:Xv):List (List AV)->Option (List (List AV))
 | []=>some []
 |x ::l=>match tnL L x,tnR L l with |some y,some r=>some (y ::r) |_,_=>none
theorem zGM{st:St}{L:Xv}:∀{x y:List (List AV)},tnR L x=some y->zye st L y x
 | [],y,h=>by unfold tnR at h;cases h;trivial
 |x ::l,y,h=>by
  unfold tnR at h;split at h
  .rename_i a b ha hb;cases h;exact ⟨B3 ha,zGM hb⟩
  .cases h
def tnE(L:Xv):Ev->Option Ev
 | []=>some []
 |(t,x)::l=>match tnV L x,tnE L l with |some y,some r=>some ((t,y)::r) |_,_=>none
def tnS(L:Xv)(st:St):Xv->Option St
 | []=>some []
 |.dead ::r=>match tnS L st r with |some s=>some (none ::s) |none=>none
 |.fresh _ :: _=>none
 |.old x ::r=>match st[x]? with |some (some (k,els))=>(match tnR L els,tnS L st r with |some e,some s=>some (some (k,e)::s) |_,_=>none) |_=>none
theorem IV{L:Xv}{st:St}:∀{r:Xv} {s:St},tnS L st r=some s->UR st L r s
 | [],s,h=>by unfold tnS at h;cases h;trivial
 |.dead ::r,s,h=>by
  unfold tnS at h;split at h
  .rename_i q hq;cases h;exact IV (r:=r) hq
  .cases h
 |.fresh _ ::r,s,h=>by unfold tnS at h;cases h
 |.old x ::r,s,h=>by
  unfold tnS at h;split at h
  .rename_i k els hx;split at h
   .rename_i e s' he hs;cases h;exact ⟨⟨els,hx,G4 (zGM he)⟩,IV hs⟩
   .cases h
  .cases h
def zCL(st:St):Nat:=64*st.length+4096
def zJR(nb0:Nat)(env:Ev)(st:St):Option (Ev×St):=
 let e:=GN [] env
 let L:=IF st nb0 (IC st (zCL st) (zI5 e (List.range nb0)) []) 0 st
 match Uw L&&GS nb0 L&&Nat.ble nb0 L.length with
 |true=>match tnE L e,tnS L st L with |some e',some s'=>some (e',s') |_,_=>none
 |false=>none
theorem IX{L:Xv}{st:St}:∀{r:Xv} {s:St},tnS L st r=some s->s.length=r.length
 | [],s,h=>by unfold tnS at h;cases h;rfl
 |.dead ::r,s,h=>by
  unfold tnS at h;split at h
  .rename_i q hq;cases h;simp [IX (r:=r) hq]
  .cases h
 |.fresh _ ::r,s,h=>by unfold tnS at h;cases h
 |.old x ::r,s,h=>by
  unfold tnS at h;split at h
  .split at h
   .rename_i e s' he hs;cases h;simp [IX hs]
   .cases h
  .cases h
def G2:Ev->Bool
 | []=>true
 |(t,_)::r=>!Xt t (XZ r)&&G2 r
theorem zv4:∀{e:Ev} {u:Nat},Xt u (XZ e)=true->∃v,look e u=some v
 | [],u,h=>by cases h
 |(k,x)::r,u,h=>by
  simp only [look];split
  .exact ⟨_,rfl⟩
  .rename_i hne;simp only [XZ,Xt,Qt] at h
   rcases h with h |h
   .exact absurd (Ql h) hne
   .exact zv4 h
theorem zEj{st:St}{L:Xv}:∀{e e':Ev},tnE L e=some e'->∀{E:Ev},(∀t v,look e t=some v->look E t=some v)->(∀t,Xt t (XZ e)=true->∃v,look e t=some v)->G2 e=true->Ua st L e' E
 | [],e',h,E,_,_,_=>by unfold tnE at h;cases h;trivial
 |(t,x)::l,e',h,E,hE,hk,ho=>by
  unfold tnE at h;split at h
  .rename_i y r hy hr;cases h;simp only [G2,Qd,Qk] at ho;refine ⟨⟨x,hE t x (by simp [look]),zEk hy⟩,zEj hr (λu v hu=>hE u v ?_) (λu hu=>?_) ho.2⟩
   .simp only [look];split
    .rename_i e;subst e;exact absurd (GF.2 (zmM hu)) (by rw [ho.1];decide)
    .exact hu
   .exact zv4 hu
  .cases h
theorem zrD:∀{s:List Nat} {e:Ev},G2 (GN s e)=true/\∀t,Xt t (XZ (GN s e))=true->Xt t s=false
 |s,[]=>⟨rfl,λt h=>by cases h⟩
 |s,(k,x)::r=>by
  unfold GN
  cases hm:Xt k s with
  |true=>exact zrD (s:=s) (e:=r)
  |false =>
   obtain ⟨h1,h2⟩:=zrD (s:=k ::s) (e:=r);refine ⟨?_,λt ht=>?_⟩
   .simp only [G2,h1,Yn,Qk]
    cases hk:Xt k (XZ (GN (k ::s) r)) with
    |false=>rfl
    |true=>have:=h2 k hk;simp [Xt] at this
   .simp only [XZ,Xt,Qt] at ht
    rcases ht with ht |ht
    .rw [<-Ql ht];exact hm
    .have:=h2 t ht;simp only [Xt,Qn] at this;exact this.2
theorem zF4{nb0:Nat}{env e':Ev}{st s':St}(h:zJR nb0 env st=some (e',s')):Can nb0 e' s' env st:=by
 unfold zJR at h;simp only at h;split at h
 .rename_i hc;simp only [Qd] at hc;split at h
  .rename_i a b ha hb;cases h;refine ⟨_,zEj ha (λt v ht=>(zph ht).2) (λt ht=>zv4 ht) zrD.1,hc.1.1,IV hb,hc.1.2,?_⟩;rw [IX hb];exact QD hc.2
  .cases h
 .cases h
def II(nb0:Nat)(av:AV)(st:St):Option (AV×St):=
 let L:=IF st nb0 (IC st (zCL st) (zFF av (List.range nb0)) []) 0 st
 match Uw L&&GS nb0 L&&Nat.ble nb0 L.length with
 |true=>match tnV L av,tnS L st L with |some e',some s'=>some (e',s') |_,_=>none
 |false=>none
theorem zEg{nb0:Nat}{av av':AV}{st s':St}(h:II nb0 av st=some (av',s')):zIj nb0 av' s' av st:=by
 unfold II at h;simp only at h;split at h
 .rename_i hc;simp only [Qd] at hc;split at h
  .rename_i a b ha hb;cases h;refine ⟨_,zEk ha,hc.1.1,IV hb,hc.1.2,?_⟩;rw [IX hb];exact QD hc.2
  .cases h
 .cases h
section
variable (P : Program) (call : FuncId -> List AV -> St -> Option (AV × St))
def rOp(o:Op)(env:Ev)(st:St):Option (AV×St):=
 match ZO o with
 |true=>match Ko env o with |some (g,args)=>call g args st |none=>none
 |false=>aop P env st o
def Iy(all:List Oper):List Oper->Ev->St->Option (Ev×St)
 | [],env,st=>some (env,st)
 |o ::rest,env,st =>
  match ZJ all env o with
  |some true=>match rOp P call o.op env st with |some (av,st')=>Iy all rest (aput o.dst av env) st' |none=>none
  |some false=>Iy all rest (aput o.dst (.lit undef) env) st
  |none=>none
def WG:Prop:=∀g args st av st',call g args st=some (av,st')->UZ P g args st λa s=>a=av/\s=st'
end
section
variable {P : Program} {call : FuncId -> List AV -> St -> Option (AV × St)} (hc : WG P call)
include hc
theorem zI0{o:Op}{env:Ev}{st st':St}{av:AV}(h:rOp P call o env st=some (av,st')):Us P o env st λa s=>a=av/\s=st':=by
 unfold rOp at h;unfold Us;split at h
 .rename_i hi
  try rw [hi]
  try simp only
  split at h
  .rename_i g args ha
   try rw [ha]
   exact hc _ _ _ _ _ h
  .cases h
 .rename_i hi
  try rw [hi]
  try simp only
  rw [h];exact ⟨rfl,rfl⟩
theorem zJI{o:Oper}{env:Ev}{st st':St}{av:AV}{K:Ev->St->Prop}(h:rOp P call o.op env st=some (av,st'))(k:K (aput o.dst av env) st'):SOp P o env st K:=by
 have h2:=zI0 hc h;unfold Us at h2;unfold SOp;split at h2
 .rename_i hi
  try rw [hi]
  try simp only
  split at h2
  .rename_i g args ha
   try rw [ha]
   exact h2.mono λa s ⟨e1,e2⟩=>by rw [e1,e2];exact k
  .exact h2.elim
 .rename_i hi
  try rw [hi]
  try simp only
  split at h2
  .rename_i a s ha
   try rw [ha]
   obtain ⟨e1,e2⟩:=h2
   try simp only
   rw [e1,e2];exact k
  .exact h2.elim
theorem zDA{all:List Oper}{K:Ev->St->Prop}:∀{l:List Oper} {env:Ev} {st:St} {env':Ev} {st':St},Iy P call all l env st=some (env',st')->K env' st'->BZ P all l env st K
 | [],env,st,env',st',h,k=>by unfold Iy at h;cases h;exact k
 |o ::rest,env,st,env',st',h,k=>by
  unfold Iy at h;unfold BZ;split at h
  .rename_i hg
   try rw [hg]
   try simp only
   split at h
   .rename_i av s1 ho;exact zJI hc ho (zDA h k)
   .cases h
  .rename_i hg
   try rw [hg]
   exact zDA h k
  .cases h
end
def zAy(P:Program):Op->Bool
 |.call c=>match c.callee with |.builtin .len=>false |_=>true
 |.convert _ d _=>match Xh P d with |some ti=>(match ti.k with |.int _=>false |.str=>false |_=>true) |none=>true
 |.slice _ _ _ _ mx=>mx.isSome
 |.move _ |.assign _ |.pick .. |.binOp .. |.unOp .. |.extract .. |.load .. |.fieldAddr .. |.indexAddr .. |.index .. |.build .. |.nilCheck .. |.makeFunc .. |.lookup .. |.field ..=>false
 |_=>true
theorem Un{α:Type}{x:Option α}{f:α->AV×St}{av:AV}{st st':St}(hf:∀a,(f a).2=st)(h:x.map f=some (av,st')):st'=st:=by
 cases x with
 |none=>cases h
 |some a =>
  have h1:f a=(av,st'):=sm h;rw [<-hf a,h1]
def zJD:Value->Value->Bool
 |.int k n,.int k' n'=>decide (k=k')&&decide (n=n')
 |.bool a,.bool b=>a == b
 |.string a,.string b=>decide (a.data.toList=b.data.toList)
 |.slice none 0 0,.slice none 0 0=>true
 |.pointer none,.pointer none=>true
 |.tuple a,.tuple b=>a.size == 0&&b.size == 0
 |_,_=>false
mutual
def avB:AV->AV->Bool
 |.lit a,.lit b=>zJD a b
 |.msl a b c,.msl a' b' c'=>Nat.beq a a'&&(Nat.beq b b'&&Nat.beq c c')
 |.mpt a b c,.mpt a' b' c'=>Nat.beq a a'&&(Nat.beq b b'&&Nat.beq c c')
 |.mmp l,.mmp r=>Nat.beq l r
 |.agg l,.agg r=>Hs l r
 |.tup l,.tup r=>Hs l r
 |.fn (.func f) a b,.fn (.func g) c d=>Nat.beq f g&&(Hs a c&&Hs b d)
 |_,_=>false
def Hs:List AV->List AV->Bool
 | [],[]=>true
 |x ::l,y ::r=>avB x y&&Hs l r
 |_,_=>false
end
theorem zHF{a b:Value}(h:zJD a b=true):a=b:=by
 unfold zJD at h;split at h
 .simp only [Qd,decide_eq_true_eq] at h;rw [h.1,h.2]
 .rw [eq_of_beq h]
 .rename_i a b
  have h1:a.data.toList=b.data.toList:=by simpa using h
  obtain ⟨⟨l⟩⟩:=a;obtain ⟨⟨r⟩⟩:=b;have h2:l=r:=h1;rw [h2]
 .rfl
 .rfl
 .rename_i a b;simp only [Qd,beq_iff_eq] at h;rw [J3 h.1,J3 h.2]
 .cases h
mutual
theorem zCe:∀{a b:AV},avB a b=true->a=b
 |.lit a,b,h=>by
  cases b with
  |lit c=>unfold avB at h;rw [zHF h]
  |_=>unfold avB at h;cases h
 |.msl l i n,b,h=>by
  cases b with
  |msl l' i' n' =>
   unfold avB at h;simp only [Qd] at h;rw [Ql h.1,Ql h.2.1,Ql h.2.2]
  |_=>unfold avB at h;cases h
 |.mpt l i n,b,h=>by
  cases b with
  |mpt l' i' n' =>
   unfold avB at h;simp only [Qd] at h;rw [Ql h.1,Ql h.2.1,Ql h.2.2]
  |_=>unfold avB at h;cases h
 |.agg l,b,h=>by
  cases b with
  |agg r=>unfold avB at h;rw [Oj h]
  |_=>unfold avB at h;cases h
 |.tup l,b,h=>by
  cases b with
  |tup r=>unfold avB at h;rw [Oj h]
  |_=>unfold avB at h;cases h
 |.mmp l,b,h=>by
  cases b with
  |mmp r=>unfold avB at h;rw [Ql h]
  |_=>unfold avB at h;cases h
 |.imp _,b,h=>by unfold avB at h;cases h
 |.any,b,h=>by unfold avB at h;cases h
 |.isl _ _,b,h=>by unfold avB at h;cases h
 |.ipt _ _ _ _,b,h=>by unfold avB at h;cases h
 |.fn f x y,b,h=>by
  cases b with
  |fn g u v =>
   cases f with
   |func n =>
    cases g with
    |func n' =>
     unfold avB at h;simp only [Qd] at h;rw [Ql h.1,Oj h.2.1,Oj h.2.2]
    |_=>unfold avB at h;cases h
   |_=>unfold avB at h;cases h
  |_=>cases f <;> unfold avB at h <;> cases h
theorem Oj:∀{a b:List AV},Hs a b=true->a=b
 | [],[],_=>rfl
 |x ::l,y ::r,h=>by
  unfold Hs at h;simp only [Qd] at h;rw [zCe h.1,Oj h.2]
 | [],_ :: _,h=>by unfold Hs at h;cases h
 |_ :: _,[],h=>by unfold Hs at h;cases h
end
theorem zyh{st st':St}{ks kd ke:TK}{x av:AV}(hk:(match kd with |.int _=>false |.str=>false |_=>true)=false)(h:zBZ st ks kd ke x=some (av,st')):st'=st:=by
 unfold zBZ at h;split at h
 .cases h;rfl
 .split at h
  .cases h;rfl
  .cases h
 .split at h
  .split at h
   .exact Un (λ_=>rfl) h
   .cases h
  .cases h
 .cases hk
 .cases h
theorem zAE{st st':St}{b:Bool}{ks ke:TK}{x av:AV}(h:BY st b ks ke x=some (av,st')):st'=st:=by
 unfold BY at h;split at h
 .split at h
  .split at h
   .cases h;rfl
   .cases h
  .cases h
 .cases h
section
variable (P : Program) (call : FuncId -> List AV -> St -> Option (AV × St))
def Xd(all:List Oper)(env0 F:Ev)(i:Nat)(o:Oper):Ev:=sel F (ea all env0 i) (Zj all o.after.toList)
def zJk(all:List Oper)(env0 F:Ev)(st:St)(i:Nat)(o:Oper):Option AV:=
 match K6 (Xd all env0 F i o) (GC all o.guard) with
 |some true=>match zAy P o.op with |true=>none |false=>(match ZO o.op with |true=>none |false=>(match aop P (Xd all env0 F i o) st o.op with |some r=>some r.1 |none=>none))
 |some false=>some (.lit undef)
 |none=>none
def zzt(all:List Oper)(ss p:List Nat)(env0:Ev)(st:St)(en:List Nat)(F:Ev):List Oper->Nat->List Nat->Ev->Option (List Nat×Ev)
 | [],_,en',X=>some (en',X)
 |o ::r,i,en',X =>
  match Xt i ss||Xt i en||!KL all ss p (en'++en) i with
  |true=>zzt all ss p env0 st en F r (i+1) en' X
  |false =>
   match zJk P all env0 (X++F) st i o with
   |some v=>zzt all ss p env0 st en F r (i+1) (i ::en') (aput o.dst v X)
   |none=>none
def BU(all:List Oper)(env0 F:Ev)(st:St)(p:List Nat):List Nat->Bool
  | []=>true
  |i ::r =>
    (match Wv all i p with
     |false=>true
     |true =>
       match all[i]? with
       |some o=>(match zJk P all env0 F st i o with |some v=>(match o.dst with |some t=>(match look F t with |some u=>avB u v |none=>false) |none=>true) |none=>false)
       |none=>false)&&BU all env0 F st p r
def zFt(all:List Oper)(ss p en:List Nat)(s:Nat):List Nat->Bool
 | []=>true
 |x ::r=>(Nat.beq x s||(Xt x p||!KL all ss p en x))&&zFt all ss p en s r
def zDc(all:List Oper)(ss p en:List Nat):List Nat->Option Nat
 | []=>none
 |x ::r=>match Xt x p||!KL all ss p en x with |true=>zDc all ss p en r |false=>some x
def IS(all:List Oper)(ss:List Nat)(env0:Ev)(p en:List Nat)(F:Ev)(st:St)(s:Nat):Option (List Nat×Ev×St):=
 match all[s]? with
 |some o =>
  match K6 (Xd all env0 F s o) (GC all o.guard),rOp P call o.op (Xd all env0 F s o) st with
  |some true,some (av,st') =>
   match zzt P all ss (s ::p) env0 st' en (aput o.dst av F) all 0 [] [] with
   |some (en',X) =>
    match Zu (XZ (X++aput o.dst av [])) F&&(UQ all ((s ::p)++(en'++en)) (XZ (X++aput o.dst av []))&&(match o.dst with |some t=>!Xt t (XZ X) |none=>true)) with
    |true=>some (en'++en,(X++aput o.dst av [])++F,st')
    |false=>none
   |none=>none
  |_,_=>none
 |none=>none
def rDT(all:List Oper)(ss:List Nat)(env0:Ev):Nat->List Nat->List Nat->Ev->St->Option (Ev×St)
 | 0,p,en,F,st =>
  match BU P all env0 F st p en&&(Kd all ss p en&&Z9 p ss) with
  |true=>some (F++Kr (Kl all) env0,st)
  |false=>none
 |n+1,p,en,F,st =>
  match BU P all env0 F st p en&&(Kd all ss p en&&!Z9 p ss) with
  |true =>
   match zDc all ss p en ss with
   |some s =>
    match zFt all ss p en s ss with
    |true =>
     match IS P call all ss env0 p en F st s with
     |some (en2,F2,st2)=>rDT all ss env0 n (s ::p) en2 F2 st2
     |none=>none
    |false=>none
   |none=>none
  |false=>none
def zIS(all:List Oper)(ss:List Nat)(env0:Ev):Nat->List Nat->List Nat->Ev->St->Option (Ev×St)
 | 0,p,en,F,st=>some (F++Kr (Kl all) env0,st)
 |n+1,p,en,F,st =>
  match zDc all ss p en ss with
  |some s =>
   match IS P call all ss env0 p en F st s with
   |some (en2,F2,st2)=>zIS all ss env0 n (s ::p) en2 F2 st2
   |none=>none
  |none=>none
def zyv(k:Nat):List Nat->List Nat->Xv
 | [],_=>[]
 |x ::r,done=>match Nat.blt x k||Xt x done with |true=>zyv k r done |false=>.old x ::zyv k r (x ::done)
def zDe:Nat->Nat->St->Xv
 | 0,_,_=>[]
 |_+1,_,[]=>[]
 |n+1,i,none ::r=>.dead ::zDe n (i+1) r
 |n+1,i,some _ ::r=>.old i ::zDe n (i+1) r
def zwg(env:Ev):List Nat->List Nat->List Nat
 | [],a=>a
 |t ::r,a=>match look env t with |some v=>zFF v (zwg env r a) |none=>zwg env r a
def zEZ(nb0 k:Nat)(ts:List Nat)(env:Ev)(st:St):Option (Ev×St):=
 let e:=GN [] env
 let L:=zDe k 0 st++zyv k (zwg e ts (IC st (zCL st) (zwg e ts []) [])) []
 match Uw L&&(GS nb0 L&&Nat.ble nb0 L.length) with
 |true=>match tnE L e,tnS L st L with |some e',some s'=>some (e',s') |_,_=>none
 |false=>none
def evB:Ev->Ev->Bool
 | [],_=>true
 |(t,v)::r,e=>(match look e t with |some u=>avB u v |none=>false)&&evB r e
def zFH:List (List AV)->List (List AV)->Bool
 | [],[]=>true
 |x ::l,y ::r=>Hs x y&&zFH l r
 |_,_=>false
def stB:St->St->Bool
 | [],[]=>true
 |none ::l,none ::r=>stB l r
 |some (k,a)::l,some (k',b)::r=>(Nat.beq k k'&&zFH a b)&&stB l r
 |_,_=>false
def zB3(nb0 k:Nat)(ts:List Nat)(E:Ev)(S:St)(all:List Oper)(ss:List Nat)(env0:Ev):Nat->List Nat->List Nat->Ev->St->Bool
 | 0,p,en,F,st =>
  BU P all env0 F st p en&&(Kd all ss p en&&(Z9 p ss&&(match zEZ nb0 k ts (F++Kr (Kl all) env0) st with |some (e,s)=>evB E e&&stB S s |none=>false)))
 |n+1,p,en,F,st =>
  BU P all env0 F st p en&&(Kd all ss p en&&(!Z9 p ss&&ss.all λs=>Xt s p||(!KL all ss p en s||(match IS P call all ss env0 p en F st s with |some (en2,F2,st2)=>zB3 nb0 k ts E S all ss env0 n (s ::p) en2 F2 st2 |none=>false))))
end
section
variable {P : Program} {call : FuncId -> List AV -> St -> Option (AV × St)}
theorem zCb{op:Op}{env:Ev}{st st':St}{av:AV}(ht:zAy P op=false)(h:aop P env st op=some (av,st')):st'=st:=by
 cases op <;> simp only [zAy] at ht <;> try cases ht
 case move=>exact Un (λ_=>rfl) h
 case assign=>exact Un (λ_=>rfl) h
 case pick =>
  simp only [aop] at h;split at h
  .exact Un (λ_=>rfl) h
  .exact Un (λ_=>rfl) h
  .cases h
 case load =>
  simp only [aop] at h;split at h
  .exact Un (λ_=>rfl) h
  .cases h
 case nilCheck =>
  simp only [aop] at h;split at h
  .split at h
   .cases h;rfl
   .cases h
  .cases h
 case binOp =>
  simp only [aop] at h;split at h
  .exact Un (λ_=>rfl) h
  .cases h
 case unOp =>
  simp only [aop] at h;split at h
  .exact Un (λ_=>rfl) h
  .cases h
 case build =>
  simp only [aop] at h;split at h
  .split at h
   .exact Un (λ_=>rfl) h
   .split at h
    .exact Un (λ_=>rfl) h
    .cases h
   .cases h
  .cases h
 case makeFunc fn first caps =>
  cases fn with
  |func f =>
   simp only [aop] at h;split at h
   .cases h;rfl
   .cases h
  |_=>simp only [aop] at h;cases h
 case extract =>
  simp only [aop] at h;split at h
  .exact Un (λ_=>rfl) h
  .cases h
 case fieldAddr =>
  simp only [aop] at h;split at h
  .split at h
   .exact Un (λ_=>rfl) h
   .cases h
  .cases h
 case indexAddr =>
  simp only [aop] at h;split at h
  .split at h
   .split at h
    .exact Un (λ_=>rfl) h
    .cases h
   .cases h
  .cases h
 case field =>
  simp only [aop] at h;split at h
  .exact Un (λ_=>rfl) h
  .cases h
 case lookup =>
  simp only [aop] at h;split at h
  .exact Un (λ_=>rfl) h
  .cases h
 case index =>
  simp only [aop] at h;split at h
  .split at h
   .exact Un (λ_=>rfl) h
   .cases h
  .split at h
   .split at h
    .exact Un (λ_=>rfl) h
    .cases h
   .cases h
  .cases h
 case convert =>
  split at ht
  .rename_i ti hti;simp only [aop] at h;split at h
   .rename_i is id v h1 h2 h3;rw [hti] at h2;cases h2;split at h
    .split at h
     .rename_i r hr;cases h;exact zyh ht hr
     .exact zAE h
    .cases h
   .cases h
  .cases ht
 case slice t x lo hi mx =>
  cases mx with
  |some _=>cases ht
  |none =>
   simp only [aop] at h;split at h
   .split at h
    .split at h
     .exact Un (λ_=>rfl) h
     .cases h
    .split at h
     .split at h
      .cases h;rfl
      .cases h
     .cases h
    .cases h
   .cases h
 case call c =>
  obtain ⟨callee,args,ats⟩:=c;simp only at ht;split at ht
  .simp only [aop,Hf] at h;split at h
   .rename_i h1 _ _;unfold Dx at h;split at h
    .split at h
     .cases h;rfl
     .cases h;rfl
     .split at h
      .cases h;rfl
      .cases h
     .cases h;rfl
     .cases h
    .cases h
   .rename_i h1 _ _;cases h1
   .rename_i h1 _;cases h1
   .rename_i h1 _ _;cases h1
   .cases h
  .cases ht
theorem zDz{all:List Oper}{env0 F:Ev}{st:St}{i:Nat}{o:Oper}{v:AV}(h:zJk P all env0 F st i o=some v):Wp P all (ea all env0 i) st F o v:=by
 unfold zJk at h;unfold Wp;have e:Xd all env0 F i o=sel F (ea all env0 i) (Zj all o.after.toList):=rfl;rw [e] at h;split at h
 .rename_i hg
  try rw [hg]
  try simp only
  split at h
  .cases h
  .rename_i ht;split at h
   .cases h
   .rename_i hi;split at h
    .rename_i r hr;cases h;obtain ⟨r1,r2⟩:=r;have:=zCb ht hr;subst this;unfold Us
     try rw [hi]
     try simp only
     rw [hr];exact ⟨rfl,rfl⟩
    .cases h
 .rename_i hg
  try rw [hg]
  try simp only
  cases h;rfl
 .cases h
theorem I8{all:List Oper}{env0 F:Ev}{st:St}{p:List Nat}:∀{en:List Nat},BU P all env0 F st p en=true->UM P all env0 F st p en
 | [],_=>trivial
 |i ::r,h=>by
  unfold BU at h;rw [Qd] at h;refine ⟨λhp=>?_,I8 h.2⟩;have h1:=h.1;rw [hp] at h1;simp only at h1;unfold Uy;split at h1
  .rename_i o ho
   try rw [ho]
   try simp only
   split at h1
   .rename_i v hv;split at h1
    .rename_i t ht
     try rw [ht]
     try simp only
     split at h1
     .rename_i u hu;rw [zCe h1] at hu;exact ⟨v,hu,zDz hv⟩
     .cases h1
    .rename_i ht
     try rw [ht]
     exact ⟨v,trivial,zDz hv⟩
   .cases h1
  .cases h1
theorem zC3{X e:Ev}{t:Nat}(h:Xt t (XZ X)=false):look (X++e) t=look e t:=by
 induction X with
 |nil=>rfl
 |cons p X ih =>
  obtain ⟨k,x⟩:=p;simp only [XZ,Xt,Qn] at h;simp only [J1,look];rw [if_neg (λe=>by rw [e] at h;simp at h)];exact ih h.2
theorem zDk{all:List Oper}{ss p en:List Nat}{s:Nat}:∀{l:List Nat},zFt all ss p en s l=true->∀x,Xt x l=true->Xt x p=false->KL all ss p en x=true->x=s
 | [],_,x,h,_,_=>by cases h
 |y ::r,h,x,hm,hp,hw=>by
  unfold zFt at h;rw [Qd] at h;simp only [Xt,Qt] at hm
  rcases hm with hm |hm
  .have e:=Ql hm;subst e;have h1:=h.1;rw [hp,hw] at h1;simp at h1;exact h1
  .exact zDk h.2 x hm hp hw
theorem Us.mono{op:Op}{env:Ev}{st:St}{K K':AV->St->Prop}(h:Us P op env st K)(hk:∀a s,K a s->K' a s):Us P op env st K':=by
 unfold Us at h ⊢;split at h
 .split at h
  .exact h.mono hk
  .exact h.elim
 .split at h
  .exact hk _ _ h
  .exact h.elim
theorem zAm(hc:WG P call){all:List Oper}{ss:List Nat}{env0:Ev}{K:Ev->St->Prop}{n:Nat}{p en:List Nat}{F:Ev}{st:St}{s:Nat}{en2:List Nat}{F2:Ev}{st2:St}
  (h:IS P call all ss env0 p en F st s=some (en2,F2,st2)) (hd:DT P all ss env0 K n (s ::p) en2 F2 st2):
  match all[s]? with
   |some o=>K6 (sel F (ea all env0 s) (Zj all o.after.toList)) (GC all o.guard)=some true/\Us P o.op (sel F (ea all env0 s) (Zj all o.after.toList)) st (λav st'=>∃en' new,
     Zu (XZ new) F=true/\UQ all ((s ::p)++(en'++en)) (XZ new)=true/\(match o.dst with |some t=>look (new++F) t=some av |none=>True)/\DT P all ss env0 K n (s ::p) (en'++en) (new++F) st')
   |none=>False:=by
 unfold IS at h;split at h
 case h_2=>cases h
 rename_i o ho;split at h
 case h_2=>cases h
 rename_i av s1 hg hop;refine ⟨hg,?_⟩;refine Us.mono (zI0 hc hop) λa s ⟨e1,e2⟩=>?_;subst e1;subst e2;split at h
 case h_2=>cases h
 rename_i en' X hcl;split at h
 case h_2=>cases h
 rename_i hk;simp only [Qd] at hk;cases h;refine ⟨en',X++aput o.dst a [],hk.1,hk.2.1,?_,hd⟩;have hkk:=hk.2.2
 cases hd:o.dst with
 |none=>trivial
 |some t =>
  try simp only
  rw [hd] at hkk;simp only [Qk] at hkk;rw [Jc,zC3 hkk];simp [aput,look]
theorem zIZ(hc:WG P call){all:List Oper}{ss:List Nat}{env0:Ev}{K:Ev->St->Prop}:∀{n:Nat} {p en:List Nat} {F:Ev} {st:St} {env':Ev} {st':St},rDT P call all ss env0 n p en F st=some (env',st')->K env' st'->DT P all ss env0 K n p en F st
 | 0,p,en,F,st,env',st',h,k=>by
  unfold rDT at h;split at h
  .rename_i hb;simp only [Qd] at hb;cases h;exact ⟨I8 hb.1,hb.2.1,hb.2.2,k⟩
  .cases h
 |n+1,p,en,F,st,env',st',h,k=>by
  unfold rDT at h;split at h
  case h_2=>cases h
  rename_i hb;simp only [Qd,Qk] at hb;refine ⟨I8 hb.1,hb.2.1,hb.2.2,λx hx hp hw=>?_⟩;split at h
  case h_2=>cases h
  rename_i s hs;split at h
  case h_2=>cases h
  rename_i hon;have e:=zDk hon x hx hp hw;subst e;split at h
  case h_2=>cases h
  rename_i en2 F2 st2 hstep;exact zAm hc hstep (zIZ hc h k)
theorem zIz{E e:Ev}:evB E e=true->∀t v,look E t=some v->look e t=some v:=by
 induction E with
 |nil=>intro _ t v h;cases h
 |cons p r ih =>
  obtain ⟨k,x⟩:=p;intro h t v hl;simp only [evB,Qd] at h;simp only [look] at hl;split at hl
  .rename_i ekt;subst ekt;cases hl;have h1:=h.1;split at h1
   .rename_i u hu;rw [hu,zCe h1]
   .cases h1
  .exact ih h.2 t v hl
theorem zAi:∀{a b:List (List AV)},zFH a b=true->a=b
 | [],[],_=>rfl
 |x ::l,y ::r,h=>by
  simp only [zFH,Qd] at h;rw [Oj h.1,zAi h.2]
 | [],_ :: _,h=>by cases h
 |_ :: _,[],h=>by cases h
theorem zDV:∀{a b:St},stB a b=true->a=b
 | [],[],_=>rfl
 |none ::l,none ::r,h=>by
  simp only [stB] at h;rw [zDV h]
 |some (k,a)::l,some (k',b)::r,h=>by
  simp only [stB,Qd] at h;rw [Ql h.1.1,zAi h.1.2,zDV h.2]
 | [],_ :: _,h=>by cases h
 |none :: _,[],h=>by cases h
 |some _ :: _,[],h=>by cases h
 |none :: _,some _ :: _,h=>by cases h
 |some (_,_):: _,none :: _,h=>by cases h
theorem Ua.less{st:St}{L:Xv}{env:Ev}:∀{E e:Ev},Ua st L e env->(∀t v,look E t=some v->look e t=some v)->G2 E=true->Ua st L E env
 | [],_,_,_,_=>trivial
 |(t,v)::r,e,h,hl,ho=>by
  simp only [G2,Qd,Qk] at ho;refine ⟨h.get t v (hl t v (by simp [look])),Ua.less (E:=r) h (λu x hu=>hl u x ?_) ho.2⟩;simp only [look];split
  .rename_i ekt;subst ekt;exact absurd (GF.2 (zmM hu)) (by rw [ho.1];decide)
  .exact hu
theorem zCK{nb0 k:Nat}{ts:List Nat}{E e env:Ev}{S s st:St}(ho:G2 E=true)(h:zEZ nb0 k ts env st=some (e,s))(hE:evB E e=true)(hS:stB S s=true):Can nb0 E S env st:=by
 unfold zEZ at h;simp only at h;split at h
 case h_2=>cases h
 rename_i hcc;simp only [Qd] at hcc;split at h
 case h_2=>cases h
 rename_i a b ha hb;cases h;have hs:=zDV hS;subst hs;refine ⟨_,Ua.less (zEj ha (λt v ht=>(zph ht).2) (λt ht=>zv4 ht) zrD.1) (zIz hE) ho,hcc.1,IV hb,hcc.2.1,?_⟩;rw [IX hb];exact QD hcc.2.2
theorem zB4(hc:WG P call){nb0 k:Nat}{ts:List Nat}{E:Ev}{S:St}(ho:G2 E=true){all:List Oper}{ss:List Nat}{env0:Ev}:∀{n:Nat} {p en:List Nat} {F:Ev} {st:St},
  zB3 P call nb0 k ts E S all ss env0 n p en F st=true->DT P all ss env0 (λenv st=>Can nb0 E S env st) n p en F st
 | 0,p,en,F,st,h=>by
  simp only [zB3,Qd] at h;refine ⟨I8 h.1,h.2.1,h.2.2.1,?_⟩;have h1:=h.2.2.2;split at h1
  .rename_i e s hf;rw [Qd] at h1;exact zCK ho hf h1.1 h1.2
  .cases h1
 |n+1,p,en,F,st,h=>by
  simp only [zB3,Qd,Qk] at h;refine ⟨I8 h.1,h.2.1,h.2.2.1,λx hx hp hw=>?_⟩;have h1:=Qp.1 h.2.2.2 x (GF.1 hx);rw [hp,hw] at h1;simp only [Qr,QU] at h1;split at h1
  .rename_i en2 F2 st2 hstep;exact zAm hc hstep (zB4 hc ho h1)
  .cases h1
def zAz(all:List Oper):List Oper->Nat->Ev->St->List Nat
 | [],_,_,_=>[]
 |o ::r,i,env,st =>
  match ZJ all env o with
  |some true =>
   match rOp P call o.op env st with
   |some (av,st')=>match zAy P o.op with |true=>i ::zAz all r (i+1) (aput o.dst av env) st' |false=>zAz all r (i+1) (aput o.dst av env) st'
   |none=>[]
  |some false=>zAz all r (i+1) (aput o.dst (.lit undef) env) st
  |none=>[]
end
section
variable (P : Program) (call : FuncId -> List AV -> St -> Option (AV × St))
def zJH(nb0 n:Nat)(all:List Oper)(env:Ev)(st:St):Option (Ev×St):=
 let ss:=zAz (P:=P) (call:=call) all all 0 env st
 match Hy n all&&G3 all.length ss with
 |true =>
  match zzt P all ss [] env st [] [] all 0 [] [] with
  |some (en,F) =>
   match UQ all en (XZ F) with
   |true =>
    match rDT P call all ss env ss.length [] en F st with
    |some r=>some r
    |none =>
     match zIS P call all ss env ss.length [] en F st with
     |some (e1,s1) =>
      match zEZ nb0 st.length (Kl all) e1 s1 with
      |some (E,S)=>match G2 E&&zB3 P call nb0 st.length (Kl all) E S all ss env ss.length [] en F st with |true=>some (E,S) |false=>none
      |none=>none
     |none=>none
   |false=>none
  |none=>none
 |false=>none
def Z6(nb0:Nat):Nat->Nat->Code->Ev->St->Option (Exit×Ev×St)
 | 0,_,_,_,_=>none
 |f+1,n,c,env,st =>
  match c with
  |.skip=>some (.normal,env,st)
  |.ret=>some (.ret,env,st)
  |.exit id=>some (.exit id,env,st)
  |.seq x y =>
   match Z6 nb0 f n x env st with
   |some (.normal,e,s)=>Z6 nb0 f n y e s
   |some (.ret,e,s)=>some (.ret,e,s)
   |some (.exit i,e,s)=>some (.exit i,e,s)
   |_=>none
  |.cond c x y =>
   match ev env c with
   |some (.lit (.bool true))=>Z6 nb0 f n x env st
   |some (.lit (.bool false))=>Z6 nb0 f n y env st
   |_=>none
  |.block id c =>
   match Z6 nb0 f n c env st with
   |some (.exit i,e,s)=>match Nat.beq i id with |true=>some (.normal,e,s) |false=>some (.exit i,e,s)
   |some (.normal,e,s)=>some (.normal,e,s)
   |some (.ret,e,s)=>some (.ret,e,s)
   |_=>none
  |.loop c =>
   match Z6 nb0 f n c env st with
   |some (.normal,e,s) =>
    match Nat.beq s.length st.length with
    |true=>Z6 nb0 f n (.loop c) (GN [] e) s
    |false=>match zJR nb0 e s with |some (e',s')=>Z6 nb0 f n (.loop c) e' s' |none=>none
   |some (.ret,e,s)=>some (.ret,e,s)
   |some (.exit i,e,s)=>some (.exit i,e,s)
   |_=>none
  |.region _ ops d =>
   match d with
   |false =>
    match ops.toList.all (λo=>o.dst.all (·<n)) with
    |true=>match Iy P call ops.toList ops.toList env st with |some (e,s)=>some (.normal,e,s) |none=>none
    |false=>none
   |true=>match zJH P call nb0 n ops.toList env st with |some (e,s)=>some (.normal,e,s) |none=>none
  |_=>none
end
def isR(r:Exit×Ev×St):Exit->Ev->St->Prop:=λx e s=>(x,e,s)=r
theorem SW.less{P:Program}{n nb0:Nat}{c:Code}{Q:Exit->Ev->St->Prop}{env env':Ev}{st:St}(hs:∀t v,look env' t=some v->look env t=some v)(h:SW P n nb0 c Q env' st):SW P n nb0 c Q env st:=
 λA m w a h0 hR hE=>h A m w a h0 hR (hE.less hs)
theorem zIY{P:Program}{call:FuncId->List AV->St->Option (AV×St)}(hc:WG P call)(hm:P.follows .mixedOrders=true){n nb0 id:Nat}{ops:Array Oper}{env:Ev}{st:St}{e:Ev}{s:St}(h:zJH P call nb0 n ops.toList env st=some (e,s)){Q:Exit->Ev->St->Prop}(k:Q .normal e s):
  SW P n nb0 (.region id ops true) Q env st:=by
 unfold zJH at h;simp only at h;split at h
 case h_2=>cases h
 rename_i h1;rw [Qd] at h1;split at h
 case h_2=>cases h
 rename_i en F hcl;split at h
 case h_2=>cases h
 rename_i hk;split at h
 .rename_i r hr;cases h;exact Gh _ en F _ hm h1.1 (by simpa using h1.2) hk (zIZ hc hr k)
 .split at h
  case h_2=>cases h
  rename_i e1 s1 hone;split at h
  case h_2=>cases h
  rename_i E S hf;split at h
  case h_2=>cases h
  rename_i ha;rw [Qd] at ha;cases h;exact rdL e s _ en F _ hm h1.1 (by simpa using h1.2) hk (zB4 hc ha.1 ha.2) k
section
variable {P : Program} {call : FuncId -> List AV -> St -> Option (AV × St)} (hc : WG P call) (hm : P.follows .mixedOrders = true) {n nb0 : Nat}
include hc hm
theorem zAc:∀(F f:Nat),f≤F->∀{c:Code} {env:Ev} {st:St} {r:Exit×Ev×St},Z6 P call nb0 f n c env st=some r->SW P n nb0 c (isR r) env st
 |_,0,_,_,_,_,_,h=>by cases h
 | 0,f+1,hf,_,_,_,_,_=>by omega
 |F+1,f+1,hf,c,env,st,r,h=>by
  have go:∀{k:Nat},k≤F->∀{c:Code} {env:Ev} {st:St} {r:Exit×Ev×St},Z6 P call nb0 k n c env st=some r->SW P n nb0 c (isR r) env st:=λhk _ _ _ _ h=>zAc F _ hk h;have KO:∀{c:Code} {env:Ev} {st:St} {r:Exit×Ev×St},Z6 P call nb0 f n c env st=some r->SW P n nb0 c (isR r) env st:=λh=>go (by omega) h
  cases c <;> simp only [Z6] at h <;> try cases h
  case skip=>exact zc rfl
  case ret=>exact zA rfl
  case exit=>exact zp rfl
  case seq x y =>
   split at h
   .rename_i e s hx;exact ze ((KO hx).mono λx1 e1 s1 h1=>by cases h1;exact KO h)
   .rename_i e s hx;cases h;exact ze ((KO hx).mono λx1 e1 s1 h1=>by cases h1;exact rfl)
   .rename_i e s hx;cases h;exact ze ((KO hx).mono λx1 e1 s1 h1=>by cases h1;exact rfl)
   .cases h
  case cond o x y =>
   split at h
   .rename_i hv;exact KM hv (λ_=>KO h) (λh1=>by cases h1)
   .rename_i hv;exact KM hv (λh1=>by cases h1) (λ_=>KO h)
   .cases h
  case block id c =>
   split at h
   .rename_i i e s hx;split at h
    .rename_i hb;cases h
     exact zh ((KO hx).mono λx1 e1 s1 h1=>by
      cases h1;simp only [WA]
      rw [if_pos (Ql hb)];rfl)
    .rename_i hb;cases h
     exact zh ((KO hx).mono λx1 e1 s1 h1=>by
      cases h1;simp only [WA]
      rw [if_neg (λe=>by rw [e] at hb;simp at hb)];rfl)
   .rename_i hx;cases h;exact zh ((KO hx).mono λx1 e1 s1 h1=>by cases h1;exact rfl)
   .rename_i hx;cases h;exact zh ((KO hx).mono λx1 e1 s1 h1=>by cases h1;exact rfl)
   .cases h
  case loop c =>
   have h0:Z6 P call nb0 (f+1) n (.loop c) env st=some r:=by simp only [Z6];exact h
   clear h;refine zze (λk env st=>k≤f+1/\∃e2 s2,(Can nb0 e2 s2 env st∨(s2=st/\∀t v,look e2 t=some v->look env t=some v))/\Z6 P call nb0 k n (.loop c) e2 s2=some r) (f+1) ⟨Qg _,env,st,.inr ⟨rfl,λ_ _ h=>h⟩,h0⟩ ?_;rintro k env st ⟨hk,e2,s2,hor,h⟩
   cases k with
   |zero=>cases h
   |succ k =>
    have main:SW P n nb0 c (IJ (λenv st=>∃k',k'<k+1/\k'≤f+1/\∃e2 s2,(Can nb0 e2 s2 env st∨(s2=st/\∀t v,look e2 t=some v->look env t=some v))/\Z6 P call nb0 k' n (.loop c) e2 s2=some r) (isR r)) e2 s2:=by
     simp only [Z6] at h
     have hk':k≤F:=by omega
     split at h
     .rename_i e s hx;refine (go hk' hx).mono λx1 e1 s1 h1=>?_;cases h1;split at h
      .exact ⟨k,QS k,by omega,_,_,.inr ⟨rfl,λt v ht=>(zph ht).2⟩,h⟩
      .split at h
       .rename_i e' s' ht;exact ⟨k,QS k,by omega,_,_,.inl (zF4 ht),h⟩
       .cases h
     .rename_i hx;cases h;exact (go hk' hx).mono λx1 e1 s1 h1=>by cases h1;exact rfl
     .rename_i hx;cases h;exact (go hk' hx).mono λx1 e1 s1 h1=>by cases h1;exact rfl
     .cases h
    rcases hor with hcan |⟨rfl,hl⟩
    .exact Wz hcan main
    .exact SW.less hl main
  case region id ops d =>
   cases d with
   |false =>
    simp only at h;split at h
    .rename_i hd;split at h
     .rename_i e s ho;cases h;exact zEb hd λK hK=>zDA hc ho (hK _ _ rfl)
     .cases h
    .cases h
   |true =>
    simp only at h;split at h
    .rename_i e s ho;cases h;exact zIY hc hm ho rfl
    .cases h
theorem KO{f:Nat}{c:Code}{env:Ev}{st:St}{r:Exit×Ev×St}(h:Z6 P call nb0 f n c env st=some r):SW P n nb0 c (isR r) env st:=zAc hc hm f f (Qg _) h
end
def IE(P:Program)(kn:List Nat):Nat->FuncId->List AV->St->Option (AV×St)
 | 0,_,_,_=>none
 |f+1,g,args,st =>
  match Xt g kn&&args.isEmpty with
  |true=>some (.lit (.bool true),st)
  |false =>
   match P.funcs[g]? with
   |some fn =>
    match fn.body with
    |some c =>
     match fn.name == "runtime.NumGoroutine", Nat.ble args.length fn.ntmps with
     |false,true =>
      match Z6 P (IE P kn f) st.length 100000 fn.ntmps c (HM 0 args) st with
      |some (.normal,e,s)=>match Ht P fn e s with |some av=>(match Nat.beq s.length st.length with |true=>some (av,s) |false=>II st.length av s) |none=>none
      |some (.ret,e,s)=>match Ht P fn e s with |some av=>(match Nat.beq s.length st.length with |true=>some (av,s) |false=>II st.length av s) |none=>none
      |_=>none
     |_,_=>none
    |none=>none
   |none=>none
theorem zKk{P:Program}{fn:Func}{nb0:Nat}{e:Ev}{s:St}{av:AV}{st':St}
  (h:(match Ht P fn e s with |some av=>(match Nat.beq s.length nb0 with |true=>some (av,s) |false=>II nb0 av s) |none=>none)=some (av,st')):
  (∃av1,Ht P fn e s=some av1/\av1=av/\s=st')∨U0 P fn nb0 av st' e s:=by
 split at h
 .rename_i av1 ha;split at h
  .cases h;exact .inl ⟨_,ha,rfl,rfl⟩
  .exact .inr ⟨av1,ha,zEg h⟩
 .cases h
theorem zyV{P:Program}{kn:List Nat}(hm:P.follows .mixedOrders=true)(hk:∀g,Xt g kn=true->Xo P g [] (.lit (.bool true))):∀f,WG P (IE P kn f)
 | 0,g,args,st,av,st',h=>by cases h
 |f+1,g,args,st,av,st',h=>by
  unfold IE at h;split at h
  .rename_i hg;cases h;rw [Qd,List.isEmpty_iff] at hg;rw [hg.2];exact zvl (hk _ hg.1) .nil ⟨rfl,rfl⟩
  split at h
  case h_2=>cases h
  rename_i fn hfn;split at h
  case h_2=>cases h
  rename_i c hcb;split at h
  case h_2=>cases h
  rename_i h1 h2;have hc:=zyV hm hk f
  have fin:∀{x:Exit} {e:Ev} {s:St},Z6 P (IE P kn f) st.length 100000 fn.ntmps c (HM 0 args) st=some (x,e,s)->x=.normal∨x=.ret ->
    (match Ht P fn e s with |some av=>(match Nat.beq s.length st.length with |true=>some (av,s) |false=>II st.length av s) |none=>none)=some (av,st')->UZ P g args st λa s=>a=av/\s=st':=λ{x e s} hx hxx h=>by
   rcases zKk h with ⟨av1,h3,h4,h5⟩ |h3
   .refine zvk hfn hcb h1 (QD h2) ((KO hc hm hx).mono λx1 e1 s1 h6=>?_);cases h6
    rcases hxx with rfl |rfl
    .exact ⟨av1,h3,h4,h5⟩
    .exact ⟨av1,h3,h4,h5⟩
   .refine zR hfn hcb h1 h2 ((KO hc hm hx).mono λx1 e1 s1 h6=>?_);cases h6
    rcases hxx with rfl |rfl
    .exact h3
    .exact h3
  split at h
  .rename_i hx;exact fin hx (.inl rfl) h
  .rename_i hx;exact fin hx (.inr rfl) h
  .cases h
theorem zH3{P:Program}{kn:List Nat}{f:Nat}{g:FuncId}{st:St}(hm:P.follows .mixedOrders=true)(hk:∀g,Xt g kn=true->Xo P g [] (.lit (.bool true)))
  (h:IE P kn f g [] []=some (.lit (.bool true),st)):Xo P g [] (.lit (.bool true)):=
 zDy ((zyV hm hk f _ _ _ _ _ h).mono λa s ⟨e1,e2⟩=>by subst e1;exact .imm (.lit _))
def zJ7:Option (AV×St)->Bool
 |some (.lit (.bool b),_)=>b
 |_=>false
theorem HK{P:Program}{g:FuncId}(kn:List Nat)(f:Nat)(hm:P.follows .mixedOrders=true)(hk:∀g,Xt g kn=true->Xo P g [] (.lit (.bool true)))
  (h:zJ7 (IE P kn f g [] [])=true):Xo P g [] (.lit (.bool true)):=by
 unfold zJ7 at h;split at h
 .rename_i b st hr;subst h;exact zH3 hm hk hr
 .cases h
theorem kn1{P:Program}{k:Nat}(h:Xo P k [] (.lit (.bool true))):∀g,Xt g [k]=true->Xo P g [] (.lit (.bool true)):=λg hg=>by
 simp only [Xt,Q2] at hg;rw [<-Ql hg];exact h
theorem R.trunc{A:Nat->Prop}{m:BM}{w:World}{st:St}(hR:R A m w st){l k:Nat}{els:List (List AV)}(he:st[l]?=some (some (k,els)))(q:Nat)(hk:Nat.beq k 2=false):
  R A m w (st.set l (some (k,els.take q))):=by
 have hl:l<st.length:=(Qb.1 he).1
 have hk2:k≠2:=λe=>by subst e;cases hk
 refine ⟨hR.aLow,hR.aOwn,hR.inj,λx b hb=>?_,λx k' els' hx=>?_⟩
 .by_cases e:l=x
  .subst e;exact ⟨els.take q,by rw [QO hl,(hR.at hb he).1]⟩
  .obtain ⟨els1,h1⟩:=hR.live x b hb;exact ⟨els1,by rw [QJ e];exact h1⟩
 .rw [Je];by_cases e:l=x
  .subst e;rw [QO hl] at hx;cases hx;obtain ⟨b,h1,h2,h3,h4⟩:=hR.blk l k els he;refine ⟨b,h1,h2,λhh=>?_,λhh=>by rw [h4 hh];simp⟩;have ho:=h3 hh;refine ⟨ho.low,ho.there,ho.free,λhq=>?_,λi hi=>?_,λhq i hi j hj=>?_,λhq=>?_⟩
   .refine QL (Nat.add_le_add_left (QV _ ?_) _) (ho.fit hq);simp;omega
   .simp only [List.getElem_take];exact ho.wide _ _
   .simp only [List.getElem_take] at hj ⊢;exact ho.val hq i (by simp at hi;omega) j hj
   .exact absurd (h2.symm.trans (ho.mval hq).1) hk2
  .rw [QJ e] at hx;exact hR.blk x k' els' hx
theorem zCt{α:Type}{l r:List α}{c:Int}(h:XK l 0 c=some r):r=l.take c.toNat:=by
 unfold XK at h;split at h
 .cases h;simp
 .cases h
section
variable {P : Program} {n nb0 : Nat} {all l1 l2 : List Oper} {K : Ev -> St -> Prop} {env : Ev} {st : St} {d : Nat} {ty : TypeId} {pos : String} {aft : Array Edge} {gu : Option (Nat × Bool)}
theorem zJQ{α:Type}{cd:Code}{Q:Exit->Ev->St->Prop}{b sz:Nat}{l r:List α}{f:α->List AV}{c:Int}(hb:st[b]?=some (some (sz,l.map f)))(hk:Nat.beq sz 2=false)(h:XK l 0 c=some r)
  (k:SW P n nb0 cd Q env (st.set b (some (sz,r.map f)))):SW P n nb0 cd Q env st:=by
 intro A m w a h0 hR hE
 have e:r.map f=(l.map f).take c.toNat:=by rw [zCt h,List.map_take]
 rw [e] at k
 have hlen:(st.set b (some (sz,(l.map f).take c.toNat))).length=st.length:=by simp
 exact k A m w a (by rw [hlen];exact h0) (hR.trunc hb c.toNat hk) (by rw [hlen];exact hE)
theorem slM{α:Type}{t e:TypeId}{x:Operand}{hi:Option Operand}{ti te:TI}{sz b:Nat}{l r:List α}{f:α->List AV}{c:Int}(ht:Xh P t=some ti)(hk:ti.k=.slc e)(he:Xh P e=some te)(hs:te.size=sz)(hx:ev env x=some (.msl b 0 l.length))
  (hb:st[b]?=some (some (sz,l.map f))) (hhi:ZU env l.length hi=some c.toNat) (h:XK l 0 c=some r) (k:K ((d,.msl b 0 r.length)::env) st):SOp P ⟨some d,.slice t x none hi none,ty,pos,aft,gu⟩ env st K:=XW rfl (by
   unfold XK at h;split at h
   .rename_i h1;cases h;have e':UL (.msl b 0 l.length)=some l.length:=rfl;have e0:ZU env 0 none=some 0:=rfl;simp only [aop,ht,hk,hx,e',he,hhi,e0,Wo,hb];rw [if_pos ⟨hs.symm,by omega,by omega⟩]
    have:((l.drop (0:Int).toNat).take (c.toNat-(0:Int).toNat)).length=c.toNat-0:=by simp;omega
    rw [this];rfl
   .cases h) k
theorem zKl{α:Type}{sz:Nat}{l:List α}{f:α->List AV}{i:Int}{c:α}(h:idx l i=some c)(k:SR P n nb0 all l1 l2 K ((d,.ipt sz [f c] 0 0)::env) st):SR P n nb0 all l1 l2 K ((d,.ipt sz (l.map f) i.toNat 0)::env) st:=by
 intro ops q ho hd hn A m w a h0 hR hE Q hQ;obtain ⟨_,hi,hc⟩:=zQ h;refine k ops q ho hd hn A m w a h0 hR ⟨hE.size,λt v hl=>?_,hE.defers⟩ Q hQ;simp only [look] at hl;split at hl
 .rename_i e;cases hl;obtain ⟨h1,h2⟩:=hE.val t (.ipt sz (l.map f) i.toNat 0) (by simp [look,e]);refine ⟨h1,.imm ?_⟩;have h3:=h2.ipt_inv;generalize a.tmps.getD t undef=v at h3
  have hg:(l.map f)[i.toNat]'(by simpa using hi)=f c:=by
   have:=(Qb.1 hc).2;simp [this]
  cases h3 with
  |ipt _ _ _ _ B o vs hA hk hcell hval =>
   have:=VI.ipt (A:=A) (w:=w) sz [f c] 0 0 B (o+i.toNat*sz) (λ_ j=>vs i.toNat j) hA
    (λi' hi'=>by
     have:i'=0:=by simpa using hi'
     subst this;show (f c).length=sz
     rw [<-hg];exact hk _ _)
    (λi' j hi' hj=>by
     have:i'=0:=by simpa using hi'
     subst this;rw [<-hcell i.toNat j (by simpa using hi) hj]
     congr 2;omega)
    (λi' hi' j hj=>by
     have:i'=0:=by simpa using hi'
     subst this
     have hj':j<((l.map f)[i.toNat]'(by simpa using hi)).length:=by rw [hg];exact hj
     have h5:=hval i.toNat (by simpa using hi) j hj'
     have e5:((l.map f)[i.toNat]'(by simpa using hi))[j]=(f c)[j]'hj:=by simp only [hg]
     rw [e5] at h5
     exact h5)
   simpa using this
 .rename_i e;exact hE.val t v (by simp [look,e,hl])
theorem zJL{α:Type}{t u' e:TypeId}{x y:Operand}{ti:TI}{sz:Nat}{l:List α}{f:α->List AV}(ht:Xh P t=some ti)(hk:ti.k=.slc e)(hx:ev env x=some (.isl sz (l.map f)))(hy:ev env y=some (.lit (.slice none 0 0)))
  (hh:(l=[]->SR P n nb0 all l1 l2 K ((d,.lit (.bool true))::env) st)/\SR P n nb0 all l1 l2 K ((d,.lit (.bool false))::env) st):SR P n nb0 all (⟨some d,.binOp .eql t x y u',ty,pos,aft,none⟩::l1) l2 K env st:=by
 obtain ⟨h1,h2⟩:=hh;intro ops i ho hd hn A m w a h0 hR hE Q hQ;obtain ⟨hi,hd',hdo⟩:=zJK ho hd hn
 have e:((⟨some d,.binOp .eql t x y u',ty,pos,aft,none⟩:Oper)::l1).length+l2.length=(l1.length+l2.length)+1:=by simp;omega
 rw [e,J2];simp only [wpOps,hi];rw [DM (b:=true) hE (by rfl)];simp only [if_true];refine .inl ?_;obtain ⟨dd,i0,hdd,_,_,_,_,hdk,_⟩:=Zc ht;rw [hk] at hdk;have hds:=U9 hdk;subst hds
 have fin:∀b:Bool,(execOp a.eval ⟨some d,.binOp .eql t x y u',ty,pos,aft,none⟩).run P w=.ok (.value (.bool b)) w->SR P n nb0 all l1 l2 K ((d,.lit (.bool b))::env) st ->
   Oper.wp P ⟨some d,.binOp .eql t x y u',ty,pos,aft,none⟩ a w (λa' w'=>wpOps P ops Q (List.range' (i+1) (l1.length+l2.length)) a' w') Q:=λb hr k=>by
  unfold Oper.wp;rw [hr];refine k ops (i+1) ho hd' hn A m w _ h0 hR (hE.aput (d:=some d) hdo (.imm (.lit _))) Q λa2 w2 k2=>?_;have:=hQ a2 w2 k2
  rwa [Qv,Yc l1.length 1,<-QR] at this
 have run:∀(ad:Option Addr) (n1 c1:Nat),a.eval x=.slice ad n1 c1->(execOp a.eval ⟨some d,.binOp .eql t x y u',ty,pos,aft,none⟩).run P w=.ok (.value (.bool ad.isNone)) w:=λad n1 c1 hq=>by
  have hy':=(zY hE hy).lit_inv;have e1:=zpE (P:=P) (w:=w) hdd ad n1 c1;show ((do pure (.value (<-(do eqGuard .eql t x y (a.eval x) (a.eval y);binOp .eql t (a.eval x) (a.eval y):Sem Value))):Sem Next).run P w)=_;rw [hq,hy'];simp only [Sem.run_bind,zoG,Result.andThen_ok,binOp,e1];rfl
 have hv:=(zY hE hx).isl_inv;generalize hg:l.map f=els at hv;generalize hq:a.eval x=v at hv
 cases hv with
 |isl _ _ B o cap vs hA hcap hk hcell hval=>exact fin _ (run _ _ _ hq) h2
 |inil _ ad cap =>
  have hl:l=[]:=by simpa using hg
  cases ad with
  |none=>exact fin _ (run _ _ _ hq) (h1 hl)
  |some _=>exact fin _ (run _ _ _ hq) h2
theorem zJM{v v':AV}(e:v=v')(k:SR P n nb0 all l1 l2 K ((d,v')::env) st):SR P n nb0 all l1 l2 K ((d,v)::env) st:=by rw [e];exact k
end
theorem zDL{α:Type}{τ:Nat->Nat}{k:Nat}{f:α->List AV}{o:Option α}:rn τ (Xy k f o)=Xy k f o:=by cases o <;> rfl
theorem ciL{st:St}{L:Xv}:∀{l:List AV},Zm l=true->Uf st L l l
 | [],_=>trivial
 |_ :: _,h=>⟨ci (QX.1 h).1,ciL (QX.1 h).2⟩
theorem Uq{ρ:Nat->Option Nat}:∀{l:List AV},Zm l=true->Hu ρ l l
 | [],_=>trivial
 |_ :: _,h=>⟨rnI (QX.1 h).1,Uq (QX.1 h).2⟩
theorem zJl{st:St}{L:Xv}{b k j:Nat}{row cs:List AV}(hD:UH L b=false)(hb:st[b]?=some (some (k,[row])))(h:Uf st L cs row)(hi:Zm cs=true):Rs st L (.ipt k [cs] 0 j) (.mpt b 0 j):=
 .slp hD hb rfl (λr hr y hy=>by obtain rfl:=Qz.1 hr;exact (Uk hi).mem y hy) (λq h1 h2=>by
  have:q=0:=by simpa using h1
  subst this;exact h.get.1.symm) (λq h1 h2 j h3 h4=>by
  have:q=0:=by simpa using h1
  subst this;exact h.get.2 j h4 h3)
section
variable {st : St} {L : Xv} {ρ : Nat -> Option Nat} {a b c d e f g h i j k l : AV} {x y : List AV}
theorem GQ(p:Zm [a,b,c,d,e,f,g,h,i,j,k,l]=true)(q:Uf st L x y):Uf st L (a ::b ::c ::d ::e ::f ::g ::h ::i ::j ::k ::l ::x) (a ::b ::c ::d ::e ::f ::g ::h ::i ::j ::k ::l ::y):=by
 obtain ⟨h1,h2,h3,h4,h5,h6,h7,h8,h9,h10,h11,h12,_⟩:=ciL (st:=st) (L:=L) p;exact ⟨h1,h2,h3,h4,h5,h6,h7,h8,h9,h10,h11,h12,q⟩
theorem KX(p:Zm [a,b,c,d,e,f,g,h,i,j,k,l]=true)(q:Hu ρ x y):Hu ρ (a ::b ::c ::d ::e ::f ::g ::h ::i ::j ::k ::l ::x) (a ::b ::c ::d ::e ::f ::g ::h ::i ::j ::k ::l ::y):=by
 obtain ⟨h1,h2,h3,h4,h5,h6,h7,h8,h9,h10,h11,h12,_⟩:=Uq (ρ:=ρ) p;exact ⟨h1,h2,h3,h4,h5,h6,h7,h8,h9,h10,h11,h12,q⟩
end
section
variable {P : Program} {n nb0 : Nat} {env env0 : Ev} {st st0 : St}
theorem zm(L:Xv)(h1:Ua st L env0 env:=by repeat' (first |exact True.intro |exact cn |exact .msl rfl |exact .mpt rfl |exact ci rfl |exact .nil |exact XY λ_=>rfl |refine cv rfl ?_ ?_ |exact ZI rfl rfl λ_=>rfl |refine DA rfl rfl ?_ |exact ci (Zh λ_=>rfl) |exact .mmp rfl |refine GQ rfl ?_ |refine Ze ?_ |refine G4 ?_ |refine ⟨_,rfl,?_⟩ |refine And.intro ?_ ?_ |refine Gs ?_ |refine Hx ?_ |exact rfl))(h2:Uw L=true:=by exact rfl)(h3:UR st L L st0:=by repeat' (first |exact True.intro |exact cn |exact .msl rfl |exact .mpt rfl |exact ci rfl |exact .nil |exact XY λ_=>rfl |refine cv rfl ?_ ?_ |exact ZI rfl rfl λ_=>rfl |refine DA rfl rfl ?_ |exact ci (Zh λ_=>rfl) |exact .mmp rfl |refine GQ rfl ?_ |refine Ze ?_ |refine G4 ?_ |refine ⟨_,rfl,?_⟩ |refine And.intro ?_ ?_ |refine Gs ?_ |refine Hx ?_ |exact rfl))(h4:GS nb0 L=true:=by exact rfl)(h5:nb0≤st0.length:=by exact QD rfl):Can nb0 env0 st0 env st:=⟨L,h1,h2,h3,h4,h5⟩
theorem Xc{av0 av:AV}(L:Xv)(h1:Rs st L av0 av:=by repeat' (first |exact True.intro |exact cn |exact .msl rfl |exact .mpt rfl |exact ci rfl |exact .nil |exact XY λ_=>rfl |refine cv rfl ?_ ?_ |exact ZI rfl rfl λ_=>rfl |refine DA rfl rfl ?_ |exact ci (Zh λ_=>rfl) |exact .mmp rfl |refine GQ rfl ?_ |refine Ze ?_ |refine G4 ?_ |refine ⟨_,rfl,?_⟩ |refine And.intro ?_ ?_ |refine Gs ?_ |refine Hx ?_ |exact rfl))(h2:Uw L=true:=by exact rfl)(h3:UR st L L st0:=by repeat' (first |exact True.intro |exact cn |exact .msl rfl |exact .mpt rfl |exact ci rfl |exact .nil |exact XY λ_=>rfl |refine cv rfl ?_ ?_ |exact ZI rfl rfl λ_=>rfl |refine DA rfl rfl ?_ |exact ci (Zh λ_=>rfl) |exact .mmp rfl |refine GQ rfl ?_ |refine Ze ?_ |refine G4 ?_ |refine ⟨_,rfl,?_⟩ |refine And.intro ?_ ?_ |refine Gs ?_ |refine Hx ?_ |exact rfl))(h4:GS nb0 L=true:=by exact rfl)(h5:nb0≤st0.length:=by exact QD rfl):zIj nb0 av0 st0 av st:=⟨L,h1,h2,h3,h4,h5⟩
end
section
variable {P : Program} {env : Ev} {st : St} {d : Nat} {ty : TypeId} {pos : String} {aft : Array Edge} {gu : Option (Nat × Bool)} {K : Ev -> St -> Prop}
theorem sx(L:List Nat){c:Call}{g:FuncId}{args args0:List AV}{bs0 bs1:List SB}{av:AV}(h:SC P g args0 bs0 av bs1)(k:K ((d,rn (tau L st.length) av)::env) (zJm L st bs1))
  (hc:ZO (.call c)=true:=by exact rfl) (hg:Ko env (.call c)=some (g,args):=by exact rfl) (hnd:IP L=true:=by exact rfl) (hlt:zB7 st.length L=true:=by exact rfl)
  (ha:Hu (λi=>L[i]?) args0 args:=by repeat' (first |exact True.intro |exact .msl rfl |exact .mpt rfl |exact rnI rfl |exact mkI λ_=>rfl |refine KX rfl ?_ |exact Uq rfl |refine ⟨_,rfl,?_⟩ |refine And.intro ?_ ?_ |exact rfl)) (hs:InB (λi=>L[i]?) st L bs0:=by repeat' (first |exact True.intro |exact .msl rfl |exact .mpt rfl |exact rnI rfl |exact mkI λ_=>rfl |refine KX rfl ?_ |exact Uq rfl |refine ⟨_,rfl,?_⟩ |refine And.intro ?_ ?_ |exact rfl)):SOp P ⟨some d,.call c,ty,pos,aft,gu⟩ env st K:=sc L h hc hg hnd hlt ha hs k
end
theorem nz{b:Bool}{q:Prop}(h:b=false:=by exact rfl):b=true->q:=λe=>by rw [h] at e;cases e
theorem nw{p q:Prop}{b:Bool}(h:b=false:=by exact rfl):p->b=true->q:=λ_ e=>by rw [h] at e;cases e
theorem nv{p q:Prop}{b:Bool}(h:b=true:=by exact rfl):b=false->p->q:=λe=>by rw [h] at e;cases e
section
variable {P : Program} {all : List Oper} {env0 F env : Ev} {st : St} {ss p en : List Nat} {K : Ev -> St -> Prop}
theorem pb{G:Prop}{i t:Nat}{o:Oper}{v:AV}(ho:all[i]?=some o)(h:SOp P o (sel F (ea all env0 i) (Zj all o.after.toList)) st λenv' st'=>env'=(t,v)::sel F (ea all env0 i) (Zj all o.after.toList)/\st'=st)
  (hd:o.dst=some t:=by exact rfl) (hg:o.guard=none:=by exact rfl) (hv:look F t=some v:=by exact rfl):G->Uy P all env0 F st i:=λ_=>pa ho hd hg hv h
theorem pe{i:Nat}{b:Bool}(h:b=true->Uy P all env0 F st i:=by (first |exact nz |(refine λ_=>pa rfl rfl rfl rfl ?_;(first |exact mv rfl ⟨rfl,rfl⟩ |exact fa ti rfl rfl rfl ⟨rfl,rfl⟩ |exact ld ti rfl rfl ⟨rfl,rfl⟩ |exact nc rfl rfl ⟨rfl,rfl⟩ |exact asg rfl ⟨rfl,rfl⟩ |exact ex rfl rfl ⟨rfl,rfl⟩ |exact nt rfl ⟨rfl,rfl⟩ |exact pk rfl rfl ⟨rfl,rfl⟩ |exact pkb rfl (by assumption) rfl ⟨rfl,rfl⟩ |exact lss ti rfl rfl ⟨rfl,rfl⟩ |exact leq ti rfl rfl ⟨rfl,rfl⟩ |exact gtr ti rfl rfl ⟨rfl,rfl⟩ |exact geq ti rfl rfl ⟨rfl,rfl⟩ |exact eql ti rfl rfl ⟨rfl,rfl⟩ |exact neq ti rfl rfl ⟨rfl,rfl⟩ |exact add ti rfl rfl ⟨rfl,rfl⟩ |exact seq ti rfl rfl ⟨rfl,rfl⟩ |exact sne ti rfl rfl ⟨rfl,rfl⟩)) |exact λ_=>pas rfl rfl rfl rfl rfl rfl |exact λ_=>pas rfl rfl rfl rfl (by assumption) rfl |exact λ_=>pau rfl rfl rfl rfl rfl |(refine λ_=>pag rfl rfl rfl rfl rfl rfl ?_;(first |exact mv rfl ⟨rfl,rfl⟩ |exact fa ti rfl rfl rfl ⟨rfl,rfl⟩ |exact ld ti rfl rfl ⟨rfl,rfl⟩ |exact nc rfl rfl ⟨rfl,rfl⟩ |exact asg rfl ⟨rfl,rfl⟩ |exact ex rfl rfl ⟨rfl,rfl⟩ |exact nt rfl ⟨rfl,rfl⟩ |exact pk rfl rfl ⟨rfl,rfl⟩ |exact pkb rfl (by assumption) rfl ⟨rfl,rfl⟩ |exact lss ti rfl rfl ⟨rfl,rfl⟩ |exact leq ti rfl rfl ⟨rfl,rfl⟩ |exact gtr ti rfl rfl ⟨rfl,rfl⟩ |exact geq ti rfl rfl ⟨rfl,rfl⟩ |exact eql ti rfl rfl ⟨rfl,rfl⟩ |exact neq ti rfl rfl ⟨rfl,rfl⟩ |exact add ti rfl rfl ⟨rfl,rfl⟩ |exact seq ti rfl rfl ⟨rfl,rfl⟩ |exact sne ti rfl rfl ⟨rfl,rfl⟩)) |(refine λ_=>pag rfl rfl rfl rfl (by assumption) rfl ?_;(first |exact mv rfl ⟨rfl,rfl⟩ |exact fa ti rfl rfl rfl ⟨rfl,rfl⟩ |exact ld ti rfl rfl ⟨rfl,rfl⟩ |exact nc rfl rfl ⟨rfl,rfl⟩ |exact asg rfl ⟨rfl,rfl⟩ |exact ex rfl rfl ⟨rfl,rfl⟩ |exact nt rfl ⟨rfl,rfl⟩ |exact pk rfl rfl ⟨rfl,rfl⟩ |exact pkb rfl (by assumption) rfl ⟨rfl,rfl⟩ |exact lss ti rfl rfl ⟨rfl,rfl⟩ |exact leq ti rfl rfl ⟨rfl,rfl⟩ |exact gtr ti rfl rfl ⟨rfl,rfl⟩ |exact geq ti rfl rfl ⟨rfl,rfl⟩ |exact eql ti rfl rfl ⟨rfl,rfl⟩ |exact neq ti rfl rfl ⟨rfl,rfl⟩ |exact add ti rfl rfl ⟨rfl,rfl⟩ |exact seq ti rfl rfl ⟨rfl,rfl⟩ |exact sne ti rfl rfl ⟨rfl,rfl⟩)))):b=true->Uy P all env0 F st i:=h
theorem ZQ{n:Nat}(h1:UM P all env0 F st p en)(h4:Dr P all ss env0 K n p en F st ss)(h2:Kd all ss p en=true:=by kernel_rfl)(h3:Z9 p ss=false:=by exact rfl):DT P all ss env0 K (n+1) p en F st:=dtS h1 h2 h3 h4
theorem Ue(h1:UM P all env0 F st p en)(h4:K (F++Kr (Kl all) env0) st)(h2:Kd all ss p en=true:=by kernel_rfl)(h3:Z9 p ss=true:=by exact rfl):DT P all ss env0 K 0 p en F st:=dt0 h1 h2 h3 h4
theorem zJX{n:Nat}(h4:Dr P all ss env0 K n p en F st ss)(h1:UM P all env0 F st p en:=by repeat' (first |exact True.intro |exact nz |(refine λ_=>pa rfl rfl rfl rfl ?_;(first |exact mv rfl ⟨rfl,rfl⟩ |exact fa ti rfl rfl rfl ⟨rfl,rfl⟩ |exact ld ti rfl rfl ⟨rfl,rfl⟩ |exact nc rfl rfl ⟨rfl,rfl⟩ |exact asg rfl ⟨rfl,rfl⟩ |exact ex rfl rfl ⟨rfl,rfl⟩ |exact nt rfl ⟨rfl,rfl⟩ |exact pk rfl rfl ⟨rfl,rfl⟩ |exact pkb rfl (by assumption) rfl ⟨rfl,rfl⟩ |exact lss ti rfl rfl ⟨rfl,rfl⟩ |exact leq ti rfl rfl ⟨rfl,rfl⟩ |exact gtr ti rfl rfl ⟨rfl,rfl⟩ |exact geq ti rfl rfl ⟨rfl,rfl⟩ |exact eql ti rfl rfl ⟨rfl,rfl⟩ |exact neq ti rfl rfl ⟨rfl,rfl⟩ |exact add ti rfl rfl ⟨rfl,rfl⟩ |exact seq ti rfl rfl ⟨rfl,rfl⟩ |exact sne ti rfl rfl ⟨rfl,rfl⟩)) |exact λ_=>pas rfl rfl rfl rfl rfl rfl |exact λ_=>pas rfl rfl rfl rfl (by assumption) rfl |exact λ_=>pau rfl rfl rfl rfl rfl |(refine λ_=>pag rfl rfl rfl rfl rfl rfl ?_;(first |exact mv rfl ⟨rfl,rfl⟩ |exact fa ti rfl rfl rfl ⟨rfl,rfl⟩ |exact ld ti rfl rfl ⟨rfl,rfl⟩ |exact nc rfl rfl ⟨rfl,rfl⟩ |exact asg rfl ⟨rfl,rfl⟩ |exact ex rfl rfl ⟨rfl,rfl⟩ |exact nt rfl ⟨rfl,rfl⟩ |exact pk rfl rfl ⟨rfl,rfl⟩ |exact pkb rfl (by assumption) rfl ⟨rfl,rfl⟩ |exact lss ti rfl rfl ⟨rfl,rfl⟩ |exact leq ti rfl rfl ⟨rfl,rfl⟩ |exact gtr ti rfl rfl ⟨rfl,rfl⟩ |exact geq ti rfl rfl ⟨rfl,rfl⟩ |exact eql ti rfl rfl ⟨rfl,rfl⟩ |exact neq ti rfl rfl ⟨rfl,rfl⟩ |exact add ti rfl rfl ⟨rfl,rfl⟩ |exact seq ti rfl rfl ⟨rfl,rfl⟩ |exact sne ti rfl rfl ⟨rfl,rfl⟩)) |(refine λ_=>pag rfl rfl rfl rfl (by assumption) rfl ?_;(first |exact mv rfl ⟨rfl,rfl⟩ |exact fa ti rfl rfl rfl ⟨rfl,rfl⟩ |exact ld ti rfl rfl ⟨rfl,rfl⟩ |exact nc rfl rfl ⟨rfl,rfl⟩ |exact asg rfl ⟨rfl,rfl⟩ |exact ex rfl rfl ⟨rfl,rfl⟩ |exact nt rfl ⟨rfl,rfl⟩ |exact pk rfl rfl ⟨rfl,rfl⟩ |exact pkb rfl (by assumption) rfl ⟨rfl,rfl⟩ |exact lss ti rfl rfl ⟨rfl,rfl⟩ |exact leq ti rfl rfl ⟨rfl,rfl⟩ |exact gtr ti rfl rfl ⟨rfl,rfl⟩ |exact geq ti rfl rfl ⟨rfl,rfl⟩ |exact eql ti rfl rfl ⟨rfl,rfl⟩ |exact neq ti rfl rfl ⟨rfl,rfl⟩ |exact add ti rfl rfl ⟨rfl,rfl⟩ |exact seq ti rfl rfl ⟨rfl,rfl⟩ |exact sne ti rfl rfl ⟨rfl,rfl⟩)) |refine And.intro ?_ ?_))(h2:Kd all ss p en=true:=by kernel_rfl)(h3:Z9 p ss=false:=by exact rfl):DT P all ss env0 K (n+1) p en F st:=dtS h1 h2 h3 h4
theorem zIy(h4:K (F++Kr (Kl all) env0) st)(h1:UM P all env0 F st p en:=by repeat' (first |exact True.intro |exact nz |(refine λ_=>pa rfl rfl rfl rfl ?_;(first |exact mv rfl ⟨rfl,rfl⟩ |exact fa ti rfl rfl rfl ⟨rfl,rfl⟩ |exact ld ti rfl rfl ⟨rfl,rfl⟩ |exact nc rfl rfl ⟨rfl,rfl⟩ |exact asg rfl ⟨rfl,rfl⟩ |exact ex rfl rfl ⟨rfl,rfl⟩ |exact nt rfl ⟨rfl,rfl⟩ |exact pk rfl rfl ⟨rfl,rfl⟩ |exact pkb rfl (by assumption) rfl ⟨rfl,rfl⟩ |exact lss ti rfl rfl ⟨rfl,rfl⟩ |exact leq ti rfl rfl ⟨rfl,rfl⟩ |exact gtr ti rfl rfl ⟨rfl,rfl⟩ |exact geq ti rfl rfl ⟨rfl,rfl⟩ |exact eql ti rfl rfl ⟨rfl,rfl⟩ |exact neq ti rfl rfl ⟨rfl,rfl⟩ |exact add ti rfl rfl ⟨rfl,rfl⟩ |exact seq ti rfl rfl ⟨rfl,rfl⟩ |exact sne ti rfl rfl ⟨rfl,rfl⟩)) |exact λ_=>pas rfl rfl rfl rfl rfl rfl |exact λ_=>pas rfl rfl rfl rfl (by assumption) rfl |exact λ_=>pau rfl rfl rfl rfl rfl |(refine λ_=>pag rfl rfl rfl rfl rfl rfl ?_;(first |exact mv rfl ⟨rfl,rfl⟩ |exact fa ti rfl rfl rfl ⟨rfl,rfl⟩ |exact ld ti rfl rfl ⟨rfl,rfl⟩ |exact nc rfl rfl ⟨rfl,rfl⟩ |exact asg rfl ⟨rfl,rfl⟩ |exact ex rfl rfl ⟨rfl,rfl⟩ |exact nt rfl ⟨rfl,rfl⟩ |exact pk rfl rfl ⟨rfl,rfl⟩ |exact pkb rfl (by assumption) rfl ⟨rfl,rfl⟩ |exact lss ti rfl rfl ⟨rfl,rfl⟩ |exact leq ti rfl rfl ⟨rfl,rfl⟩ |exact gtr ti rfl rfl ⟨rfl,rfl⟩ |exact geq ti rfl rfl ⟨rfl,rfl⟩ |exact eql ti rfl rfl ⟨rfl,rfl⟩ |exact neq ti rfl rfl ⟨rfl,rfl⟩ |exact add ti rfl rfl ⟨rfl,rfl⟩ |exact seq ti rfl rfl ⟨rfl,rfl⟩ |exact sne ti rfl rfl ⟨rfl,rfl⟩)) |(refine λ_=>pag rfl rfl rfl rfl (by assumption) rfl ?_;(first |exact mv rfl ⟨rfl,rfl⟩ |exact fa ti rfl rfl rfl ⟨rfl,rfl⟩ |exact ld ti rfl rfl ⟨rfl,rfl⟩ |exact nc rfl rfl ⟨rfl,rfl⟩ |exact asg rfl ⟨rfl,rfl⟩ |exact ex rfl rfl ⟨rfl,rfl⟩ |exact nt rfl ⟨rfl,rfl⟩ |exact pk rfl rfl ⟨rfl,rfl⟩ |exact pkb rfl (by assumption) rfl ⟨rfl,rfl⟩ |exact lss ti rfl rfl ⟨rfl,rfl⟩ |exact leq ti rfl rfl ⟨rfl,rfl⟩ |exact gtr ti rfl rfl ⟨rfl,rfl⟩ |exact geq ti rfl rfl ⟨rfl,rfl⟩ |exact eql ti rfl rfl ⟨rfl,rfl⟩ |exact neq ti rfl rfl ⟨rfl,rfl⟩ |exact add ti rfl rfl ⟨rfl,rfl⟩ |exact seq ti rfl rfl ⟨rfl,rfl⟩ |exact sne ti rfl rfl ⟨rfl,rfl⟩)) |refine And.intro ?_ ?_))(h2:Kd all ss p en=true:=by kernel_rfl)(h3:Z9 p ss=true:=by exact rfl):DT P all ss env0 K 0 p en F st:=dt0 h1 h2 h3 h4
end
theorem kz{α:Sort _}{a b:α}(h:a=b:=by kernel_rfl):a=b:=h
theorem rdA{P:Program}{n nb0:Nat}{Q:Exit->Ev->St->Prop}{env:Ev}{st:St}{id:Nat}{ops:Array Oper}{y:Code}(E:Ev)(S:St)(ss en:List Nat)(F:Ev)(k:Nat)
  (h:DT P ops.toList ss env (λenv st=>Can nb0 E S env st) k [] en F st) (hy:SW P n nb0 y Q E S) (hm:P.follows .mixedOrders=true:=by kernel_rfl) (hok:Hy n ops.toList=true:=by kernel_rfl) (hss:G3 ops.size ss=true:=by exact rfl) (hks:UQ ops.toList en (XZ F)=true:=by kernel_rfl):
  SW P n nb0 (.seq (.region id ops true) y) Q env st:=rd E S ss en F k hm hok hss hks h hy
theorem XC{P:Program}{n nb0:Nat}{Q:Exit->Ev->St->Prop}{env:Ev}{st:St}{id:Nat}{ops:Array Oper}(E:Ev)(S:St)(ss en:List Nat)(F:Ev)(k:Nat)
  (h:DT P ops.toList ss env (λenv st=>Can nb0 E S env st) k [] en F st) (hy:Q .normal E S) (hm:P.follows .mixedOrders=true:=by kernel_rfl) (hok:Hy n ops.toList=true:=by kernel_rfl) (hss:G3 ops.size ss=true:=by exact rfl) (hks:UQ ops.toList en (XZ F)=true:=by kernel_rfl):
  SW P n nb0 (.region id ops true) Q env st:=rdL E S ss en F k hm hok hss hks h hy

end
end Go.Proofs.YthmnlfenkhmmhaaGreat
