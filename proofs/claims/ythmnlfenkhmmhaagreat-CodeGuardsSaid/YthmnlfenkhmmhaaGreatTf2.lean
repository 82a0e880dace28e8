/- What the proofs of this seat's laws rest on: how the program's functions compute, each for every input. No further condition. Part 2 of 8. -/
import Derived.Test.YthmnlfenkhmmhaaGreatTf1
namespace Go.Proofs.YthmnlfenkhmmhaaGreat
noncomputable section
open List (length map)
set_option linter.unusedSimpArgs false
set_option linter.unusedVariables false
set_option linter.unusedSectionVars false
inductive Rn(ρ:Nat→Option Nat):AV→AV→Prop
 |any (x):Rn ρ .any x
 |imm {x} (h:Imm x):Rn ρ x x
 |nilI {k:Nat}:Rn ρ (.isl k []) (.lit (.slice none 0 0))
 |nil0 {l l':Nat} (h:ρ l=some l'):Rn ρ (.msl l 0 0) (.lit (.slice none 0 0))
 |msl {l l' i n:Nat} (h:ρ l=some l'):Rn ρ (.msl l i n) (.msl l' i n)
 |mpt {l l' i j:Nat} (h:ρ l=some l'):Rn ρ (.mpt l i j) (.mpt l' i j)
 |mmp {l l':Nat} (h:ρ l=some l'):Rn ρ (.mmp l) (.mmp l')
 |agg {cs cs':List AV} (hl:cs.length=cs'.length) (hr:∀i (h:i<cs.length) (h':i<cs'.length),Rn ρ cs[i] cs'[i]):Rn ρ (.agg cs) (.agg cs')
 |tup {cs cs':List AV} (hl:cs.length=cs'.length) (hr:∀i (h:i<cs.length) (h':i<cs'.length),Rn ρ cs[i] cs'[i]):Rn ρ (.tup cs) (.tup cs')
 |fn {f:Fn} {cs cs' ds ds':List AV} (hl:cs.length=cs'.length) (hr:∀i (h:i<cs.length) (h':i<cs'.length),Rn ρ cs[i] cs'[i])
   (hl':ds.length=ds'.length) (hr':∀i (h:i<ds.length) (h':i<ds'.length),Rn ρ ds[i] ds'[i]):Rn ρ (.fn f cs ds) (.fn f cs' ds')
theorem Rn.v{ρ A m m' nb nb'}{w:World}(hm:∀l l',ρ l=some l'→m' l=m l'∧l<nb'){av0 av:AV}(h:Rn ρ av0 av):∀{v},V A m nb w av v→V A m' nb' w av0 v:=by
 induction h with
 |any x=>exact fun {v} _=>.imm (.any v)
 |imm h=>exact fun {v} hv=>.imm (h.vi hv)
 |nilI=>intro v hv;rw [hv.lit_inv];exact .imm (.inil _ _ _)
 |nil0 h =>
  intro v hv;rw [hv.lit_inv];exact .msl _ _ _ _ _ _ (hm _ _ h).2 fun b hb=>⟨rfl,Qg _,.inl rfl⟩
 |msl h =>
  intro v hv;obtain ⟨hl,a,n',cap,rfl,hb⟩:=hv.msl_inv;obtain ⟨h1,h2⟩:=hm _ _ h;exact .msl _ _ _ _ _ _ h2 fun b hb'=>hb b (h1 ▸ hb')
 |mpt h =>
  intro v hv;obtain ⟨hl,a,rfl,hb⟩:=hv.mpt_inv;obtain ⟨h1,h2⟩:=hm _ _ h;exact .mpt _ _ _ _ h2 fun b hb'=>hb b (h1 ▸ hb')
 |mmp h =>
  intro v hv;obtain ⟨hl,a,rfl,hb⟩:=hv.mmp_inv;obtain ⟨h1,h2⟩:=hm _ _ h;exact .mmp _ _ h2 fun b hb'=>hb b (h1 ▸ hb')
 |agg hl hr ih =>
  intro v hv;obtain ⟨a,rfl,h1,h2⟩:=hv.agg_inv;exact .agg _ _ (by omega) fun i hi=>ih i hi (by omega) (h2 i (by omega))
 |tup hl hr ih =>
  intro v hv;obtain ⟨a,rfl,h1,h2⟩:=hv.tup_inv;exact .tup _ _ (by omega) fun i hi=>ih i hi (by omega) (h2 i (by omega))
 |fn hl hr hl' hr' ih ih' =>
  intro v hv;obtain ⟨a,b,rfl,⟨h1,h2⟩,⟨h3,h4⟩⟩:=hv.fn_inv;exact .fn _ _ _ _ _ (by omega) (fun i hi=>ih i hi (by omega) (h2 i (by omega))) (by omega) fun i hi=>ih' i hi (by omega) (h4 i (by omega))
def zjS(ρ:Nat→Option Nat)(els0 els:List (List AV)):Prop:=
 els0.length=els.length∧∀i (h:i<els0.length) (h':i<els.length),els0[i].length=els[i].length∧∀j (h1:j<els0[i].length) (h2:j<els[i].length),Rn ρ els0[i][j] els[i][j]
structure zE4(ρ:Nat→Option Nat)(st0 st:St):Prop where
 live:∀l l',ρ l=some l'→∃k els0 els,st0[l]?=some (some (k,els0))∧st[l']?=some (some (k,els))∧zjS ρ els0 els
 all:∀l k els0,st0[l]?=some (some (k,els0))→∃l',ρ l=some l'
 inj:∀l1 l2 x,ρ l1=some x→ρ l2=some x→l1=l2
theorem zE4.lt{ρ st0 st}(h:zE4 ρ st0 st){l l'}(hl:ρ l=some l'):l<st0.length∧l'<st.length:=by
 obtain ⟨k,els0,els,h1,h2,_⟩:=h.live l l' hl;exact ⟨(Qb.1 h1).1,(Qb.1 h2).1⟩
theorem R.rn{ρ A m w st st0}(hR:R A m w st)(h:zE4 ρ st0 st):R A (fun l=>(ρ l).bind m) w st0:=by
 have hmm:∀l b,(ρ l).bind m=some b→∃l',ρ l=some l'∧m l'=some b:=fun l b hb=>by
  cases hl:ρ l with
  |none=>rw [hl] at hb;cases hb
  |some l'=>rw [hl] at hb;exact ⟨l',rfl,hb⟩
 refine ⟨hR.aLow,fun B l b hA hb hh=>?_,fun l1 l2 b1 b2 h1 h2 hh1 hh2 he=>?_,fun l b hb=>?_,fun l k els0 he=>?_⟩
 ·obtain ⟨l',_,h2⟩:=hmm l b hb;exact hR.aOwn B l' b hA h2 hh
 ·obtain ⟨x1,k1,k2⟩:=hmm l1 b1 h1;obtain ⟨x2,k3,k4⟩:=hmm l2 b2 h2;have:=hR.inj x1 x2 b1 b2 k2 k4 hh1 hh2 he;subst this;exact h.inj l1 l2 x1 k1 k3
 ·obtain ⟨l',h1,h2⟩:=hmm l b hb;obtain ⟨k,els0,els,h3,h4,_⟩:=h.live l l' h1;exact ⟨els0,by rw [h3];rw [(hR.at h2 h4).1]⟩
 ·obtain ⟨l',h1⟩:=h.all l k els0 he;obtain ⟨k',els0',els,h3,h4,h5⟩:=h.live l l' h1;rw [he] at h3;cases h3;obtain ⟨b,h6,h7,h8,h9⟩:=hR.blk l' k els h4;refine ⟨b,by rw [h1];exact h6,h7,fun hh=>?_,fun hh=>?_⟩
  ·exact (h8 hh).rel h5.1 fun i hi hi'=>⟨(h5.2 i hi hi').1,fun j hj hj' v hv=>((h5.2 i hi hi').2 j hj hj').v (fun l l' hl=>⟨by rw [hl];rfl,(h.lt hl).1⟩) hv⟩
  ·have:=h9 hh;subst this;exact Qf h5.1
theorem ze0.rn{ρ A m nb0 w A' m' nb' w' st0 st'}(h:zE4 ρ st0 st')(hS:ze0 A m nb0 w A' m' nb' w')(hid:∀l l',ρ l=some l'→l<nb0→l'=l)(hn:nb0≤st0.length):
  ze0 A m nb0 w A' (fun l=>(ρ l).bind m') st0.length w':=by
 refine ⟨hn,hS.size,hS.aSub,hS.aNew,fun l hl=>?_,fun l b hb hh=>?_,hS.heap,hS.os,hS.tape,hS.output⟩
 ·cases hr:ρ l with
  |none=>exact .inr rfl
  |some l' =>
   have:=hid l l' hr hl;subst this;exact hS.mOld l' hl
 ·cases hr:ρ l with
  |none=>simp [hr] at hb
  |some l'=>simp only [hr,Qa] at hb;exact hS.mNew l' b hb hh
def zBo(ρ:Nat→Option Nat):Ev→Ev→Prop
 | [],_=>True
 |(t,v0)::r,env=>(∃v,look env t=some v∧Rn ρ v0 v)∧zBo ρ r env
theorem zBo.get{ρ}:∀{env0 env:Ev},zBo ρ env0 env→∀t v0,look env0 t=some v0→∃v,look env t=some v∧Rn ρ v0 v
 | [],_,_,t,v0,h=>by cases h
 |(k,x)::r,env,h,t,v0,hl=>by
  simp only [look] at hl;split at hl
  ·rename_i e;subst e;cases hl;exact h.1
  ·exact zBo.get h.2 t v0 hl
mutual
def rn(τ:Nat→Nat):AV→AV
 |.msl l i n=>.msl (τ l) i n
 |.mpt l i j=>.mpt (τ l) i j
 |.agg cs=>.agg (rnL τ cs)
 |.tup cs=>.tup (rnL τ cs)
 |.fn f cs ds=>.fn f (rnL τ cs) (rnL τ ds)
 |.any=>.any
 |.lit v=>.lit v
 |.isl k els=>.isl k els
 |.ipt k els i j=>.ipt k els i j
 |.imp els=>.imp els
 |.mmp l=>.mmp (τ l)
def rnL(τ:Nat→Nat):List AV→List AV
 | []=>[]
 |x ::l=>rn τ x ::rnL τ l
end
theorem zhD(τ:Nat→Nat):∀l,rnL τ l=l.map (rn τ)
 | []=>rfl
 |x ::l=>by rw [rnL,Yc,zhD τ l]
theorem zGX{τ:Nat→Nat}{A m m' nb nb'}{w:World}(hm:∀l,l<nb→m' (τ l)=m l∧τ l<nb'){av:AV}{v:Value}(h:V A m nb w av v):V A m' nb' w (rn τ av) v:=by
 have immv:∀{av v},VI A w av v→V A m' nb' w (rn τ av) v:=fun {av v} h=>by
  induction h with
  |any v=>exact .imm (.any v)
  |lit v=>exact .imm (.lit v)
  |isl k els B o cap vs hA hcap hk hc hv _=>exact .imm (.isl k els B o cap vs hA hcap hk hc hv)
  |inil k a cap=>exact .imm (.inil k a cap)
  |ipt k els i j B o vs hA hk hc hv _=>exact .imm (.ipt k els i j B o vs hA hk hc hv)
  |imp els r es clock hA hh hs hk hv _=>exact .imm (.imp els r es clock hA hh hs hk hv)
  |agg cs a hs _ ih=>rw [rn,zhD];exact .agg _ _ (by simpa using hs) fun i hi=>by simpa using ih i (by simpa using hi)
  |tup cs a hs _ ih=>rw [rn,zhD];exact .tup _ _ (by simpa using hs) fun i hi=>by simpa using ih i (by simpa using hi)
  |fn f cs ds a b hs _ hs' _ ih ih'=>rw [rn,zhD,zhD];exact .fn _ _ _ _ _ (by simpa using hs) (fun i hi=>by simpa using ih i (by simpa using hi)) (by simpa using hs') fun i hi=>by simpa using ih' i (by simpa using hi)
 induction h with
 |imm h=>exact immv h
 |msl l i n a n' cap hl h=>exact .msl _ _ _ _ _ _ (hm l hl).2 fun b hb=>h b ((hm l hl).1 ▸ hb)
 |mpt l i j a hl h=>exact .mpt _ _ _ _ (hm l hl).2 fun b hb=>h b ((hm l hl).1 ▸ hb)
 |mmp l a hl h=>exact .mmp _ _ (hm l hl).2 fun b hb=>h b ((hm l hl).1 ▸ hb)
 |agg cs a hs _ ih=>rw [rn,zhD];exact .agg _ _ (by simpa using hs) fun i hi=>by simpa using ih i (by simpa using hi)
 |tup cs a hs _ ih=>rw [rn,zhD];exact .tup _ _ (by simpa using hs) fun i hi=>by simpa using ih i (by simpa using hi)
 |fn f cs ds a b hs _ hs' _ ih ih'=>rw [rn,zhD,zhD];exact .fn _ _ _ _ _ (by simpa using hs) (fun i hi=>by simpa using ih i (by simpa using hi)) (by simpa using hs') fun i hi=>by simpa using ih' i (by simpa using hi)
def zn9(τ:Nat→Nat)(els:List (List AV)):List (List AV):=els.map (rnL τ)
def zqw(τ:Nat→Nat):Option (Nat×List (List AV))→Option (Nat×List (List AV))
 |some (k,els)=>some (k,zn9 τ els)
 |none=>none
def tau(L:List Nat)(nb:Nat)(i:Nat):Nat:=
 match L[i]? with
 |some l=>l
 |none=>nb+(i-L.length)
def zm7(τ:Nat→Nat):St→List Nat→St→St
 |st,l ::L,b ::bs=>zm7 τ (st.set l (zqw τ b)) L bs
 |st,_,_=>st
def zgU(L:List Nat)(st st':St):St:=
 zm7 (tau L st.length) st L (st'.take L.length)++(st'.drop L.length).map (zqw (tau L st.length))
theorem zhu(τ:Nat→Nat):∀(L:List Nat) (st bs:St),(zm7 τ st L bs).length=st.length
 | [],_,bs=>by cases bs <;> rfl
 |l ::L,st,[]=>rfl
 |l ::L,st,b ::bs=>by rw [zm7,zhu τ L];simp
theorem zp7(τ:Nat→Nat):∀(L:List Nat) (st bs:St) (x:Nat),L.Nodup→L.length=bs.length→(∀l∈L,l<st.length) →
  (x ∉ L→(zm7 τ st L bs)[x]?=st[x]?)∧∀i:Nat,L[i]?=some x→(zm7 τ st L bs)[x]?=(bs[i]?).map (zqw τ)
 | [],st,bs,x,_,_,_=>⟨fun _=>by cases bs <;> rfl,fun i h=>by simp at h⟩
 |l ::L,st,[],x,_,h,_=>by simp at h
 |l ::L,st,b ::bs,x,hn,hl,hlt=>by
  obtain ⟨hn1,hn2⟩:=Ji.1 hn;obtain ⟨h1,h2⟩:=zp7 τ L (st.set l (zqw τ b)) bs x hn2 (by simpa using hl) (fun y hy=>by simpa using hlt y (by simp [hy]));refine ⟨fun hx=>?_,fun i hi=>?_⟩
  ·simp at hx;rw [zm7,h1 hx.2,QC (Ne.symm hx.1)]
  ·cases i with
   |zero =>
    simp at hi;subst hi;rw [zm7,h1 hn1,QL (hlt l (by simp))];rfl
   |succ i=>rw [zm7];simpa using h2 i (by simpa using hi)
theorem zwi{P:Program}{f:FuncId}{args args0:List AV}{st st0:St}{K0 K:AV→St→Prop}(h:zmv P f args0 st0 K0)(L:List Nat)(hL:L.length=st0.length)(hnd:L.Nodup)(hlt:∀l∈L,l<st.length)
  (ha:args0.length=args.length) (hargs:∀i (h:i<args0.length) (h':i<args.length),Rn (fun i=>L[i]?) args0[i] args[i]) (hs:zE4 (fun i=>L[i]?) st0 st)
  (hk:∀av st',K0 av st'→K (rn (tau L st.length) av) (zgU L st st')):zmv P f args st K:=by
 refine ⟨h.1,fun A m w vals hR hv=>?_⟩;have hR0:=hR.rn hs;refine (h.2 A _ w vals hR0 ⟨by rw [ha];exact hv.1,fun i hi=>(hargs i hi (by omega)).v (fun l l' hl=>⟨by rw [hl];rfl,(hs.lt hl).1⟩) (hv.2 i (by omega))⟩).mono fun e w' ⟨v,A',m',st',av,he,hR',hS,hv',hK⟩=>?_;have hS0:=hS.nbLe
 have hLst:L.length≤st'.length:=by omega
 classical
 have hLlt:∀i l,L[i]?=some l→l<st.length:=fun i l h=>hlt l (Qc h);obtain ⟨μ,hμ⟩:∃μ:BM,μ=fun l=>if h:∃i:Nat,L[i]?=some l then m' h.choose else if l<st.length then m l else m' (L.length+(l-st.length)):=⟨_,rfl⟩
 have μ1:∀i l,L[i]?=some l→μ l=m' i:=fun i l h=>by
  have hex:∃i:Nat,L[i]?=some l:=⟨i,h⟩;rw [hμ];simp only [dif_pos hex];rw [hs.inj hex.choose i l hex.choose_spec h]
 have μ2:∀l,(∀i,L[i]?≠some l)→l<st.length→μ l=m l:=fun l h hl=>by
  have hex:¬∃i:Nat,L[i]?=some l:=fun ⟨i,hi⟩=>h i hi;rw [hμ];simp only [dif_neg hex,if_pos hl]
 have μ3:∀l,st.length≤l→μ l=m' (L.length+(l-st.length)):=fun l hl=>by
  have hex:¬∃i:Nat,L[i]?=some l:=fun ⟨i,hi⟩=>by have:=hLlt i l hi;omega
  rw [hμ];simp only [dif_neg hex,if_neg (by omega:¬l<st.length)]
 have τ1:∀i l,L[i]?=some l→tau L st.length i=l:=fun i l h=>by simp [tau,h]
 have τ2:∀i,L.length≤i→tau L st.length i=st.length+(i-L.length):=fun i h=>by simp [tau,Je h]
 have hlen:(zgU L st st').length=st.length+(st'.length-L.length):=by simp [zgU,zhu]
 have hbs:L.length=(st'.take L.length).length:=by simp;omega
 have U1:∀i l,L[i]?=some l→(zgU L st st')[l]?=(st'[i]?).map (zqw (tau L st.length)):=fun i l h=>by
  have hi:i<L.length:=(Qb.1 h).1;unfold zgU;rw [Qm (by rw [zhu];exact hLlt i l h),(zp7 _ L st _ l hnd hbs hlt).2 i h,Jp,if_pos hi]
 have U2:∀l,(∀i,L[i]?≠some l)→l<st.length→(zgU L st st')[l]?=st[l]?:=fun l h hl=>by
  unfold zgU;rw [Qm (by rw [zhu];exact hl),(zp7 _ L st _ l hnd hbs hlt).1 fun hm=>?_];obtain ⟨i,hi⟩:=List.getElem?_of_mem hm;exact h i hi
 have U3:∀l,st.length≤l→(zgU L st st')[l]?=(st'[L.length+(l-st.length)]?).map (zqw (tau L st.length)):=fun l hl=>by
  unfold zgU;rw [Qn (by rw [zhu];exact hl),zhu,Jc,JJ]
 have hmτ:∀i,i<st'.length→μ (tau L st.length i)=m' i∧tau L st.length i<(zgU L st st').length:=fun i hi=>by
  rw [hlen];by_cases h1:i<L.length
  ·have h2:=Qe h1;rw [τ1 i _ h2];exact ⟨μ1 i _ h2,by have:=hLlt i _ h2;omega⟩
  ·rw [τ2 i (by omega)];refine ⟨by rw [μ3 _ (by omega)];congr 1;omega,by omega⟩
 have from_:∀l,l<(zgU L st st').length→(∃i,i<st'.length∧tau L st.length i=l∧μ l=m' i∧(zgU L st st')[l]?=(st'[i]?).map (zqw (tau L st.length))) ∨
   ((∀i:Nat,L[i]?≠some l)∧l<st.length∧μ l=m l∧(zgU L st st')[l]?=st[l]?):=fun l hl=>by
  by_cases h1:∃i:Nat,L[i]?=some l
  ·obtain ⟨i,hi⟩:=h1;have:i<L.length:=(Qb.1 hi).1;exact .inl ⟨i,by omega,τ1 i l hi,μ1 i l hi,U1 i l hi⟩
  ·have h1':∀i:Nat,L[i]?≠some l:=fun i hi=>h1 ⟨i,hi⟩;by_cases h2:l<st.length
   ·exact .inr ⟨h1',h2,μ2 l h1' h2,U2 l h1' h2⟩
   ·refine .inl ⟨L.length+(l-st.length),by omega,?_,μ3 l (by omega),U3 l (by omega)⟩;rw [τ2 _ (by omega)];omega
 have μlt:∀l b,μ l=some b→l<(zgU L st st').length:=fun l b h=>by
  rw [hlen];by_cases h2:l<st.length
  ·omega
  ·rw [μ3 l (by omega)] at h;have:=hR'.lt h;omega
 have hown0:∀(i:Nat) (b:Blk),(L[i]?).bind m=some b→∃l,L[i]?=some l∧m l=some b:=fun i b h=>by
  cases hl:L[i]? with
  |none=>rw [hl] at h;cases h
  |some l=>rw [hl] at h;exact ⟨l,rfl,h⟩
 have hSB:ze0 A m st.length w A' μ (zgU L st st').length w':=by
  refine ⟨by omega,hS.size,hS.aSub,fun B hB=>(hS.aNew B hB).imp id fun h=>h.imp id fun ⟨l0,b0,h4,h5,h6⟩=>(let ⟨x,_,h8⟩:=hown0 l0 b0 h4;⟨x,b0,h8,h5,h6⟩),fun l hl=>?_,fun l b hb hh=>?_,fun B hB ho=>hS.heap B hB fun i b hb hh=>?_,hS.os,hS.tape,hS.output⟩
  ·by_cases h1:∃i:Nat,L[i]?=some l
   ·obtain ⟨i,hi⟩:=h1
    have hi':i<st0.length:=by rw [←hL];exact (Qb.1 hi).1
    rw [μ1 i l hi];have:=hS.mOld i hi';rw [hi] at this;exact this
   ·exact .inl (μ2 l (fun i hi=>h1 ⟨i,hi⟩) hl)
  ·rcases from_ l (μlt l b hb) with ⟨i,_,_,h3,_⟩ |⟨_,_,h3,_⟩
   ·rw [h3] at hb
    rcases hS.mNew i b hb hh with h4 |⟨l0,b0,h4,h5,h6⟩
    ·exact .inl h4
    ·obtain ⟨x,_,h7⟩:=hown0 l0 b0 h4;exact .inr ⟨x,b0,h7,h5,h6⟩
   ·rw [h3] at hb;exact .inr ⟨l,b,hb,hh,rfl⟩
  ·obtain ⟨x,_,h7⟩:=hown0 i b hb;exact ho x b h7 hh
 have hfr:∀(l:Nat) (b:Blk),(∀i:Nat,L[i]?≠some l)→m l=some b→b.has=true→∀(i:Nat) (b':Blk),m' i=some b'→b'.has=true→b'.B≠b.B:=fun l b hnl hb hh i b' hb' hh' he=>by
  rcases hS.mNew i b' hb' hh' with h4 |⟨l0,b0,h4,h5,h6⟩
  ·have:=hR.low hb hh;omega
  ·obtain ⟨x,h7,h8⟩:=hown0 l0 b0 h4;have:=hR.inj x l b0 b h8 hb h5 hh (h6.trans he);subst this;exact hnl l0 h7
 have hrows:∀{els:List (List AV)} {i:Nat} (hi:i<(zn9 (tau L st.length) els).length) (hi':i<els.length),(zn9 (tau L st.length) els)[i]=els[i].map (rn (tau L st.length)):=fun hi hi'=>by
  simp [zn9,zhD]
 refine ⟨v,A',μ,zgU L st st',rn (tau L st.length) av,he,⟨hR'.aLow,fun B l b hA hb hh=>?_,fun l1 l2 b1 b2 h1 h2 hh1 hh2 hBB=>?_,fun l b hb=>?_,fun l k els hel=>?_⟩,hSB,zGX hmτ hv',hk av st' hK⟩
 ·rcases from_ l (μlt l b hb) with ⟨i,_,_,h3,_⟩ |⟨_,_,h3,_⟩
  ·rw [h3] at hb;exact hR'.aOwn B i b hA hb hh
  ·rw [h3] at hb;rename_i hnl _ _
   rcases hS.aNew B hA with h4 |h4 |⟨l0,b0,h4,h5,h6⟩
   ·exact hR.aOwn B l b h4 hb hh
   ·have:=hR.low hb hh;omega
   ·obtain ⟨x,h7,h8⟩:=hown0 l0 b0 h4;intro he;have:=hR.inj x l b0 b h8 hb h5 hh (h6.trans he.symm);subst this;exact hnl l0 h7
 ·rcases from_ l1 (μlt l1 b1 h1) with ⟨i1,_,e1,h3,_⟩ |⟨n1,_,h3,_⟩ <;> rcases from_ l2 (μlt l2 b2 h2) with ⟨i2,_,e2,h4,_⟩ |⟨n2,_,h4,_⟩ <;> rw [h3] at h1 <;> rw [h4] at h2
  ·rw [←e1,←e2,hR'.inj i1 i2 b1 b2 h1 h2 hh1 hh2 hBB]
  ·exact absurd hBB (hfr l2 b2 n2 h2 hh2 i1 b1 h1 hh1)
  ·exact absurd hBB.symm (hfr l1 b1 n1 h1 hh1 i2 b2 h2 hh2)
  ·exact hR.inj l1 l2 b1 b2 h1 h2 hh1 hh2 hBB
 ·rcases from_ l (μlt l b hb) with ⟨i,_,_,h3,h4⟩ |⟨_,_,h3,h4⟩
  ·rw [h3] at hb;obtain ⟨els,he'⟩:=hR'.live i b hb;exact ⟨zn9 (tau L st.length) els,by rw [h4,he'];rfl⟩
  ·rw [h3] at hb;obtain ⟨els,he'⟩:=hR.live l b hb;exact ⟨els,by rw [h4];exact he'⟩
 ·rcases from_ l (Qb.1 hel).1 with ⟨i,_,_,h3,h4⟩ |⟨hn1,_,h3,h4⟩
  ·rw [h4] at hel
   cases hi:st'[i]? with
   |none=>rw [hi] at hel;cases hel
   |some bl =>
    rw [hi] at hel
    cases bl with
    |none=>simp [zqw] at hel
    |some kb =>
     obtain ⟨k',els'⟩:=kb;simp [zqw] at hel;obtain ⟨rfl,rfl⟩:=hel;obtain ⟨b,h5,h6,h7,h8⟩:=hR'.blk i k' els' hi;refine ⟨b,by rw [h3];exact h5,h6,fun hh=>?_,fun hh=>by rw [h8 hh];rfl⟩;refine (h7 hh).rel (by simp [zn9]) fun q hq hq'=>⟨by rw [hrows hq hq'];simp,fun j hj hj' v hv=>?_⟩
     have:(zn9 (tau L st.length) els')[q][j]=rn (tau L st.length) els'[q][j]:=by simp [zn9,zhD]
     rw [this];exact zGX hmτ hv
  ·rw [h4] at hel;obtain ⟨b,h5,h6,h7,h8⟩:=hR.blk l k els hel;refine ⟨b,by rw [h3];exact h5,h6,fun hh=>(h7 hh).keep hS.size (hS.heap _ (h7 hh).low fun i b' hb' hh'=>?_) fun av v hv=>hv.step hR hSB,h8⟩;obtain ⟨x,h9,h10⟩:=hown0 i b' hb';intro he';have:=hR.inj x l b' b h10 h5 hh' hh he';subst this;exact hn1 i h9
theorem zpC{α β:Type}(f:α→β)(l:List α):(l.map f).take l.length=l.map f:=Jt (by simp)
def zDj(L:List (Option Nat))(l:Nat):Option Nat:=(L[l]?).bind id
def zrQ(ρ:Nat→Option Nat):List (Option Nat)→St→St→Prop
 | [],[],_=>True
 |none ::L,none ::s0,st=>zrQ ρ L s0 st
 |some l' ::L,some (k,els0)::s0,st=>(∃els,st[l']?=some (some (k,els))∧zjS ρ els0 els)∧zrQ ρ L s0 st
 |_,_,_=>False
theorem zrQ.len{ρ}:∀{L:List (Option Nat)} {s0 st:St},zrQ ρ L s0 st→L.length=s0.length
 | [],[],_,_=>rfl
 | [],_ :: _,_,h=>h.elim
 |none ::L,[],_,h=>h.elim
 |some _ ::L,[],_,h=>h.elim
 |none ::L,none ::s0,st,h=>by simpa using zrQ.len (L:=L) (s0:=s0) (st:=st) h
 |none ::L,some _ ::s0,st,h=>h.elim
 |some _ ::L,none ::s0,st,h=>h.elim
 |some l' ::L,some (k,e)::s0,st,h=>by simpa using zrQ.len h.2
theorem zrQ.get{ρ}:∀{L:List (Option Nat)} {s0 st:St},zrQ ρ L s0 st→∀l,(∀l',zDj L l=some l'→∃k els0 els,s0[l]?=some (some (k,els0))∧st[l']?=some (some (k,els))∧zjS ρ els0 els) ∧
  ∀k els0,s0[l]?=some (some (k,els0))→∃l',zDj L l=some l'
 | [],[],_,_,l=>⟨fun l' h=>by simp [zDj] at h,fun k e h=>by simp at h⟩
 | [],_ :: _,_,h,_=>h.elim
 |none ::L,[],_,h,_=>h.elim
 |some _ ::L,[],_,h,_=>h.elim
 |none ::L,some _ ::s0,st,h,_=>h.elim
 |some _ ::L,none ::s0,st,h,_=>h.elim
 |none ::L,none ::s0,st,h,l=>by
  cases l with
  |zero=>exact ⟨fun l' h'=>by simp [zDj] at h',fun k e h'=>by simp at h'⟩
  |succ l=>simpa [zDj] using zrQ.get (L:=L) (s0:=s0) (st:=st) h l
 |some x ::L,some (k,e)::s0,st,h,l=>by
  cases l with
  |zero =>
   obtain ⟨els,h1,h2⟩:=h.1;refine ⟨fun l' h'=>?_,fun k' e' h'=>⟨x,by simp [zDj]⟩⟩;simp [zDj] at h';subst h';exact ⟨k,e,els,by simp,h1,h2⟩
  |succ l=>simpa [zDj] using zrQ.get h.2 l
theorem zjS.same{ρ}{els:List (List AV)}(h:∀r∈els,∀x∈r,Imm x):zjS ρ els els:=
 ⟨rfl,fun i hi _=>⟨rfl,fun j hj _=>.imm (h _ (Qi hi) _ (Qi hj))⟩⟩
theorem zjS.bytes{ρ}(bs:List UInt8):zjS ρ (bs.map zc2) (bs.map zc2):=
 zjS.same fun r hr x hx=>by
  obtain ⟨b,_,rfl⟩:=QS.1 hr;simp [zc2] at hx;subst hx;exact .lit _
theorem zjS.nil{ρ}:zjS ρ [] []:=⟨rfl,fun i hi=>by simp at hi⟩
theorem zjS.one{ρ}{r r':List AV}(hl:r.length=r'.length)(h:∀j (h1:j<r.length) (h2:j<r'.length),Rn ρ r[j] r'[j]):zjS ρ [r] [r']:=
 ⟨rfl,fun i hi _=>by
  have:i=0:=by simp at hi;exact hi
  subst this
  exact ⟨hl,h⟩⟩
inductive zo0:AV→Prop
 |any:zo0 .any
 |lit (v):zo0 (.lit v)
 |agg (cs) (h:∀x∈cs,zo0 x):zo0 (.agg cs)
 |tup (cs) (h:∀x∈cs,zo0 x):zo0 (.tup cs)
theorem zo0.vi{A A':Nat→Prop}{w w':World}{av:AV}(hp:zo0 av):∀{v},VI A w av v→VI A' w' av v:=by
 induction hp with
 |any=>exact fun {v} _=>.any v
 |lit x=>intro v h;cases h;exact .lit _
 |agg cs _ ih=>intro v h;cases h with |agg _ a hs hv=>exact .agg _ _ hs fun i hi=>ih _ (Qi hi) (hv i hi)
 |tup cs _ ih=>intro v h;cases h with |tup _ a hs hv=>exact .tup _ _ hs fun i hi=>ih _ (Qi hi) (hv i hi)
theorem zwj{P:Program}{f:FuncId}{args args':List AV}{st:St}{r:AV}{K:AV→St→Prop}(h:zan P f args' r)(hp:zo0 r)(hs:zvp st args args')(hk:K r st):zmv P f args st K:=by
 refine ⟨h.1,fun A m w vals hR hv=>(h.2 (fun B=>B<w.heap.size) w vals (fun B hB=>hB) ⟨by rw [←hs.get.1];exact hv.1,fun i hi'=>(hs.get.2 i (by rw [hs.get.1];exact hi') hi').vi hR hR.aLow (fun _ _ hb hh=>hR.low hb hh) (hv.2 i (by rw [hs.get.1];exact hi'))⟩).mono fun e w' ⟨v,he,hg,hvi⟩=>?_⟩;obtain ⟨h1,h2⟩:=hR.grow' hg;exact ⟨v,A,m,st,_,he,h1,h2,.imm (hp.vi hvi),hk⟩
def zt2(P:Program)(op:Op)(env:Ev)(st:St)(K:AV→St→Prop):Prop:=
 match zhF op with
 |true =>
  match zo2 env op with
  |some (g,args)=>zmv P g args st K
  |none=>False
 |false =>
  match aop P env st op with
  |some (av,st')=>K av st'
  |none=>False
theorem zDp{P:Program}{A m w st n env a}{o:Oper}{K:AV→St→Prop}{next:Act→World→Prop}{Q:Exit→Act→World→Prop}(hR:R A m w st)(hE:Env A m st.length w n env a)
  (h:zt2 P o.op env st K)
  (hk:∀v w' A' m' st' av,R A' m' w' st'→ze0 A m st.length w A' m' st'.length w'→V A' m' st'.length w' av v→K av st'→next (a.put o.dst v) w'):o.wp P a w next Q:=by
 unfold zt2 at h;unfold Oper.wp;split at h
 ·rename_i hic;clear hic;split at h
  case h_2=>exact h.elim
  rename_i g args hc;have hs:=h;clear h;obtain ⟨dst,op,ty,pos,after,guard⟩:=o;simp only at hc hs;unfold zo2 at hc;split at hc
  ·rename_i c;split at hc
   ·rename_i f hf;split at hc
    ·rename_i g' first caps args' hfv hargs
     cases hc;have h1:=zV hE hfv;obtain ⟨p,q,e,hp,hq⟩:=h1.fn_inv;have hargs':=zja hE hargs;obtain ⟨callee,cargs,cat⟩:=c;simp only at hf hargs hargs';subst hf
     have e2:(cargs.toList.map a.eval).toArray=cargs.map a.eval:=by apply Array.ext';simp
     rw [e2] at hargs'
     have hrun:(execOp a.eval { dst:=dst,op:=.call { callee:=.value f,args:=cargs,argTypes:=cat },type:=ty,pos:=pos,after:=after,guard:=guard }).run P w=.ok (.enter g (p++cargs.map a.eval++q)) w:=by
      have hce:=znH hs.1 (p++cargs.map a.eval++q) w;simp only [execOp,resolve,e,Deferred.ofValue,Sem.run_bind,Sem.run_pure,Result.andThen_ok,invoke];exact hce
     rw [hrun];simp only [Oper.upon];refine (hs.2 A m w _ hR ((hp.append hargs').append hq)).mono fun e w' ⟨v,A',m',st',av,h1,h2,h3,h4,h5⟩=>?_;subst h1;exact hk _ _ _ _ _ _ h2 h3 h4 h5
    ·cases hc
   ·cases hc
  ·cases hc
 ·split at h
  case h_2=>exact h.elim
  rename_i av st' ha;have hK:=h;obtain ⟨nx,v,w',m',h1,h2,h3,h4,h5⟩:=zuf hR hE ha;rw [h1]
  rcases h2 with rfl |⟨rfl,rfl⟩
  ·exact hk _ _ _ _ _ _ h3 h4 h5 hK
  ·exact hk _ _ _ _ _ _ h3 h4 h5 hK
def zhA(all:List Oper)(j:Nat):Option Tmp:=(all[j]?).bind (·.dst)
def zwO:List Oper→List Tmp
 | []=>[]
 |o ::os=>match o.dst with |some t=>t ::zwO os |none=>zwO os
def zFz(t:Tmp):List Tmp→Bool
 | []=>false
 |x ::l=>if x=t then true else zFz t l
theorem ztw{t:Tmp}:∀{l:List Tmp},zFz t l=true↔t∈l
 | []=>by simp [zFz]
 |x ::l=>by
  unfold zFz;split
  ·rename_i h;simp [h]
  ·rename_i h;simp [ztw (l:=l),Ne.symm h]
def zo9(ds:List Tmp):Ev→Ev
 | []=>[]
 |(k,v)::e=>match zFz k ds with |true=>zo9 ds e |false=>(k,v)::zo9 ds e
structure COp where
 op:Op
 deps:List Tmp
 guard:Option (Option Tmp×Bool)
 dst:Option Tmp
def zff(all:List Oper):List Edge→List Tmp
 | []=>[]
 |e ::es=>match Region.binds .any e,zhA all e.on with |true,some t=>t ::zff all es |_,_=>zff all es
def zj1(all:List Oper):Option (Nat×Bool)→Option (Option Tmp×Bool)
 |none=>none
 |some (j,w)=>some (zhA all j,w)
def sel(G:Ev)(env0:Ev):List Tmp→Ev
 | []=>env0
 |t ::ts=>match look G t with |some v=>(t,v)::sel G env0 ts |none=>sel G env0 ts
def zl4(env:Ev):Option (Option Tmp×Bool)→Option Bool
 |none=>some true
 |some (none,_)=>none
 |some (some d,want) =>
  match look env d with
  |some (.lit (.bool b))=>some (b == want)
  |some (.lit (.tuple _))=>some false
  |_=>none
theorem zqW(all:List Oper)(env:Ev)(o:Oper):zg6 all env o=zl4 env (zj1 all o.guard):=by
 unfold zg6 zj1
 cases o.guard with
 |none=>rfl
 |some g =>
  obtain ⟨j,w⟩:=g;simp only [zhA];cases (all[j]?).bind (·.dst) <;> rfl
def zC1(P:Program)(all:List Oper)(env0:Ev)(st:St)(G:Ev)(o:Oper)(v:AV):Prop:=
 match zl4 (sel G env0 (zff all o.after.toList)) (zj1 all o.guard) with
 |some true=>zt2 P o.op (sel G env0 (zff all o.after.toList)) st (fun av st'=>av=v∧st'=st)
 |some false=>v=.lit undef
 |none=>False
theorem zmR{t u:Tmp}{v x:AV}{e:Ev}(h:look ((t,v)::e) u=some x):(t=u∧v=x)∨look e u=some x:=by
 simp only [look] at h;split at h
 ·rename_i e;exact .inl ⟨e.symm ▸ rfl,Option.some.inj h⟩
 ·exact .inr h
theorem ztt{G env0:Ev}{u:Tmp}{x:AV}:∀{ts:List Tmp},look (sel G env0 ts) u=some x→look env0 u=some x∨(u∈ts∧look G u=some x)
 | [],h=>.inl h
 |t ::ts,h=>by
  unfold sel at h;split at h
  ·rename_i v hv
   rcases zmR h with ⟨rfl,rfl⟩ |h1
   ·exact .inr ⟨by simp,hv⟩
   ·exact (ztt h1).imp id fun h2=>⟨by simp [h2.1],h2.2⟩
  ·exact (ztt h).imp id fun h2=>⟨by simp [h2.1],h2.2⟩
theorem ztr{u:Tmp}{x:AV}{e:Ev}:∀{G:Ev},look (G++e) u=some x→look e u=some x∨look G u=some x
 | [],h=>.inl h
 |(t,v)::G,h=>by
  rcases zmR h with ⟨rfl,rfl⟩ |h1
  ·exact .inr (by simp [look])
  ·rcases ztr h1 with h2 |h2
   ·exact .inl h2
   ·by_cases ht:t=u
    ·subst ht;refine .inr ?_;simp only [JR,look,if_true] at h;simpa [look] using h
    ·exact .inr (by simp only [look,if_neg ht];exact h2)
theorem ztd{all:List Oper}{t:Tmp}:∀{es:List Edge},t∈zff all es→∃e∈es,Region.binds .any e=true∧zhA all e.on=some t
 | [],h=>by simp [zff] at h
 |e ::es,h=>by
  unfold zff at h;split at h
  ·rename_i h1 h2
   rcases Qr.1 h with rfl |h3
   ·exact ⟨e,by simp,h1,h2⟩
   ·obtain ⟨e',h4,h5⟩:=ztd h3;exact ⟨e',by simp [h4],h5⟩
  ·obtain ⟨e',h4,h5⟩:=ztd h;exact ⟨e',by simp [h4],h5⟩
theorem zwP{t:Tmp}:∀{os:List Oper} {i:Nat},zhA os i=some t→t∈zwO os
 | [],i,h=>by simp [zhA] at h
 |o ::os,i,h=>by
  unfold zwO
  cases i with
  |zero =>
   have:o.dst=some t:=by simpa [zhA] using h
   rw [this];simp
  |succ i =>
   have:=zwP (os:=os) (i:=i) (by simpa [zhA] using h);split
   ·simp [this]
   ·exact this
def zs1(n:Nat)(all:List Oper):Bool:=
 (List.range all.length).all fun i =>
  match all[i]? with
  |none=>true
  |some o=>o.dst.all (·<n)&&o.after.toList.all (fun e=>!Region.binds .any e||decide (e.on<i)) &&
   (List.range i).all fun j=>match o.dst,zhA all j with |some t,some u=>t != u |_,_=>true
theorem zxM{n:Nat}{all:List Oper}(h:zs1 n all=true):(∀(i:Nat) o,all[i]?=some o→o.dst.all (·<n)=true∧∀e∈o.after.toList,Region.binds .any e=true→e.on<i) ∧
  ∀i j t,zhA all i=some t→zhA all j=some t→i=j:=by
 have key:∀(i:Nat) o,all[i]?=some o→o.dst.all (·<n)=true∧(∀e∈o.after.toList,Region.binds .any e=true→e.on<i)∧∀j,j<i→∀t,o.dst=some t→zhA all j≠some t:=fun i o ho=>by
  have hi:i<all.length:=(Qb.1 ho).1;have:=(Qs.1 h) i (JA.2 hi);rw [ho] at this;simp only [Qd] at this;obtain ⟨⟨h1,h2⟩,h3⟩:=this;refine ⟨h1,fun e he hb=>?_,fun j hj t ht hjt=>?_⟩
  ·have:=(Qs.1 h2) e he;rw [hb] at this;simpa using this
  ·have:=(Qs.1 h3) j (JA.2 hj);rw [ht,hjt] at this;simp at this
 refine ⟨fun i o ho=>⟨(key i o ho).1,(key i o ho).2.1⟩,fun i j t hi hj=>?_⟩
 have hex:∀i,zhA all i=some t→∃o,all[i]?=some o∧o.dst=some t:=fun i h=>by
  unfold zhA at h
  cases ho:all[i]? with
  |none=>rw [ho] at h;cases h
  |some o=>rw [ho] at h;exact ⟨o,rfl,h⟩
 obtain ⟨oi,h1,h2⟩:=hex i hi;obtain ⟨oj,h3,h4⟩:=hex j hj
 rcases Nat.lt_trichotomy i j with hlt |heq |hgt
 ·exact absurd hi ((key j oj h3).2.2 i hlt t h4)
 ·exact heq
 ·exact absurd hj ((key i oi h1).2.2 j hgt t h2)
theorem zwQ{A m nb w n env a}(hsz:a.tmps.size=n)(hdf:a.defers=[])(h:∀t v,look env t=some v→t<n∧V A m nb w v (a.tmps.getD t undef)):Env A m nb w n env a:=⟨hsz,h,hdf⟩
theorem zla{ds:List Tmp}{t:Tmp}:∀{e:Ev},(t∈ds→look (zo9 ds e) t=none)∧∀v,look (zo9 ds e) t=some v→look e t=some v
 | []=>⟨fun _=>rfl,fun v h=>h⟩
 |p ::e=>by
  obtain ⟨h1,h2⟩:=zla (ds:=ds) (t:=t) (e:=e);obtain ⟨s,x⟩:=p;unfold zo9;split
  ·rename_i hm;refine ⟨h1,fun v h=>?_⟩;simp only [look];split
   ·rename_i ets
    have:t∈ds:=by rw [←ets];exact ztw.1 hm
    rw [h1 this] at h;cases h
   ·exact h2 v h
  ·rename_i hm;refine ⟨fun ht=>?_,fun v h=>?_⟩
   ·simp only [look];split
    ·rename_i ets;rw [←ets] at ht;rw [ztw.2 ht] at hm;cases hm
    ·exact h1 ht
   ·simp only [look] at h ⊢;split
    ·rename_i ets;rw [if_pos ets] at h;exact h
    ·rename_i ets;rw [if_neg ets] at h;exact h2 v h
section
variable {P : Program} {rest : List COp} {d : Option Tmp} {op : Op} {deps : List Tmp} {env env0 : Ev} {st : St} {G : Ev} {K : Ev → Prop}
end
theorem bs{α β:Type}{m:Option α}{k:α→Option β}{r:β}(h:(m.bind k)=some r):∃x,m=some x∧k x=some r:=by
 cases m with
 |none=>cases h
 |some x=>exact ⟨x,rfl,h⟩
theorem sm{α:Type}{x y:α}(h:some x=some y):x=y:=Option.some.inj h
theorem bT{α:Type}{c:Bool}{x y r:α}(hc:c=true)(h:cond c x y=r):x=r:=by rw [hc] at h;exact h
theorem bF{α:Type}{c:Bool}{x y r:α}(hc:c=false)(h:cond c x y=r):y=r:=by rw [hc] at h;exact h
section
variable {X Y : Type}
def zkr(body:X→Option (Sum X Y)):Nat→X→Option Y
 | 0,_=>none
 |n+1,x =>
  match body x with
  |some (.inl x')=>zkr body n x'
  |some (.inr y)=>some y
  |none=>none
open Classical in
def zB5(body:X→Option (Sum X Y))(x:X):Option Y:=
 if h:∃n y,zkr body n x=some y then some h.choose_spec.choose else none
def zr(body:X→Option (Sum X Y))(x:X):Option Y:=
 match zkr body 3000 x with
 |some y=>some y
 |none=>zB5 body x
theorem zpV{body:X→Option (Sum X Y)}:∀{n k:Nat} {x:X} {y:Y},zkr body n x=some y→n≤k→zkr body k x=some y
 | 0,_,_,_,h,_=>by cases h
 |n+1,0,_,_,_,hk=>by omega
 |n+1,k+1,x,y,h,hk=>by
  unfold zkr at h ⊢;split at h
  ·rename_i x' hx;exact zpV h (by omega)
  ·rename_i z hx;exact h
  ·cases h
theorem ztu{body:X→Option (Sum X Y)}{n:Nat}{x:X}{y:Y}(h:zkr body n x=some y):zr body x=some y:=by
 have key:∀n k y z,zkr body n x=some y→zkr body k x=some z→y=z:=fun n k y z h1 h2 =>
  sm ((zpV h1 (Nat.le_max_left n k)).symm.trans (zpV h2 (Nat.le_max_right n k)))
 unfold zr
 cases h0:zkr body 3000 x with
 |some z=>exact congrArg some (key _ _ _ _ h0 h)
 |none =>
  have hex:∃n y,zkr body n x=some y:=⟨n,y,h⟩;show zB5 body x=some y;unfold zB5;rw [dif_pos hex];exact congrArg some (key _ _ _ _ hex.choose_spec.choose_spec h)
theorem zno{body:X→Option (Sum X Y)}{x:X}{y:Y}(h:zr body x=some y):∃n,zkr body n x=some y:=by
 unfold zr at h;split at h
 ·rename_i z h0;cases h;exact ⟨_,h0⟩
 ·unfold zB5 at h;split at h
  ·rename_i hex;cases h;exact ⟨_,hex.choose_spec.choose_spec⟩
  ·cases h
theorem zR(body:X→Option (Sum X Y))(x:X):zr body x=(body x).bind (Sum.elim (zr body) some):=by
 cases hb:body x with
 |none =>
  cases h:zr body x with
  |none=>rfl
  |some y =>
   obtain ⟨n,hn⟩:=zno h
   cases n with
   |zero=>cases hn
   |succ n=>unfold zkr at hn;rw [hb] at hn;cases hn
 |some r =>
  cases r with
  |inr y=>exact ztu (n:=1) (by unfold zkr;rw [hb])
  |inl x' =>
   show zr body x=zr body x'
   cases h:zr body x' with
   |some y =>
    obtain ⟨n,hn⟩:=zno h;exact ztu (n:=n+1) (by unfold zkr;rw [hb];exact hn)
   |none =>
    cases h2:zr body x with
    |none=>rfl
    |some y =>
     obtain ⟨n,hn⟩:=zno h2
     cases n with
     |zero=>cases hn
     |succ n =>
      unfold zkr at hn;rw [hb] at hn;rw [ztu hn] at h;cases h
end
def zQ{B R R':Type}(o:Sum B R)(k:B→Option R')(f:R→Option R'):Option R':=
 match o with
 |.inl b=>k b
 |.inr r=>f r
abbrev B(l:List UInt8):ByteArray:=⟨⟨l⟩⟩
def idx{α:Type}(l:List α)(i:Int):Option α:=if 0≤i then l[i.toNat]? else none
theorem zt{α:Type}{l:List α}{i:Int}{x:α}(h:idx l i=some x):0≤i∧i.toNat<l.length∧l[i.toNat]?=some x:=by
 unfold idx at h;split at h
 ·rename_i h0;exact ⟨h0,(Qb.1 h).1,h⟩
 ·cases h
def zkS{α:Type}(l:List α)(lo hi:Int):Option (List α):=if 0≤lo∧lo≤hi∧hi≤l.length then some ((l.drop lo.toNat).take (hi.toNat-lo.toNat)) else none
def zhj{α:Type}(w:Nat)(l x:List α):Option (List α):=if (l.length+x.length)*w≤140737488355328∧l.length+x.length≤9223372036854775807 then some (l++x) else none
theorem zug{α:Type}{w:Nat}{l x r:List α}(h:zhj w l x=some r):r=l++x∧(l.length+x.length)*w≤140737488355328∧l.length+x.length≤9223372036854775807:=by
 unfold zhj at h;split at h
 ·rename_i h1;cases h;exact ⟨rfl,h1⟩
 ·cases h
def zrP(l x:List UInt8):Option (List UInt8):=if l.length+x.length≤9223372036854775807 then some (l++x) else none
def zHd(k:IntKind)(a b:Int):Option Int:=if b=0 then none else some (k.wrap (a.tdiv b))
def zFX(a b:Int):Option Int:=if b=0 then none else some (a.tmod b)
def zHj(k:IntKind)(a b:Int):Option Int:=if b<0 then none else some (k.wrap (a*2 ^ (min b.toNat k.bits)))
def zHk(k:IntKind)(a b:Int):Option Int:=if b<0 then none else some (a.fdiv (2 ^ (min b.toNat k.bits)))
def SR(P:Program)(n nb0:Nat)(all l1 l2:List Oper)(K:Ev→St→Prop)(env:Ev)(st:St):Prop:=
 ∀(ops:Array Oper) (i:Nat),ops.toList=all→all.drop i=l1++l2→all.all (fun o=>o.dst.all (·<n))=true→∀A m w a,nb0≤st.length→R A m w st→Env A m st.length w n env a →
  ∀Q:Exit→Act→World→Prop,(∀a' w',zks A m nb0 w n K a' w'→wpOps P ops Q (List.range' (i+l1.length) l2.length) a' w')→wpOps P ops Q (List.range' i (l1.length+l2.length)) a w
section
variable {P : Program} {n nb0 : Nat} {all l1 l2 : List Oper} {K : Ev → St → Prop} {env : Ev} {st : St}
theorem zz(h:K env st):SR P n nb0 all [] l2 K env st:=fun ops i ho hd hn A m w a h0 hR hE Q hQ=>by
 have:=hQ a w ⟨A,m,env,st,hR,hE,ze0.refl0 _ _ _ _ h0,h⟩;simpa using this
theorem zGB{l1':List Oper}(h:SR P n nb0 all l1 (l1'++l2) (fun env st=>SR P n nb0 all l1' l2 K env st) env st):SR P n nb0 all (l1++l1') l2 K env st:=fun ops i ho hd hn A m w a h0 hR hE Q hQ=>by
 rw [QX] at hd
 have h1:=h ops i ho hd hn A m w a h0 hR hE Q fun a' w' ⟨A',m',e',s',k1,k2,k3,k4⟩=>by
  have h2:=k4 ops (i+l1.length) ho (by rw [←List.drop_drop,hd,List.drop_left]) hn A' m' w' a' k3.nbLe k1 k2 Q fun a2 w2 h3=>by
   have:=hQ a2 w2 (h3.trans k3)
   rwa [Qt,←QN] at this
  rwa [Qt]
 rw [Qt] at h1
 rwa [Qt,QN]
theorem zwa(k:Nat)(h:SR P n nb0 all (l1.take k) (l1.drop k++l2) (fun env st=>SR P n nb0 all (l1.drop k) l2 K env st) env st):SR P n nb0 all l1 l2 K env st:=by
 have:=zGB h
 rwa [Ys] at this
theorem zAv{K':Ev→St→Prop}(h:SR P n nb0 all l1 l2 K env st)(hk:∀env st,K env st→K' env st):SR P n nb0 all l1 l2 K' env st:=fun ops i ho hd hn A m w a h0 hR hE Q hQ =>
 h ops i ho hd hn A m w a h0 hR hE Q fun a' w' ⟨A',m',e',s',k1,k2,k3,k4⟩=>hQ a' w' ⟨A',m',e',s',k1,k2,k3,hk _ _ k4⟩
theorem zsI{env':Ev}(hs:∀t v,look env' t=some v→look env t=some v)(h:SR P n nb0 all l1 l2 K env' st):SR P n nb0 all l1 l2 K env st:=fun ops i ho hd hn A m w a h0 hR hE Q hQ =>
 h ops i ho hd hn A m w a h0 hR (hE.less hs) Q hQ
theorem zGC{o:Oper}{ops:Array Oper}{i:Nat}(ho:ops.toList=all)(hd:all.drop i=o ::l1++l2)(hn:all.all (fun o=>o.dst.all (·<n))=true):ops[i]?=some o∧all.drop (i+1)=l1++l2∧o.dst.all (·<n)=true:=by
 have hi:ops[i]?=some o:=by
  have:ops.toList[i]?=some o:=by
   have h1:(ops.toList.drop i)[0]?=some o:=by rw [ho,hd];rfl
   simpa using h1
  simpa using this
 refine ⟨hi,?_,?_⟩
 ·have:=congrArg List.tail hd;simpa [Yz] using this
 ·rw [Qs] at hn;refine hn o ?_;rw [←ho];exact Qc (by simpa using hi:ops.toList[i]?=some o)
theorem zu1{o:Oper}(hg:zg6 all env o=some true)(h:SOp P o env st fun env' st'=>SR P n nb0 all l1 l2 K env' st'):SR P n nb0 all (o ::l1) l2 K env st:=fun ops i ho hd hn A m w a h0 hR hE Q hQ=>by
 obtain ⟨hi,hd',hdo⟩:=zGC ho hd hn
 have e:(o ::l1).length+l2.length=(l1.length+l2.length)+1:=by simp;omega
 rw [e,JS];simp only [wpOps,hi];rw [zg9 hE (ho.symm ▸ hg)];simp only [if_true];refine .inl (zFO hR hE hdo h fun a' w' ⟨A',m',env',st',h1,h2,h3,h4⟩=>?_);refine h4 ops (i+1) ho hd' hn A' m' w' a' (QI h0 h3.nbLe) h1 h2 Q fun a2 w2 k=>?_;have:=hQ a2 w2 (k.trans (h3.weak h0))
 rwa [Qx,J1 l1.length 1,←QN] at this
variable {d : Option Tmp} {op : Op} {ty : TypeId} {pos : String} {aft : Array Edge}
theorem u(h:SOp P ⟨d,op,ty,pos,aft,none⟩ env st fun env' st'=>SR P n nb0 all l1 l2 K env' st'):SR P n nb0 all (⟨d,op,ty,pos,aft,none⟩::l1) l2 K env st:=
 zu1 rfl h
theorem zd{j:Nat}{want b:Bool}(hv:zzJ all j env=some (.lit (.bool b))):zg6 all env ⟨d,op,ty,pos,aft,some (j,want)⟩=some (b == want):=by
 unfold zzJ at hv;unfold zg6;simp only
 cases hd:(all[j]?).bind (·.dst) with
 |none=>rw [hd] at hv;cases hv
 |some t =>
  rw [hd] at hv;simp only [Qa] at hv;simp only [hv]
theorem zt9{j:Nat}{want:Bool}(hv:zzJ all j env=some (.lit undef)):zg6 all env ⟨d,op,ty,pos,aft,some (j,want)⟩=some false:=by
 unfold zzJ at hv;unfold zg6;simp only
 cases hd:(all[j]?).bind (·.dst) with
 |none=>rw [hd] at hv;cases hv
 |some t =>
  rw [hd] at hv;simp only [Qa] at hv;simp only [hv,undef]
theorem g{j:Nat}{want b:Bool}(hv:zzJ all j env=some (.lit (.bool b)))(hb:b=want)(h:SOp P ⟨d,op,ty,pos,aft,some (j,want)⟩ env st fun env' st'=>SR P n nb0 all l1 l2 K env' st'):
  SR P n nb0 all (⟨d,op,ty,pos,aft,some (j,want)⟩::l1) l2 K env st:=
 zu1 ((zd hv).trans (by rw [hb];simp)) h
theorem zh{o:Oper}(hg:zg6 all env o=some false)(h:SR P n nb0 all l1 l2 K (aput o.dst (.lit undef) env) st):SR P n nb0 all (o ::l1) l2 K env st:=fun ops i ho hd hn A m w a h0 hR hE Q hQ=>by
 obtain ⟨hi,hd',hdo⟩:=zGC ho hd hn
 have e:(o ::l1).length+l2.length=(l1.length+l2.length)+1:=by simp;omega
 rw [e,JS];simp only [wpOps,hi];rw [zg9 hE (ho.symm ▸ hg)];simp only [Js,if_false];refine h ops (i+1) ho hd' hn A m w _ h0 hR (hE.aput hdo (.imm (.lit _))) Q fun a2 w2 k=>?_;have:=hQ a2 w2 k
 rwa [Qx,J1 l1.length 1,←QN] at this
def zfz(t:Nat):List Nat→Bool
 | []=>false
 |x ::l=>Nat.beq x t||zfz t l
def zdY(ds:List Nat):Ev→Bool
 | []=>true
 |(t,_)::e=>(!zfz t ds)&&zdY ds e
def zom:List Oper→List Nat
 | []=>[]
 |o ::r=>match o.dst with |some t=>t ::zom r |none=>zom r
def zoc(env:Ev):List Oper→Ev
 | []=>env
 |o ::r=>zoc (aput o.dst (.lit undef) env) r
theorem zij{t:Nat}:∀{l:List Nat},zfz t l=true↔t∈l
 | []=>by simp [zfz]
 |x ::l=>by
  unfold zfz;rw [Qw,Nat.beq_eq,zij (l:=l),Qr];exact ⟨fun h=>h.imp Eq.symm id,fun h=>h.imp Eq.symm id⟩
theorem zeF{ds:List Nat}{t:Nat}{v:AV}:∀{e:Ev},zdY ds e=true→look e t=some v→t ∉ ds
 | [],_,h=>by cases h
 |(k,x)::e,hk,h=>by
  simp only [zdY,Qd,Qk] at hk;simp only [look] at h;split at h
  ·rename_i e';subst e';intro hm;rw [zij.2 hm] at hk;cases hk.1
  ·exact zeF hk.2 h
theorem zkl{t:Nat}:∀{l:List Oper} {env:Ev},t ∉ zom l→look (zoc env l) t=look env t
 | [],_,_=>rfl
 |o ::r,env,h=>by
  unfold zoc;unfold zom at h
  cases hd:o.dst with
  |none=>rw [hd] at h;exact zkl h
  |some d =>
   rw [hd] at h;simp only [Qr,not_or] at h;have h2:=zkl (l:=r) (env:=aput (some d) (.lit undef) env) h.2;rw [h2];have:d≠t:=fun e=>h.1 e.symm;simp [aput,look,this]
def zBh(all:List Oper)(j:Nat)(want:Bool)(zal:List Nat):List Oper→Bool
 | []=>true
 |o ::r=>(match o.guard with
  |some (j',w')=>(Nat.beq j' j&&(w' == want))||(match (all[j']?).bind (·.dst) with |some t=>zfz t zal |none=>false)
  |none=>false)&&zBh all j want (match o.dst with |some t=>t ::zal |none=>zal) r
theorem ztG{j:Nat}{want b:Bool}{t:Nat}(ht:(all[j]?).bind (·.dst)=some t):∀(l:List Oper) {l1:List Oper} {env:Ev} {zal:List Nat},zBh all j want zal l=true→(∀x∈zal,look env x=some (.lit undef))→t ∉ zom l→t ∉ zal→look env t=some (.lit (.bool b))→b=!want →
  SR P n nb0 all l1 l2 K (zoc env l) st→SR P n nb0 all (l++l1) l2 K env st
 | [],_,_,_,_,_,_,_,_,_,h=>h
 |o ::l,l1,env,zal,ha,hs,hn,hts,hl,hb,h=>by
  unfold zBh at ha;obtain ⟨d,op,ty,pos,aft,gu⟩:=o
  cases gu with
  |none=>simp at ha
  |some jw =>
   obtain ⟨j',w'⟩:=jw;simp only [Qd,Qw] at ha;obtain ⟨h1,h2⟩:=ha
   have hsk:zg6 all env ⟨d,op,ty,pos,aft,some (j',w')⟩=some false:=by
    rcases h1 with h1 |h1
    ·obtain ⟨e1,e2⟩:=h1;have e1:=Qj e1;have e2:=beq_iff_eq.1 e2;subst e1 e2
     have hgv:zzJ all j' env=some (.lit (.bool b)):=by unfold zzJ;rw [ht];exact hl
     exact (zd hgv).trans (by rw [hb];simp)
    ·split at h1
     ·rename_i t' ht'
      have hgv:zzJ all j' env=some (.lit undef):=by unfold zzJ;rw [ht'];exact hs t' (zij.1 h1)
      exact zt9 hgv
     ·cases h1
   refine zh hsk ?_;have hn':t ∉ zom l:=fun hm=>hn (by unfold zom;cases d <;> simp [hm]);have hd:∀d',d=some d'→d'≠t:=fun d' e e'=>hn (by subst e;simp [zom,e']);refine ztG ht l h2 (fun x hx=>?_) hn' (fun hm=>?_) ?_ hb h
   ·cases d with
    |none=>exact hs x hx
    |some d =>
     rcases Qr.1 hx with rfl |hx
     ·simp [aput,look]
     ·by_cases e:d=x
      ·simp [aput,look,e]
      ·simpa [aput,look,e] using hs x hx
   ·cases d with
    |none=>exact hts hm
    |some d =>
     rcases Qr.1 hm with h5 |h5
     ·exact hd d rfl h5.symm
     ·exact hts h5
   ·cases d with
    |none=>exact hl
    |some d=>simpa [aput,look,hd d rfl] using hl
def zyI(env:Ev)(st:St)(y:Operand)(x:Bool)(env':Ev)(st':St):Prop:=
 st'=st∧(∀t v,look env t=some v→look env' t=some v)∧ev env' y=some (.lit (.bool x))
theorem zmD{ds:List Nat}{env:Ev}(hk:zdY ds env=true):∀(k:Nat) {env':Ev},env'.drop k=env→(∀p∈env'.take k,zfz p.1 ds=true)→∀t v,look env t=some v→look env' t=some v
 | 0,env',h,_,t,v,hl=>by simp at h;rw [h];exact hl
 |k+1,[],h,_,t,v,hl=>by simp at h;rw [h] at hl;cases hl
 |k+1,(a,x)::e,h,hm,t,v,hl=>by
  have h1:=zmD hk k (env':=e) (by simpa using h) (fun p hp=>hm p (by simp [hp])) t v hl;have h2:a∈ds:=zij.1 (hm (a,x) (by simp));have h3:a≠t:=fun e=>zeF hk hl (e ▸ h2);simpa [look,h3] using h1
def zoX(ds:List Nat):Nat→Ev→Bool
 | 0,_=>true
 |_+1,[]=>true
 |k+1,(a,_)::e=>zfz a ds&&zoX ds k e
theorem zjg{ds:List Nat}:∀{k:Nat} {e:Ev},zoX ds k e=true→∀p∈e.take k,zfz p.1 ds=true
 | 0,_,_,p,hp=>by simp at hp
 |k+1,[],_,p,hp=>by simp at hp
 |k+1,(a,x)::e,h,p,hp=>by
  simp only [zoX,Qd] at h;simp only [List.take_succ_cons,Qr] at hp
  rcases hp with rfl |hp
  ·exact h.1
  ·exact zjg h.2 p hp
theorem eg{env env':Ev}{st:St}{y:Operand}{x:Bool}(ds:List Nat)(k:Nat)(h1:env'.drop k=env)(h2:zdY ds env=true)(h3:zoX ds k env'=true)(h4:ev env' y=some (.lit (.bool x))):zyI env st y x env' st:=
 ⟨rfl,zmD h2 k h1 (zjg h3),h4⟩
theorem zgn(k:Nat){dp c:Nat}{y:Operand}{ty':TypeId}{pos':String}{aft':Array Edge}{gp:Option (Nat×Bool)}{j:Nat}{b x:Bool}{l:List Oper}(hl:l1.drop k=⟨some dp,.pick (.tmp c) y (.const (.bool false)),ty',pos',aft',gp⟩::l)
  (hj:(all[j]?).bind (·.dst)=some c) (hc:look env c=some (.lit (.bool b))) (hg:zBh all j true [] (l1.take k)=true) (hk:zdY (zom (l1.take k)) env=true)
  (hgp:∀env':Ev,(∀t v,look env t=some v→look env' t=some v)→zg6 all env' ⟨some dp,.pick (.tmp c) y (.const (.bool false)),ty',pos',aft',gp⟩=some true)
  (hT:b=true→SR P n nb0 all (l1.take k) (l1.drop k++l2) (zyI env st y x) env st) (hF:b=false→x=false) (h:SR P n nb0 all l l2 K ((dp,.lit (.bool x))::env) st):SR P n nb0 all l1 l2 K env st:=by
 refine zwa k ?_;rw [hl]
 cases b with
 |true =>
  refine zAv (by rw [←hl];exact hT rfl) ?_;rintro env' st' ⟨rfl,h2,h3⟩;refine zu1 (hgp env' h2) ?_;unfold SOp;simp only [zhF,aop];have:ev env' (.tmp c)=some (.lit (.bool true)):=h2 c _ hc;rw [this,h3];simp only [QG,aput];refine zsI (fun t v ht=>?_) h;simp only [look] at ht ⊢;split
  ·rename_i e;rw [if_pos e] at ht;exact ht
  ·rename_i e;rw [if_neg e] at ht;exact h2 t v ht
 |false =>
  have hout:∀t v,look env t=some v→look (zoc env (l1.take k)) t=some v:=fun t v ht=>by
   rw [zkl (zeF hk ht)];exact ht
  have:=ztG (P:=P) (n:=n) (nb0:=nb0) (l2:=l1.drop k++l2) (K:=fun env st=>SR P n nb0 all (l1.drop k) l2 K env st) (st:=st) (l1:=[]) hj (l1.take k) hg (fun _ h=>by cases h) (zeF hk hc) (fun h=>by cases h) hc rfl ?_
  ·rw [Qz] at this;rwa [hl] at this
  refine zz ?_;rw [hl];refine zu1 (hgp _ hout) ?_;unfold SOp;simp only [zhF,aop];have:ev (zoc env (l1.take k)) (.tmp c)=some (.lit (.bool false)):=hout c _ hc;rw [this];simp only [ev,QG,aput];rw [hF rfl] at h;refine zsI (fun t v ht=>?_) h;simp only [look] at ht ⊢;split
  ·rename_i e;rw [if_pos e] at ht;exact ht
  ·rename_i e;rw [if_neg e] at ht;exact hout t v ht
theorem ztF(k:Nat){dp c:Nat}{y:Operand}{ty':TypeId}{pos':String}{aft':Array Edge}{gp:Option (Nat×Bool)}{j:Nat}{b x:Bool}{l:List Oper}(hl:l1.drop k=⟨some dp,.pick (.tmp c) (.const (.bool true)) y,ty',pos',aft',gp⟩::l)
  (hj:(all[j]?).bind (·.dst)=some c) (hc:look env c=some (.lit (.bool b))) (hg:zBh all j false [] (l1.take k)=true) (hk:zdY (zom (l1.take k)) env=true)
  (hgp:∀env':Ev,(∀t v,look env t=some v→look env' t=some v)→zg6 all env' ⟨some dp,.pick (.tmp c) (.const (.bool true)) y,ty',pos',aft',gp⟩=some true)
  (hF:b=false→SR P n nb0 all (l1.take k) (l1.drop k++l2) (zyI env st y x) env st) (hT:b=true→x=true) (h:SR P n nb0 all l l2 K ((dp,.lit (.bool x))::env) st):SR P n nb0 all l1 l2 K env st:=by
 refine zwa k ?_;rw [hl]
 cases b with
 |false =>
  refine zAv (by rw [←hl];exact hF rfl) ?_;rintro env' st' ⟨rfl,h2,h3⟩;refine zu1 (hgp env' h2) ?_;unfold SOp;simp only [zhF,aop];have:ev env' (.tmp c)=some (.lit (.bool false)):=h2 c _ hc;rw [this,h3];simp only [QG,aput];refine zsI (fun t v ht=>?_) h;simp only [look] at ht ⊢;split
  ·rename_i e;rw [if_pos e] at ht;exact ht
  ·rename_i e;rw [if_neg e] at ht;exact h2 t v ht
 |true =>
  have hout:∀t v,look env t=some v→look (zoc env (l1.take k)) t=some v:=fun t v ht=>by
   rw [zkl (zeF hk ht)];exact ht
  have:=ztG (P:=P) (n:=n) (nb0:=nb0) (l2:=l1.drop k++l2) (K:=fun env st=>SR P n nb0 all (l1.drop k) l2 K env st) (st:=st) (l1:=[]) hj (l1.take k) hg (fun _ h=>by cases h) (zeF hk hc) (fun h=>by cases h) hc rfl ?_
  ·rw [Qz] at this;rwa [hl] at this
  refine zz ?_;rw [hl];refine zu1 (hgp _ hout) ?_;unfold SOp;simp only [zhF,aop];have:ev (zoc env (l1.take k)) (.tmp c)=some (.lit (.bool true)):=hout c _ hc;rw [this];simp only [ev,QG,aput];rw [hT rfl] at h;refine zsI (fun t v ht=>?_) h;simp only [look] at ht ⊢;split
  ·rename_i e;rw [if_pos e] at ht;exact ht
  ·rename_i e;rw [if_neg e] at ht;exact hout t v ht
theorem gpn{env:Ev}{o:Option Tmp}{op:Op}{ty:TypeId}{pos:String}{aft:Array Edge}:∀env':Ev,(∀t v,look env t=some v→look env' t=some v)→zg6 all env' ⟨o,op,ty,pos,aft,none⟩=some true:=fun _ _=>rfl
theorem gps{env:Ev}{o:Option Tmp}{op:Op}{ty:TypeId}{pos:String}{aft:Array Edge}{j t:Nat}{want b:Bool}(hj:(all[j]?).bind (·.dst)=some t)(hv:look env t=some (.lit (.bool b)))(hb:b=want):
  ∀env':Ev,(∀t v,look env t=some v→look env' t=some v)→zg6 all env' ⟨o,op,ty,pos,aft,some (j,want)⟩=some true:=fun env' h=>by
 have hgv:zzJ all j env'=some (.lit (.bool b)):=by unfold zzJ;rw [hj];exact h t _ hv
 exact (zd hgv).trans (by rw [hb];simp)
theorem egA{env env':Ev}{st:St}{y:Operand}{b v:Bool}(ds:List Nat)(k:Nat)(hb:b=true)(h1:env'.drop k=env)(h2:zdY ds env=true)(h3:zoX ds k env'=true)(h4:ev env' y=some (.lit (.bool v))):zyI env st y (b&&v) env' st:=
 ⟨rfl,zmD h2 k h1 (zjg h3),by rw [hb];exact h4⟩
theorem egO{env env':Ev}{st:St}{y:Operand}{b v:Bool}(ds:List Nat)(k:Nat)(hb:b=false)(h1:env'.drop k=env)(h2:zdY ds env=true)(h3:zoX ds k env'=true)(h4:ev env' y=some (.lit (.bool v))):zyI env st y (b||v) env' st:=
 ⟨rfl,zmD h2 k h1 (zjg h3),by rw [hb];exact h4⟩
theorem zue{b v:Bool}(hb:b=false):(b&&v)=false:=by rw [hb];rfl
theorem orT{b v:Bool}(hb:b=true):(b||v)=true:=by rw [hb];rfl
theorem zFU(k:Nat)(h:SR P n nb0 all l1 l2 K env (st.take k++List.replicate (st.length-k) none))(hk:Nat.ble k st.length=true):SR P n nb0 all l1 l2 K env st:=fun ops i ho hd hn A m w a h0 hR hE Q hQ=>by
 have hk':=QA hk
 have hlen:(st.take k++List.replicate (st.length-k) none).length=st.length:=by simp;omega
 let m':BM:=fun l=>if l<k then m l else none
 have hm':∀l,l<st.length→m' l=m l∨m' l=none:=fun l _=>by
  show (if l<k then m l else none)=m l∨(if l<k then m l else none)=none;split
  ·exact .inl rfl
  ·exact .inr rfl
 have hget:∀l b,m' l=some b→l<k∧m l=some b:=fun l b h=>by
  change (if l<k then m l else none)=some b at h;split at h
  ·exact ⟨by assumption,h⟩
  ·cases h
 have hst:∀l,l<k→(st.take k++List.replicate (st.length-k) none)[l]?=st[l]?:=fun l hl=>by
  rw [Qm (by simp;omega),Jp,if_pos hl]
 have hst2:∀l,k≤l→∀x,(st.take k++List.replicate (st.length-k) none)[l]?=some x→x=none:=fun l hl x h=>by
  rw [Qn (by simp;omega)] at h;exact Yd (Qc h)
 have hS:ze0 A m st.length w A m' st.length w:=⟨Qg _,Qg _,fun _ h=>h,fun _ h=>.inl h,hm',fun l b h hh=>.inr ⟨l,b,(hget l b h).2,hh,rfl⟩,fun _ _ _=>rfl,rfl,rfl,rfl⟩
 have hR':R A m' w (st.take k++List.replicate (st.length-k) none):=by
  refine ⟨hR.aLow,fun B l b hA h hh=>hR.aOwn B l b hA (hget l b h).2 hh,fun l l' b b' h h'=>hR.inj l l' b b' (hget l b h).2 (hget l' b' h').2,fun l b h=>?_,fun l kk els he=>?_⟩
  ·obtain ⟨h1,h2⟩:=hget l b h;rw [hst l h1];exact hR.live l b h2
  ·by_cases hl:l<k
   ·rw [hst l hl] at he;obtain ⟨b,h1,h2,h3,h4⟩:=hR.blk l kk els he;refine ⟨b,by show (if l<k then m l else none)=some b;rw [if_pos hl];exact h1,h2,fun hh=>?_,h4⟩;rw [hlen];exact (h3 hh).keep (Qg _) rfl fun av v hv=>hv.step hR hS
   ·cases hst2 l (by omega) _ he
 have hE':Env A m' (st.take k++List.replicate (st.length-k) none).length w n env a:=by rw [hlen];exact hE.step hR hS
 exact h ops i ho hd hn A m' w a (by rw [hlen];exact h0) hR' hE' Q fun a' w' k'=>hQ a' w' (k'.trans (hS.weak h0))
theorem zGF(j:Nat)(h:SR P n nb0 all l1 l2 K env (st++List.replicate j none)):SR P n nb0 all l1 l2 K env st:=fun ops i ho hd hn A m w a h0 hR hE Q hQ=>by
 have hlen:(st++List.replicate j none).length=st.length+j:=by simp
 have hm0:∀l b,m l=some b→l<st.length:=fun l b h=>hR.lt h;have hS:ze0 A m st.length w A m (st.length+j) w:=⟨by omega,Qg _,fun _ h=>h,fun _ h=>.inl h,fun _ _=>.inl rfl,fun l b h hh=>.inr ⟨l,b,h,hh,rfl⟩,fun _ _ _=>rfl,rfl,rfl,rfl⟩
 have hR':R A m w (st++List.replicate j none):=by
  refine ⟨hR.aLow,hR.aOwn,hR.inj,fun l b h=>?_,fun l kk els he=>?_⟩
  ·rw [Qm (hm0 l b h)];exact hR.live l b h
  ·by_cases hl:l<st.length
   ·rw [Qm hl] at he;obtain ⟨b,h1,h2,h3,h4⟩:=hR.blk l kk els he;refine ⟨b,h1,h2,fun hh=>?_,h4⟩;rw [hlen];exact (h3 hh).keep (Qg _) rfl fun av v hv=>hv.step hR hS
   ·rw [Qn (by omega)] at he;cases Yd (Qc he)
 have hE':Env A m (st++List.replicate j none).length w n env a:=by rw [hlen];exact hE.step hR hS
 exact h ops i ho hd hn A m w a (by rw [hlen];omega) hR' hE' Q fun a' w' k'=>hQ a' w' (k'.trans (hS.weak h0))
def zGO(jj:Nat)(env:Ev)(st:St)(y:Operand)(x:Bool)(env':Ev)(st':St):Prop:=
 st'.take st.length=st∧st'.length=st.length+jj∧(∀t v,look env t=some v→look env' t=some v)∧ev env' y=some (.lit (.bool x))
theorem xg{jj:Nat}{env env':Ev}{st st':St}{y:Operand}{x:Bool}(ds:List Nat)(k:Nat)(h5:st'.take st.length=st)(h6:st'.length=st.length+jj)(h1:env'.drop k=env)(h2:zdY ds env=true)(h3:zoX ds k env'=true)(h4:ev env' y=some (.lit (.bool x))):zGO jj env st y x env' st':=
 ⟨h5,h6,zmD h2 k h1 (zjg h3),h4⟩
theorem zGE(k jj:Nat){dp c:Nat}{y:Operand}{ty':TypeId}{pos':String}{aft':Array Edge}{gp:Option (Nat×Bool)}{j:Nat}{b x:Bool}{l:List Oper}(hl:l1.drop k=⟨some dp,.pick (.tmp c) (.const (.bool true)) y,ty',pos',aft',gp⟩::l)
  (hj:(all[j]?).bind (·.dst)=some c) (hc:look env c=some (.lit (.bool b))) (hg:zBh all j false [] (l1.take k)=true) (hk:zdY (zom (l1.take k)) env=true)
  (hgp:∀env':Ev,(∀t v,look env t=some v→look env' t=some v)→zg6 all env' ⟨some dp,.pick (.tmp c) (.const (.bool true)) y,ty',pos',aft',gp⟩=some true)
  (hF:b=false→SR P n nb0 all (l1.take k) (l1.drop k++l2) (zGO jj env st y x) env st) (hT:b=true→x=true) (h:SR P n nb0 all l l2 K ((dp,.lit (.bool x))::env) (st++List.replicate jj none)):SR P n nb0 all l1 l2 K env st:=by
 refine zwa k ?_;rw [hl]
 cases b with
 |false =>
  refine zAv (by rw [←hl];exact hF rfl) ?_;rintro env' st' ⟨h5,h6,h2,h3⟩;refine zFU st.length ?_ (by rw [Nat.ble_eq];omega);rw [h5,show st'.length-st.length=jj by omega];refine zu1 (hgp env' h2) ?_;unfold SOp;simp only [zhF,aop];have:ev env' (.tmp c)=some (.lit (.bool false)):=h2 c _ hc;rw [this,h3];simp only [QG,aput];refine zsI (fun t v ht=>?_) h;simp only [look] at ht ⊢;split
  ·rename_i e;rw [if_pos e] at ht;exact ht
  ·rename_i e;rw [if_neg e] at ht;exact h2 t v ht
 |true =>
  have hout:∀t v,look env t=some v→look (zoc env (l1.take k)) t=some v:=fun t v ht=>by
   rw [zkl (zeF hk ht)];exact ht
  have:=ztG (P:=P) (n:=n) (nb0:=nb0) (l2:=l1.drop k++l2) (K:=fun env st=>SR P n nb0 all (l1.drop k) l2 K env st) (st:=st) (l1:=[]) hj (l1.take k) hg (fun _ h=>by cases h) (zeF hk hc) (fun h=>by cases h) hc rfl ?_
  ·rw [Qz] at this;rwa [hl] at this
  refine zz ?_;refine zGF jj ?_;rw [hl];refine zu1 (hgp _ hout) ?_;unfold SOp;simp only [zhF,aop];have:ev (zoc env (l1.take k)) (.tmp c)=some (.lit (.bool true)):=hout c _ hc;rw [this];simp only [ev,QG,aput];rw [hT rfl] at h;refine zsI (fun t v ht=>?_) h;simp only [look] at ht ⊢;split
  ·rename_i e;rw [if_pos e] at ht;exact ht
  ·rename_i e;rw [if_neg e] at ht;exact hout t v ht
theorem rg{id:Nat}{ops:Array Oper}{y:Code}{Q:Exit→Ev→St→Prop}(hd:ops.toList.all (fun o=>o.dst.all (·<n))=true)(h:SR P n nb0 ops.toList ops.toList [] (fun env st=>SW P n nb0 y Q env st) env st):
  SW P n nb0 (.seq (.region id ops false) y) Q env st:=by
 refine zi ?_;intro A m w a h0 hR hE;refine wp_region ?_
 have:=h ops 0 rfl (by simp) hd A m w a h0 hR hE (fun e a' w'=>zks A m nb0 w n (zyF (SW P n nb0 y Q) Q e) a' w') fun a' w' ho=>by
  simp only [Q5,List.range'_zero,wpOps];exact ho
 rw [JV,show ops.size=ops.toList.length by simp];simpa using this
theorem rl{id:Nat}{ops:Array Oper}{Q:Exit→Ev→St→Prop}(hd:ops.toList.all (fun o=>o.dst.all (·<n))=true)(h:SR P n nb0 ops.toList ops.toList [] (Q .normal) env st):
  SW P n nb0 (.region id ops false) Q env st:=by
 intro A m w a h0 hR hE;refine wp_region ?_
 have:=h ops 0 rfl (by simp) hd A m w a h0 hR hE (fun e a' w'=>zks A m nb0 w n (Q e) a' w') fun a' w' ho=>by
  simpa [wpOps] using ho
 rw [JV,show ops.size=ops.toList.length by simp];simpa using this
end
mutual
def zzN:AV→Bool
 |.any=>true
 |.lit _=>true
 |.isl _ _=>true
 |.ipt _ _ _ _=>true
 |.imp _=>true
 |.mmp _=>false
 |.msl _ _ _=>false
 |.mpt _ _ _=>false
 |.agg cs=>ziv cs
 |.tup cs=>ziv cs
 |.fn _ a b=>ziv a&&ziv b
def ziv:List AV→Bool
 | []=>true
 |x ::l=>zzN x&&ziv l
end
theorem zBq.mem{l:List AV}(h:zBq l):∀x∈l,Imm x:=by
 induction h with
 |nil=>exact fun x hx=>by cases hx
 |cons h _ ih =>
  intro x hx
  rcases Qr.1 hx with h1 |h1
  ·exact h1 ▸ h
  ·exact ih x h1
mutual
theorem znl:∀{x:AV},zzN x=true→Imm x
 |.any,_=>.any
 |.lit v,_=>.lit v
 |.isl k e,_=>.isl k e
 |.ipt k e i j,_=>.ipt k e i j
 |.imp e,_=>.imp e
 |.mmp _,h=>by cases h
 |.msl _ _ _,h=>by cases h
 |.mpt _ _ _,h=>by cases h
 |.agg cs,h=>.agg cs (zgS h).mem
 |.tup cs,h=>.tup cs (zgS h).mem
 |.fn f a b,h=>.fn f a b (zgS (QT.1 h).1).mem (zgS (QT.1 h).2).mem
theorem zgS:∀{l:List AV},ziv l=true→zBq l
 | [],_=>.nil
 |x ::l,h=>.cons (znl (QT.1 h).1) (zgS (QT.1 h).2)
end
inductive Src where
 |old (l:Nat)
 |dead
 |fresh (k:Nat)
abbrev zgC:=List Src
def zgH(L:zgC)(l:Nat):Option Nat:=match L[l]? with |some (.old x)=>some x |_=>none
def zvM(L:zgC)(x:Nat):Bool:=match L with | []=>false |.old y ::r=>Nat.beq y x||zvM r x |_ ::r=>zvM r x
theorem ztk:∀{L:zgC} {l x:Nat},zgH L l=some x→zvM L x=true
 | [],l,x,h=>by simp [zgH] at h
 |s ::L,0,x,h=>by
  cases s with
  |old y=>simp [zgH] at h;subst h;simp [zvM]
  |dead=>simp [zgH] at h
  |fresh k=>simp [zgH] at h
 |s ::L,l+1,x,h=>by
  have:=ztk (L:=L) (l:=l) (x:=x) (by simpa [zgH] using h);cases s <;> simp [zvM,this]
inductive Rs(st:St)(L:zgC):AV→AV→Prop
 |any (x):Rs st L .any x
 |imm {x} (h:Imm x):Rs st L x x
 |nil {k:Nat}:Rs st L (.isl k []) (.lit (.slice none 0 0))
 |nilown {l k:Nat} (h:L[l]?=some (.fresh k)):Rs st L (.msl l 0 0) (.lit (.slice none 0 0))
 |msl {l l' i n:Nat} (h:zgH L l=some l'):Rs st L (.msl l i n) (.msl l' i n)
 |mpt {l l' i j:Nat} (h:zgH L l=some l'):Rs st L (.mpt l i j) (.mpt l' i j)
 |mmp {l l':Nat} (h:zgH L l=some l'):Rs st L (.mmp l) (.mmp l')
 |sl {l i n k:Nat} {els els':List (List AV)} (hD:zvM L l=false) (h:st[l]?=some (some (k,els))) (hin:i+n≤els.length) (hl:els'.length=n) (hi:∀r∈els',∀x∈r,Imm x)
   (hrl:∀q (h:q<n) (h1:i+q<els.length) (h2:q<els'.length),els[i+q].length=els'[q].length)
   (hr:∀q (h:q<n) (h1:i+q<els.length) (h2:q<els'.length) j (h3:j<els[i+q].length) (h4:j<els'[q].length),Rs st L els'[q][j] els[i+q][j]):
   Rs st L (.isl k els') (.msl l i n)
 |slp {l i j k:Nat} {els els':List (List AV)} (hD:zvM L l=false) (h:st[l]?=some (some (k,els))) (hl:els'.length=els.length) (hi:∀r∈els',∀x∈r,Imm x)
   (hrl:∀q (h1:q<els.length) (h2:q<els'.length),els[q].length=els'[q].length)
   (hr:∀q (h1:q<els.length) (h2:q<els'.length) j (h3:j<els[q].length) (h4:j<els'[q].length),Rs st L els'[q][j] els[q][j]):
   Rs st L (.ipt k els' i j) (.mpt l i j)
 |sm {l:Nat} {els els':List (List AV)} (hD:zvM L l=false) (h:st[l]?=some (some (2,els))) (hl:els'.length=els.length) (hi:∀r∈els',∀x∈r,Imm x)
   (hrl:∀q (h1:q<els.length) (h2:q<els'.length),els[q].length=els'[q].length)
   (hr:∀q (h1:q<els.length) (h2:q<els'.length) j (h3:j<els[q].length) (h4:j<els'[q].length),Rs st L els'[q][j] els[q][j]):
   Rs st L (.imp els') (.mmp l)
 |agg {cs cs':List AV} (hl:cs.length=cs'.length) (hr:∀i (h:i<cs.length) (h':i<cs'.length),Rs st L cs[i] cs'[i]):Rs st L (.agg cs) (.agg cs')
 |tup {cs cs':List AV} (hl:cs.length=cs'.length) (hr:∀i (h:i<cs.length) (h':i<cs'.length),Rs st L cs[i] cs'[i]):Rs st L (.tup cs) (.tup cs')
 |fn {f:Fn} {cs cs' ds ds':List AV} (hl:cs.length=cs'.length) (hr:∀i (h:i<cs.length) (h':i<cs'.length),Rs st L cs[i] cs'[i])
   (hl':ds.length=ds'.length) (hr':∀i (h:i<ds.length) (h':i<ds'.length),Rs st L ds[i] ds'[i]):Rs st L (.fn f cs ds) (.fn f cs' ds')
def zsk(st:St)(L:zgC)(els0 els:List (List AV)):Prop:=
 els0.length=els.length∧∀i (h:i<els0.length) (h':i<els.length),els0[i].length=els[i].length∧∀j (h1:j<els0[i].length) (h2:j<els[i].length),Rs st L els0[i][j] els[i][j]
structure zyO(L:zgC)(st0 st:St):Prop where
 live:∀(l l':Nat),zgH L l=some l'→∃k els0 els,st0[l]?=some (some (k,els0))∧st[l']?=some (some (k,els))∧zsk st L els0 els
 all:∀(l k:Nat) els0,st0[l]?=some (some (k,els0))→(∃l',zgH L l=some l')∨(L[l]?=some (Src.fresh k)∧els0=[])
 new:∀(l k:Nat),L[l]?=some (Src.fresh k)→st0[l]?=some (some (k,[]))
 inj:∀l1 l2 x,zgH L l1=some x→zgH L l2=some x→l1=l2
def zCc(A:Nat→Prop)(m:BM)(L:zgC):Nat→Prop:=fun B=>A B∨∃l b,m l=some b∧b.has=true∧b.B=B∧zvM L l=false
def zw9(m:BM)(L:zgC):BM:=fun l=>match L[l]? with |some (.old x)=>m x |some (.fresh k)=>some ⟨false,0,0,k,0,false⟩ |_=>none
theorem zqK{m:BM}{L:zgC}{l x:Nat}(h:zgH L l=some x):zw9 m L l=m x:=by
 unfold zgH at h;unfold zw9;split at h
 ·rename_i y hy;cases h;rw [hy]
 ·cases h
theorem zyg{m:BM}{L:zgC}{l k:Nat}(h:L[l]?=some (.fresh k)):zw9 m L l=some ⟨false,0,0,k,0,false⟩:=by unfold zw9;rw [h]
theorem zqJ{m:BM}{L:zgC}{l:Nat}{b:Blk}(h:zw9 m L l=some b)(hh:b.has=true):∃x,zgH L l=some x∧m x=some b:=by
 unfold zw9 at h;split at h
 ·rename_i y hy;exact ⟨y,by unfold zgH;rw [hy],h⟩
 ·cases h;cases hh
 ·cases h
theorem Rs.v{A:Nat→Prop}{m:BM}{w:World}{st st0:St}{L:zgC}(hR:R A m w st)(hs:zyO L st0 st){x y:AV}(h:Rs st L x y):∀{v},V A m st.length w y v→V (zCc A m L) (zw9 m L) st0.length w x v:=by
 have hA':∀B,A B→zCc A m L B:=fun B h=>.inl h
 induction h with
 |any x=>exact fun {v} _=>.imm (.any v)
 |imm h=>exact fun {v} hv=>.imm ((h.vi hv).widen hA')
 |nil=>intro v hv;rw [hv.lit_inv];exact .imm (.inil _ _ _)
 | @nilown l k h =>
  intro v hv;rw [hv.lit_inv];have h1:=hs.new l k h;exact .msl _ _ _ _ _ _ (Qb.1 h1).1 fun b hb=>⟨rfl,Qg _,.inl rfl⟩
 | @msl l l' i n h =>
  intro v hv;obtain ⟨hl,a,n',cap,rfl,hb⟩:=hv.msl_inv;obtain ⟨_,_,_,h1,_,_⟩:=hs.live l l' h;exact .msl _ _ _ _ _ _ (Qb.1 h1).1 fun b hb'=>hb b ((zqK (m:=m) h).symm.trans hb')
 | @mpt l l' i j h =>
  intro v hv;obtain ⟨hl,a,rfl,hb⟩:=hv.mpt_inv;obtain ⟨_,_,_,h1,_,_⟩:=hs.live l l' h;exact .mpt _ _ _ _ (Qb.1 h1).1 fun b hb'=>hb b ((zqK (m:=m) h).symm.trans hb')
 | @mmp l l' h =>
  intro v hv;obtain ⟨hl,a,rfl,hb⟩:=hv.mmp_inv;obtain ⟨_,_,_,h1,_,_⟩:=hs.live l l' h;exact .mmp _ _ (Qb.1 h1).1 fun b hb'=>hb b ((zqK (m:=m) h).symm.trans hb')
 | @sm l els els' hD h hl hi hrl hr ih =>
  intro v hv;obtain ⟨hlt,a,rfl,hb⟩:=hv.mmp_inv;obtain ⟨b,h1,h2,h3,h4⟩:=hR.blk l 2 els h;obtain ⟨h6,hm6,rfl⟩:=hb b h1;obtain ⟨h0,es,clock,h7,h8,h9⟩:=(h3 h6).mval hm6;have hw:=(h3 h6).wide
  exact .imm (.imp els' b.B es clock (.inr ⟨l,b,h1,h6,rfl,hD⟩) h7 (by omega) (fun q hq=>by rw [←hrl q (by omega) hq,hw q (by omega),h0])
   (fun q hq j hj=>(hi _ (Qi hq) _ (Qi hj)).vi (ih q (by omega) hq j (by rw [hrl q (by omega) hq];exact hj) hj (h9 q (by omega) j (by rw [hrl q (by omega) hq];exact hj)))))
 | @sl l i n k els els' hD h hin hl hi hrl hr ih =>
  intro v hv;obtain ⟨hlt,a,n',cap,rfl,hb⟩:=hv.msl_inv;obtain ⟨b,h1,h2,h3,h4⟩:=hR.blk l k els h;obtain ⟨rfl,hcap,hc⟩:=hb b h1
  rcases hc with h5 |⟨h6,hm6,rfl,hfit⟩
  ·have h0:n'=0:=by omega
   subst h0;obtain rfl:els'=[]:=Qf hl;exact .imm (.inil _ _ _)
  ·have hok:=(h3 h6).cells hm6;subst h2
   have hcell:∀q j,q<els'.length→j<b.k→∃u,w.cell? ⟨b.B,b.o+i*b.k+q*b.k+j,none⟩=some u∧∀(h4:q<els'.length) (h5:j<els'[q].length),VI (zCc A m L) w els'[q][j] u:=fun q j hq hj=>by
    have hq1:i+q<els.length:=by omega
    have hj1:j<els[i+q].length:=by rw [hok.wide _ hq1];exact hj
    obtain ⟨u,h8,h9⟩:=hok.val (i+q) hq1 j hj1;refine ⟨u,by rw [←h8];congr 2;rw [QM];omega,fun h10 h11=>?_⟩;exact (hi _ (Qi h10) _ (Qi h11)).vi (ih q (by omega) hq1 h10 j hj1 h11 h9)
   have hw':∀q (hq:q<els'.length),els'[q].length=b.k:=fun q hq=>by
    rw [←hrl q (by omega) (by omega) hq];exact hok.wide _ (by omega)
   have:=VI.isl (A:=zCc A m L) (w:=w) b.k els' b.B (b.o+i*b.k) cap (fun q j=>(w.cell? ⟨b.B,b.o+i*b.k+q*b.k+j,none⟩).getD undef) (.inr ⟨l,b,h1,h6,rfl,hD⟩) (by omega) hw'
    (fun q j hq hj=>by obtain ⟨u,h8,_⟩:=hcell q j hq hj;rw [h8];rfl)
    (fun q hq j hj=>by
     obtain ⟨u,h8,h9⟩:=hcell q j hq (by rw [←hw' q hq];exact hj);show VI _ w _ ((w.cell? _).getD undef)
     rw [h8];exact h9 hq hj)
   rw [hl] at this;exact .imm this
 | @slp l i j k els els' hD h hl hi hrl hr ih =>
  intro v hv;obtain ⟨hlt,a,rfl,hb⟩:=hv.mpt_inv;obtain ⟨b,h1,h2,h3,h4⟩:=hR.blk l k els h;obtain ⟨h6,hm6,rfl⟩:=hb b h1;have hok:=(h3 h6).cells hm6;subst h2
  have hcell:∀q j,q<els'.length→j<b.k→∃u,w.cell? ⟨b.B,b.o+q*b.k+j,none⟩=some u∧∀(h4:q<els'.length) (h5:j<els'[q].length),VI (zCc A m L) w els'[q][j] u:=fun q j hq hj=>by
   have hq1:q<els.length:=by omega
   have hj1:j<els[q].length:=by rw [hok.wide _ hq1];exact hj
   obtain ⟨u,h8,h9⟩:=hok.val q hq1 j hj1;exact ⟨u,h8,fun h10 h11=>(hi _ (Qi h10) _ (Qi h11)).vi (ih q hq1 h10 j hj1 h11 h9)⟩
  have hw':∀q (hq:q<els'.length),els'[q].length=b.k:=fun q hq=>by
   rw [←hrl q (by omega) hq];exact hok.wide _ (by omega)
  exact .imm (VI.ipt (A:=zCc A m L) (w:=w) b.k els' i j b.B b.o (fun q j=>(w.cell? ⟨b.B,b.o+q*b.k+j,none⟩).getD undef) (.inr ⟨l,b,h1,h6,rfl,hD⟩) hw'
   (fun q j hq hj=>by obtain ⟨u,h8,_⟩:=hcell q j hq hj;rw [h8];rfl)
   (fun q hq j hj=>by
    obtain ⟨u,h8,h9⟩:=hcell q j hq (by rw [←hw' q hq];exact hj);show VI _ w _ ((w.cell? _).getD undef)
    rw [h8];exact h9 hq hj))
 |agg hl hr ih =>
  intro v hv;obtain ⟨a,rfl,h1,h2⟩:=hv.agg_inv;exact .agg _ _ (by omega) fun i hi=>ih i hi (by omega) (h2 i (by omega))
 |tup hl hr ih =>
  intro v hv;obtain ⟨a,rfl,h1,h2⟩:=hv.tup_inv;exact .tup _ _ (by omega) fun i hi=>ih i hi (by omega) (h2 i (by omega))
 |fn hl hr hl' hr' ih ih' =>
  intro v hv;obtain ⟨a,b,rfl,⟨h1,h2⟩,⟨h3,h4⟩⟩:=hv.fn_inv;exact .fn _ _ _ _ _ (by omega) (fun i hi=>ih i hi (by omega) (h2 i (by omega))) (by omega) fun i hi=>ih' i hi (by omega) (h4 i (by omega))
theorem R.rs{A:Nat→Prop}{m:BM}{w:World}{st st0:St}{L:zgC}(hR:R A m w st)(h:zyO L st0 st):R (zCc A m L) (zw9 m L) w st0:=by
 refine ⟨fun B hB=>?_,fun B l b hA hb hh=>?_,fun l1 l2 b1 b2 h1 h2 hh1 hh2 he=>?_,fun l b hb=>?_,fun l k els0 he=>?_⟩
 ·rcases hB with h1 |⟨l,b,h1,h2,rfl,_⟩
  ·exact hR.aLow B h1
  ·exact hR.low h1 h2
 ·obtain ⟨x,h1,h2⟩:=zqJ hb hh
  rcases hA with h3 |⟨l3,b3,h3,h4,rfl,h5⟩
  ·exact hR.aOwn B x b h3 h2 hh
  ·intro e;have:=hR.inj x l3 b b3 h2 h3 hh h4 e;subst this;rw [ztk h1] at h5;cases h5
 ·obtain ⟨x1,k1,k2⟩:=zqJ h1 hh1;obtain ⟨x2,k3,k4⟩:=zqJ h2 hh2;have:=hR.inj x1 x2 b1 b2 k2 k4 hh1 hh2 he;subst this;exact h.inj l1 l2 x1 k1 k3
 ·unfold zw9 at hb;split at hb
  ·rename_i x hx;obtain ⟨k,els0,els,h3,h4,_⟩:=h.live l x (by unfold zgH;rw [hx]);exact ⟨els0,by rw [h3];rw [(hR.at hb h4).1]⟩
  ·rename_i k hx;cases hb;exact ⟨[],h.new l k hx⟩
  ·cases hb
 ·rcases h.all l k els0 he with ⟨l',h1⟩ |⟨h1,rfl⟩
  ·obtain ⟨k',els0',els,h3,h4,h5⟩:=h.live l l' h1;rw [he] at h3;cases h3;obtain ⟨b,h6,h7,h8,h9⟩:=hR.blk l' k els h4;refine ⟨b,by rw [zqK h1];exact h6,h7,fun hh=>?_,fun hh=>?_⟩
   ·exact (h8 hh).rel h5.1 fun i hi hi'=>⟨(h5.2 i hi hi').1,fun j hj hj' v hv=>((h5.2 i hi hi').2 j hj hj').v hR h hv⟩
   ·have:=h9 hh;subst this;exact Qf h5.1
  ·exact ⟨_,zyg h1,rfl,(fun hh=>by cases hh),fun _=>rfl⟩
def zzL(nb0:Nat)(L:zgC):Bool:=(List.range nb0).all fun l=>match L[l]? with |some (.old x)=>Nat.beq x l |some (.fresh _)=>false |_=>true
theorem zzM{nb0:Nat}{L:zgC}(h:zzL nb0 L=true){l:Nat}(hl:l<nb0)(m:BM):zw9 m L l=m l∨zw9 m L l=none:=by
 have h1:=(Qs.1 h) l (JA.2 hl);unfold zw9
 cases hL:L[l]? with
 |none=>exact .inr rfl
 |some s =>
  rw [hL] at h1
  cases s with
  |old x=>simp at h1;subst h1;exact .inl rfl
  |dead=>exact .inr rfl
  |fresh k=>cases h1
theorem ze0.rs{A m nb0 w A' m' nb' w' st0 st'}{L:zgC}(h:zyO L st0 st')(hS:ze0 A m nb0 w A' m' nb' w')(hid:zzL nb0 L=true)(hn:nb0≤st0.length):ze0 A m nb0 w (zCc A' m' L) (zw9 m' L) st0.length w':=by
 refine ⟨hn,hS.size,fun B hB=>.inl (hS.aSub B hB),fun B hB=>?_,fun l hl=>?_,fun l b hb hh=>?_,hS.heap,hS.os,hS.tape,hS.output⟩
 ·rcases hB with h1 |⟨l,b,h1,h2,rfl,_⟩
  ·exact hS.aNew B h1
  ·rcases hS.mNew l b h1 h2 with h3 |h3
   ·exact .inr (.inl h3)
   ·exact .inr (.inr h3)
 ·rcases zzM hid hl m' with h1 |h1
  ·rw [h1];exact hS.mOld l hl
  ·exact .inr h1
 ·obtain ⟨x,h1,h2⟩:=zqJ hb hh;exact hS.mNew x b h2 hh
def zln(st:St)(L:zgC):Ev→Ev→Prop
 | [],_=>True
 |(t,v0)::r,env=>(∃v,look env t=some v∧Rs st L v0 v)∧zln st L r env
theorem zln.get{st L}:∀{env0 env:Ev},zln st L env0 env→∀t v0,look env0 t=some v0→∃v,look env t=some v∧Rs st L v0 v
 | [],_,_,t,v0,h=>by cases h
 |(k,x)::r,env,h,t,v0,hl=>by
  simp only [look] at hl;split at hl
  ·rename_i e;subst e;cases hl;exact h.1
  ·exact zln.get h.2 t v0 hl
theorem Env.rs{A m w st st0 n env0 env a}{L:zgC}(hR:R A m w st)(hs:zyO L st0 st)(hE:Env A m st.length w n env a)(he:zln st L env0 env):Env (zCc A m L) (zw9 m L) st0.length w n env0 a:=
 ⟨hE.size,fun t v0 hl=>by
  obtain ⟨v,h1,h2⟩:=he.get t v0 hl;obtain ⟨h3,h4⟩:=hE.val t v h1
  exact ⟨h3,h2.v hR hs h4⟩,hE.defers⟩
def zjy(st:St)(L:zgC):zgC→St→Prop
 | [],[]=>True
 |.dead ::r,none ::s=>zjy st L r s
 |.fresh k ::r,some (k',els)::s=>(k'=k∧els=[])∧zjy st L r s
 |.old x ::r,some (k,els0)::s=>(∃els,st[x]?=some (some (k,els))∧zsk st L els0 els)∧zjy st L r s
 |_,_=>False
theorem zjy.at{st:St}{L:zgC}:∀{r:zgC} {s:St},zjy st L r s→∀l:Nat,
  (∀x,r[l]?=some (.old x)→∃k els0 els,s[l]?=some (some (k,els0))∧st[x]?=some (some (k,els))∧zsk st L els0 els) ∧
  (∀k,r[l]?=some (.fresh k)→s[l]?=some (some (k,[])))∧(∀k els0,s[l]?=some (some (k,els0))→(∃x,r[l]?=some (.old x))∨(r[l]?=some (.fresh k)∧els0=[]))
 | [],[],_,l=>by simp
 | [],_ :: _,h,_=>by cases h
 |.dead :: _,[],h,_=>by cases h
 |.dead :: _,some _ :: _,h,_=>by cases h
 |.fresh _ :: _,[],h,_=>by cases h
 |.fresh _ :: _,none :: _,h,_=>by cases h
 |.old _ :: _,[],h,_=>by cases h
 |.old _ :: _,none :: _,h,_=>by cases h
 |.dead ::r,none ::s,h,l=>by
  cases l with
  |zero=>simp
  |succ l=>simpa using zjy.at (r:=r) (s:=s) h l
 |.fresh k ::r,some (k',els)::s,h,l=>by
  obtain ⟨⟨rfl,rfl⟩,h2⟩:=h
  cases l with
  |zero=>simp
  |succ l=>simpa using zjy.at (r:=r) (s:=s) h2 l
 |.old x ::r,some (k,els0)::s,h,l=>by
  obtain ⟨⟨els,h1,h3⟩,h2⟩:=h
  cases l with
  |zero =>
   refine ⟨fun y hy=>?_,fun k' hk=>by simp at hk,fun k' e' he'=>.inl ⟨x,by simp⟩⟩;simp at hy;subst hy;exact ⟨k,els0,els,by simp,h1,h3⟩
  |succ l=>simpa using zjy.at (r:=r) (s:=s) h2 l
def zmV:zgC→Bool
 | []=>true
 |.old x ::r=>(!zvM r x)&&zmV r
 |_ ::r=>zmV r
theorem zuT:∀{L:zgC},zmV L=true→∀l1 l2 x,zgH L l1=some x→zgH L l2=some x→l1=l2
 | [],_,l1,_,x,h,_=>by simp [zgH] at h
 |s ::L,h,l1,l2,x,h1,h2=>by
  have hL:zmV L=true:=by cases s <;> simp [zmV] at h <;> first |exact h.2 |exact h
  cases l1 with
  |zero =>
   cases l2 with
   |zero=>rfl
   |succ l2 =>
    cases s with
    |old y =>
     simp [zgH] at h1;subst h1;have:=ztk (L:=L) (l:=l2) (x:=y) (by simpa [zgH] using h2);simp [zmV,this] at h
    |dead=>simp [zgH] at h1
    |fresh k=>simp [zgH] at h1
  |succ l1 =>
   cases l2 with
   |zero =>
    cases s with
    |old y =>
     simp [zgH] at h2;subst h2;have:=ztk (L:=L) (l:=l1) (x:=y) (by simpa [zgH] using h1);simp [zmV,this] at h
    |dead=>simp [zgH] at h2
    |fresh k=>simp [zgH] at h2
   |succ l2=>rw [zuT hL l1 l2 x (by simpa [zgH] using h1) (by simpa [zgH] using h2)]
theorem zyO.of{L:zgC}{st0 st:St}(ho:zmV L=true)(h:zjy st L L st0):zyO L st0 st where
 live:=fun l l' hl=>by
  unfold zgH at hl;split at hl
  ·rename_i x hx;cases hl;exact (h.at l).1 _ hx
  ·cases hl
 all:=fun l k els0 he=>by
  rcases (h.at l).2.2 k els0 he with ⟨x,hx⟩ |h1
  ·exact .inl ⟨x,by unfold zgH;rw [hx]⟩
  ·exact .inr h1
 new:=fun l k hk=>(h.at l).2.1 k hk
 inj:=zuT ho
def Can(nb0:Nat)(env0:Ev)(st0:St)(env:Ev)(st:St):Prop:=
 ∃L:zgC,zln st L env0 env∧zmV L=true∧zjy st L L st0∧zzL nb0 L=true∧nb0≤st0.length
section
variable {P : Program} {n nb0 : Nat} {env env0 : Ev} {st st0 : St}
theorem zsP{c:Code}{Q:Exit→Ev→St→Prop}(hc:Can nb0 env0 st0 env st)(h:SW P n nb0 c Q env0 st0):SW P n nb0 c Q env st:=by
 obtain ⟨L,h1,h2,h3,h4,h5⟩:=hc;intro A m w a h0 hR hE;have hs:=zyO.of h2 h3;exact wp_mono (h _ _ w a h5 (hR.rs hs) (hE.rs hR hs h1)) fun _ _ _ k=>k.trans ((ze0.refl0 A m st.length w h0).rs hs h4 h5)
theorem zO{all l1 l2:List Oper}{K:Ev→St→Prop}(hc:Can nb0 env0 st0 env st)(h:SR P n nb0 all l1 l2 K env0 st0):SR P n nb0 all l1 l2 K env st:=by
 obtain ⟨L,h1,h2,h3,h4,h5⟩:=hc;intro ops i ho hd hn A m w a h0 hR hE Q hQ;have hs:=zyO.of h2 h3;exact h ops i ho hd hn _ _ w a h5 (hR.rs hs) (hE.rs hR hs h1) Q fun a' w' k=>hQ a' w' (k.trans ((ze0.refl0 A m st.length w h0).rs hs h4 h5))
theorem zbG{x y:Code}{Q:Exit→Ev→St→Prop}{X:Type}(E:X→Ev)(S:X→St)(I:X→Prop)
  (h:SW P n nb0 x (zyF (fun env st=>∃z,I z∧Can nb0 (E z) (S z) env st) Q) env st) (k:∀z,I z→SW P n nb0 y Q (E z) (S z)):SW P n nb0 (.seq x y) Q env st:=
 zi (h.mono fun e env st h=>by cases e <;> first |(obtain ⟨z,h1,h2⟩:=h;exact zsP h2 (k z h1)) |exact h)
def LQ(id:Nat){X B R:Type}(nb0:Nat)(E:X→Ev)(S:X→St)(E':B→Ev)(S':B→St)(post:R→Ev→St→Prop)(o:Sum X (Sum B R)):Exit→Ev→St→Prop
 |.normal,env,st=>∃z,o=.inl z∧Can nb0 (E z) (S z) env st
 |.exit i,env,st=>i=id∧∃b,o=.inr (.inl b)∧Can nb0 (E' b) (S' b) env st
 |.ret,env,st=>∃r,o=.inr (.inr r)∧post r env st
 |_,_,_=>False
theorem zGK{id:Nat}{c y:Code}{Q:Exit→Ev→St→Prop}{X B R:Type}(E:X→Ev)(S:X→St)(E':B→Ev)(S':B→St)(post:R→Ev→St→Prop){body:X→Option (Sum X (Sum B R))}{z0:X}{o:Sum B R}
  (ho:zr body z0=some o) (hc:Can nb0 (E z0) (S z0) env st) (round:∀z r,body z=some r→SW P n nb0 c (LQ id nb0 E S E' S' post r) (E z) (S z))
  (hb:∀b,o=.inl b→SW P n nb0 y Q (E' b) (S' b)) (hr:∀r,o=.inr r→∀env st,post r env st→Q .ret env st):SW P n nb0 (.seq (.block id (.loop c)) y) Q env st:=by
 obtain ⟨N,hN⟩:=zno ho;refine zi (zs (zwr (fun k env st=>∃z,zkr body k z=some o∧Can nb0 (E z) (S z) env st) N ⟨z0,hN,hc⟩ ?_));rintro k env st ⟨z,hz,hcan⟩
 cases k with
 |zero=>cases hz
 |succ k =>
  unfold zkr at hz
  cases hbz:body z with
  |none=>rw [hbz] at hz;cases hz
  |some r =>
   rw [hbz] at hz;refine zsP hcan ((round z r hbz).mono fun e env st h=>?_)
   cases e with
   |normal =>
    obtain ⟨z',rfl,h2⟩:=h;exact ⟨k,QE k,z',hz,h2⟩
   |exit i =>
    obtain ⟨rfl,b,rfl,h2⟩:=h;show zqS i _ (.exit i) env st;simp only [zqS,if_true];exact zsP h2 (hb b (sm hz).symm)
   |ret =>
    obtain ⟨r',rfl,h2⟩:=h;exact hr r' (sm hz).symm env st h2
   |goto l=>exact h.elim
   |panic c=>exact h.elim
   |outgrown=>exact h.elim
end
def zm(s:List UInt8):List AV:=[.lit (.string (B s))]
def rI(k:IntKind)(n:Int):List AV:=[.lit (.int k n)]
def rB(b:Bool):List AV:=[.lit (.bool b)]
def rL{α:Type}(k:Nat)(f:α→List AV)(l:List α):List AV:=[.isl k (l.map f)]
def zE3(nb0:Nat)(av0:AV)(st0:St)(av:AV)(st:St):Prop:=
 ∃L:zgC,Rs st L av0 av∧zmV L=true∧zjy st L L st0∧zzL nb0 L=true∧nb0≤st0.length
def zoe(P:Program)(fn:Func)(nb0:Nat)(av0:AV)(st0:St)(env:Ev)(st:St):Prop:=∃av,zBj P fn env st=some av∧zE3 nb0 av0 st0 av st
def QF(P:Program)(fn:Func)(nb0:Nat)(av0:AV)(st0:St):Exit→Ev→St→Prop
 |.normal,env,st=>zoe P fn nb0 av0 st0 env st
 |.ret,env,st=>zoe P fn nb0 av0 st0 env st
 |_,_,_=>False
theorem zZ {P : Program} {f : FuncId} {fn : Func} {c : Code} {args : List AV} {st : St} {av0 : AV} {st0 : St} (hf : P.funcs[f]? = some fn) (hb : fn.body = some c) (hn : (fn.name == "runtime.NumGoroutine") = false) (hlen : Nat.ble args.length fn.ntmps = true)
  (h:SW P fn.ntmps st.length c (QF P fn st.length av0 st0) (zjD 0 args) st):zmv P f args st (fun av st'=>av=av0∧st'=st0):=by
 have h1:=zsM (K:=fun av st'=>zE3 st.length av0 st0 av st') hf hb hn (QA hlen) (h.mono fun e env st h=>by cases e <;> exact h);refine ⟨h1.1,fun A m w vals hR hv=>(h1.2 A m w vals hR hv).mono fun e w' ⟨v,A',m',st',av,he,hR',hS,hv',L,k1,k2,k3,k4,k5⟩=>?_⟩;have hs:=zyO.of k2 k3;exact ⟨v,_,_,st0,av0,he,hR'.rs hs,hS.rs hs k4 k5,k1.v hR' hs hv',rfl,rfl⟩
theorem zo {P : Program} {f : FuncId} {fn : Func} {c : Code} {args : List AV} {res : AV} (hf : P.funcs[f]? = some fn) (hb : fn.body = some c) (hn : (fn.name == "runtime.NumGoroutine") = false) (hlen : Nat.ble args.length fn.ntmps = true) (hi : zzN res = true)
  (h:SW P fn.ntmps 0 c (QF P fn 0 res []) (zjD 0 args) []):zan P f args res:=
 zAs ((zZ (st:=[]) hf hb hn hlen h).mono fun av st ⟨h1,h2⟩=>by subst h1;exact .imm (znl hi))
inductive SB where
 |no
 |many (k:Nat) (els:List (List AV))
 |one (k:Nat) (cs:List AV)
 |xs (k:Nat) (rows:List (List AV))
def SB.b:SB→Option (Nat×List (List AV))
 |.no=>none
 |.many k els=>some (k,els)
 |.one k cs=>some (k,[cs])
 |.xs k rows=>some (k,rows)
def SBs:List SB→St
 | []=>[]
 |x ::r=>x.b ::SBs r
def SB.ok:SB→Prop
 |.many _ els=>∀r∈els,∀x∈r,Imm x
 |_=>True
def zES:List SB→Prop
 | []=>True
 |x ::r=>x.ok∧zES r
def SC(P:Program)(f:FuncId)(args:List AV)(bs0:List SB)(av:AV)(bs1:List SB):Prop:=zES bs1∧zmv P f args (SBs bs0) (fun a s=>a=av∧s=SBs bs1)
def zBg(ρ:Nat→Option Nat):List AV→List AV→Prop
 | [],[]=>True
 |x ::l,y ::r=>Rn ρ x y∧zBg ρ l r
 |_,_=>False
theorem zBg.get{ρ}:∀{l r:List AV},zBg ρ l r→l.length=r.length∧∀i (h:i<l.length) (h':i<r.length),Rn ρ l[i] r[i]
 | [],[],_=>⟨rfl,fun i h=>by cases h⟩
 | [],_ :: _,h=>h.elim
 |_ :: _,[],h=>h.elim
 |x ::l,y ::r,h=>by
  obtain ⟨h1,h2⟩:=zBg.get h.2;refine ⟨by simp [h1],fun i hi hi'=>?_⟩
  cases i with
  |zero=>exact h.1
  |succ i=>exact h2 i (by simpa using hi) (by simpa using hi')
def InB(ρ:Nat→Option Nat)(st:St):List Nat→List SB→Prop
 | [],[]=>True
 |l ::L,.many k els ::bs=>(st[l]?=some (some (k,els))∧∀r∈els,∀x∈r,Imm x)∧InB ρ st L bs
 |l ::L,.one k cs ::bs=>(∃cs',st[l]?=some (some (k,[cs']))∧zBg ρ cs cs')∧InB ρ st L bs
 |_,_=>False
theorem InB.at{ρ st}:∀{L:List Nat} {bs:List SB},InB ρ st L bs→L.length=bs.length∧∀i l:Nat,L[i]?=some l→∃k els0 els,(SBs bs)[i]?=some (some (k,els0))∧st[l]?=some (some (k,els))∧zjS ρ els0 els
 | [],[],_=>⟨rfl,fun i l h=>by simp at h⟩
 | [],_ :: _,h=>h.elim
 |_ :: _,[],h=>h.elim
 |_ :: _,.no :: _,h=>h.elim
 |_ :: _,.xs _ _ :: _,h=>h.elim
 |l ::L,.many k els ::bs,h=>by
  obtain ⟨h1,h2⟩:=InB.at h.2;refine ⟨by simp [h1],fun i x hx=>?_⟩
  cases i with
  |zero =>
   simp at hx;subst hx;exact ⟨k,els,els,rfl,h.1.1,zjS.same h.1.2⟩
  |succ i=>simpa [SBs] using h2 i x (by simpa using hx)
 |l ::L,.one k cs ::bs,h=>by
  obtain ⟨h1,h2⟩:=InB.at h.2;refine ⟨by simp [h1],fun i x hx=>?_⟩
  cases i with
  |zero =>
   simp at hx;subst hx;obtain ⟨cs',h3,h4⟩:=h.1;exact ⟨k,[cs],[cs'],rfl,h3,zjS.one h4.get.1 h4.get.2⟩
  |succ i=>simpa [SBs] using h2 i x (by simpa using hx)
theorem zpI:∀bs:List SB,(SBs bs).length=bs.length
 | []=>rfl
 |_ ::r=>by simp [SBs,zpI r]
def zGH(τ:Nat→Nat):SB→Option (Nat×List (List AV))
 |.no=>none
 |.many k els=>some (k,els)
 |.one k cs=>some (k,[rnL τ cs])
 |.xs k rows=>some (k,rows.map (rnL τ))
def zAB(τ:Nat→Nat):List SB→St
 | []=>[]
 |x ::r=>zGH τ x ::zAB τ r
def zCx(τ:Nat→Nat):St→List Nat→List SB→St
 |st,l ::L,b ::bs=>zCx τ (st.set l (zGH τ b)) L bs
 |st,_,_=>st
def zsl(τ:Nat→Nat):List Nat→List SB→St
 |_ ::L,_ ::bs=>zsl τ L bs
 |_,bs=>zAB τ bs
def zGe(L:List Nat)(st:St)(bs:List SB):St:=zCx (tau L st.length) st L bs++zsl (tau L st.length) L bs
theorem Imm.rn{τ:Nat→Nat}{x:AV}(h:Imm x):rn τ x=x:=by
 induction h with
 |any=>rfl
 |lit v=>rfl
 |isl k e=>rfl
 |ipt k e i j=>rfl
 |imp e=>rfl
 |agg cs _ ih =>
  rw [Go.Proofs.YthmnlfenkhmmhaaGreat.rn,zhD];congr 1
  (conv=>rhs;rw [←JW cs]);exact Jj ih
 |tup cs _ ih =>
  rw [Go.Proofs.YthmnlfenkhmmhaaGreat.rn,zhD];congr 1
  (conv=>rhs;rw [←JW cs]);exact Jj ih
 |fn f cs ds _ _ ih ih' =>
  rw [Go.Proofs.YthmnlfenkhmmhaaGreat.rn,zhD,zhD];congr 1
  ·(conv=>rhs;rw [←JW cs]);exact Jj ih
  ·conv=>rhs;rw [←JW ds]
   exact Jj ih'
theorem zAA{τ:Nat→Nat}{b:SB}(h:b.ok):zGH τ b=zqw τ b.b:=by
 cases b with
 |no=>rfl
 |one k cs=>rfl
 |xs k rows=>rfl
 |many k els =>
  show some (k,els)=some (k,zn9 τ els);congr 2;unfold zn9
  conv=>lhs;rw [←JW els]
  refine Jj fun r hr=>?_;rw [zhD]
  conv=>lhs;rw [←JW (id r)]
  exact Jj fun x hx=>((h r hr x hx).rn).symm
theorem zxn{τ:Nat→Nat}:∀{bs:List SB},zES bs→zAB τ bs=(SBs bs).map (zqw τ)
 | [],_=>rfl
 |b ::bs,h=>by rw [zAB,SBs,Yc,zAA h.1,zxn h.2]
theorem zxq{τ:Nat→Nat}:∀{L:List Nat} {st:St} {bs:List SB},zES bs→zCx τ st L bs=zm7 τ st L ((SBs bs).take L.length)
 | [],st,bs,_=>by cases bs <;> rfl
 |l ::L,st,[],_=>rfl
 |l ::L,st,b ::bs,h=>by
  rw [zCx,SBs,Qx,List.take_succ_cons,zm7,zAA h.1];exact zxq h.2
theorem zt8{τ:Nat→Nat}:∀{L:List Nat} {bs:List SB},zES bs→zsl τ L bs=((SBs bs).drop L.length).map (zqw τ)
 | [],bs,h=>by unfold zsl;exact zxn h
 |l ::L,[],_=>by simp [zsl,zAB,SBs]
 |l ::L,b ::bs,h=>by
  rw [zsl,SBs,Qx,List.drop_succ_cons];exact zt8 h.2
theorem zEQ{L:List Nat}{st:St}{bs:List SB}(h:zES bs):zGe L st bs=zgU L st (SBs bs):=by
 unfold zGe zgU;rw [zxq h,zt8 h]
def zuS:List Nat→Bool
 | []=>true
 |x ::l=>(!zfz x l)&&zuS l
theorem zpY:∀{l:List Nat},zuS l=true→l.Nodup
 | [],_=>List.nodup_nil
 |x ::l,h=>by
  simp only [zuS,Qd,Qk] at h;refine Ji.2 ⟨fun hm=>?_,zpY h.2⟩;rw [zij.2 hm] at h;cases h.1
def zyX(k:Nat):List Nat→Bool
 | []=>true
 |x ::l=>Nat.blt x k&&zyX k l
theorem zuc{k:Nat}:∀{l:List Nat},zyX k l=true→∀x∈l,x<k
 | [],_,x,h=>by cases h
 |y ::l,h,x,hx=>by
  simp only [zyX,Qd] at h
  rcases Qr.1 hx with rfl |hx
  ·exact QA h.1
  ·exact zuc h.2 x hx
section
variable {P : Program} {env : Ev} {st : St} {K : Ev → St → Prop} {d : Nat} {ty : TypeId} {pos : String} {aft : Array Edge} {gu : Option (Nat × Bool)}
theorem zg5{op:Op}{av:AV}{st':St}(hc:zhF op=false)(h:aop P env st op=some (av,st'))(k:K ((d,av)::env) st'):SOp P ⟨some d,op,ty,pos,aft,gu⟩ env st K:=by
 unfold SOp;simp only [hc,h];exact k
theorem zGx{op:Op}{av:AV}{st':St}(hc:zhF op=false)(h:aop P env st op=some (av,st'))(k:K env st'):SOp P ⟨none,op,ty,pos,aft,gu⟩ env st K:=by
 unfold SOp;simp only [hc,h];exact k
theorem mv{x:Operand}{v:AV}(hx:ev env x=some v)(k:K ((d,v)::env) st):SOp P ⟨some d,.move x,ty,pos,aft,gu⟩ env st K:=zg5 rfl (by simp [aop,hx]) k
theorem asg{x:Operand}{v:AV}(hx:ev env x=some v)(k:K ((d,v)::env) st):SOp P ⟨some d,.assign x,ty,pos,aft,gu⟩ env st K:=zg5 rfl (by simp [aop,hx]) k
theorem bn{o:BinOp}{t u:TypeId}{x y:Operand}{ti:TI}{a b v:AV}(ht:zcg P t=some ti)(hx:ev env x=some a)(hy:ev env y=some b)(h:zt5 ti.k o a b=some v)(k:K ((d,v)::env) st):
  SOp P ⟨some d,.binOp o t x y u,ty,pos,aft,gu⟩ env st K:=zg5 rfl (by simp [aop,ht,hx,hy,h]) k
theorem lss{t u:TypeId}{x y:Operand}{ti:TI}{kk:IntKind}{a b:Int}(ht:zcg P t=some ti)(hx:ev env x=some (.lit (.int kk a)))(hy:ev env y=some (.lit (.int kk b)))(k:K ((d,.lit (.bool (decide (a<b))))::env) st):
  SOp P ⟨some d,.binOp .lss t x y u,ty,pos,aft,gu⟩ env st K:=bn ht hx hy (by simp [zt5,shI,zyJ]) k
theorem leq{t u:TypeId}{x y:Operand}{ti:TI}{kk:IntKind}{a b:Int}(ht:zcg P t=some ti)(hx:ev env x=some (.lit (.int kk a)))(hy:ev env y=some (.lit (.int kk b)))(k:K ((d,.lit (.bool (decide (a≤b))))::env) st):
  SOp P ⟨some d,.binOp .leq t x y u,ty,pos,aft,gu⟩ env st K:=bn ht hx hy (by simp [zt5,shI,zyJ]) k
theorem gtr{t u:TypeId}{x y:Operand}{ti:TI}{kk:IntKind}{a b:Int}(ht:zcg P t=some ti)(hx:ev env x=some (.lit (.int kk a)))(hy:ev env y=some (.lit (.int kk b)))(k:K ((d,.lit (.bool (decide (b<a))))::env) st):
  SOp P ⟨some d,.binOp .gtr t x y u,ty,pos,aft,gu⟩ env st K:=bn ht hx hy (by simp [zt5,shI,zyJ]) k
theorem geq{t u:TypeId}{x y:Operand}{ti:TI}{kk:IntKind}{a b:Int}(ht:zcg P t=some ti)(hx:ev env x=some (.lit (.int kk a)))(hy:ev env y=some (.lit (.int kk b)))(k:K ((d,.lit (.bool (decide (b≤a))))::env) st):
  SOp P ⟨some d,.binOp .geq t x y u,ty,pos,aft,gu⟩ env st K:=bn ht hx hy (by simp [zt5,shI,zyJ]) k
theorem eql{t u:TypeId}{x y:Operand}{ti:TI}{kk:IntKind}{a b:Int}(ht:zcg P t=some ti)(hx:ev env x=some (.lit (.int kk a)))(hy:ev env y=some (.lit (.int kk b)))(k:K ((d,.lit (.bool (a == b)))::env) st):
  SOp P ⟨some d,.binOp .eql t x y u,ty,pos,aft,gu⟩ env st K:=bn ht hx hy (by simp [zt5,shI,zyJ]) k
theorem neq{t u:TypeId}{x y:Operand}{ti:TI}{kk:IntKind}{a b:Int}(ht:zcg P t=some ti)(hx:ev env x=some (.lit (.int kk a)))(hy:ev env y=some (.lit (.int kk b)))(k:K ((d,.lit (.bool (!(a == b))))::env) st):
  SOp P ⟨some d,.binOp .neq t x y u,ty,pos,aft,gu⟩ env st K:=bn ht hx hy (by simp [zt5,shI,zyJ,bne]) k
theorem add{t u:TypeId}{x y:Operand}{ti:TI}{kk:IntKind}{a b:Int}(ht:zcg P t=some ti)(hx:ev env x=some (.lit (.int kk a)))(hy:ev env y=some (.lit (.int kk b)))(k:K ((d,.lit (.int kk (kk.wrap (a+b))))::env) st):
  SOp P ⟨some d,.binOp .add t x y u,ty,pos,aft,gu⟩ env st K:=bn ht hx hy (by simp [zt5,shI,zyJ,arI]) k
theorem sub{t u:TypeId}{x y:Operand}{ti:TI}{kk:IntKind}{a b:Int}(ht:zcg P t=some ti)(hx:ev env x=some (.lit (.int kk a)))(hy:ev env y=some (.lit (.int kk b)))(k:K ((d,.lit (.int kk (kk.wrap (a-b))))::env) st):
  SOp P ⟨some d,.binOp .sub t x y u,ty,pos,aft,gu⟩ env st K:=bn ht hx hy (by simp [zt5,shI,zyJ,arI]) k
theorem mul{t u:TypeId}{x y:Operand}{ti:TI}{kk:IntKind}{a b:Int}(ht:zcg P t=some ti)(hx:ev env x=some (.lit (.int kk a)))(hy:ev env y=some (.lit (.int kk b)))(k:K ((d,.lit (.int kk (kk.wrap (a*b))))::env) st):
  SOp P ⟨some d,.binOp .mul t x y u,ty,pos,aft,gu⟩ env st K:=bn ht hx hy (by simp [zt5,shI,zyJ,arI]) k
theorem arb{o:BinOp}{t u:TypeId}{x y:Operand}{ti:TI}{kk kb:IntKind}{a b r:Int}(ht:zcg P t=some ti)(hx:ev env x=some (.lit (.int kk a)))(hy:ev env y=some (.lit (.int kb b)))
  (h:(shI kk o a b=some r)∨(shI kk o a b=none∧kk=kb∧zyJ o a b=none∧arI kk o a b=some r)) (k:K ((d,.lit (.int kk r))::env) st):SOp P ⟨some d,.binOp o t x y u,ty,pos,aft,gu⟩ env st K:=
 bn ht hx hy (by rcases h with h |⟨h1,rfl,h2,h3⟩ <;> simp [zt5, *]) k
theorem quo{t u:TypeId}{x y:Operand}{ti:TI}{kk:IntKind}{a b r:Int}(ht:zcg P t=some ti)(hx:ev env x=some (.lit (.int kk a)))(hy:ev env y=some (.lit (.int kk b)))(h:zHd kk a b=some r)(k:K ((d,.lit (.int kk r))::env) st):
  SOp P ⟨some d,.binOp .quo t x y u,ty,pos,aft,gu⟩ env st K:=arb ht hx hy (.inr ⟨rfl,rfl,rfl,h⟩) k
theorem rem{t u:TypeId}{x y:Operand}{ti:TI}{kk:IntKind}{a b r:Int}(ht:zcg P t=some ti)(hx:ev env x=some (.lit (.int kk a)))(hy:ev env y=some (.lit (.int kk b)))(h:zFX a b=some r)(k:K ((d,.lit (.int kk r))::env) st):
  SOp P ⟨some d,.binOp .rem t x y u,ty,pos,aft,gu⟩ env st K:=arb ht hx hy (.inr ⟨rfl,rfl,rfl,h⟩) k
theorem shl{t u:TypeId}{x y:Operand}{ti:TI}{kk kb:IntKind}{a b r:Int}(ht:zcg P t=some ti)(hx:ev env x=some (.lit (.int kk a)))(hy:ev env y=some (.lit (.int kb b)))(h:zHj kk a b=some r)(k:K ((d,.lit (.int kk r))::env) st):
  SOp P ⟨some d,.binOp .shl t x y u,ty,pos,aft,gu⟩ env st K:=arb ht hx hy (.inl h) k
theorem shr{t u:TypeId}{x y:Operand}{ti:TI}{kk kb:IntKind}{a b r:Int}(ht:zcg P t=some ti)(hx:ev env x=some (.lit (.int kk a)))(hy:ev env y=some (.lit (.int kb b)))(h:zHk kk a b=some r)(k:K ((d,.lit (.int kk r))::env) st):
  SOp P ⟨some d,.binOp .shr t x y u,ty,pos,aft,gu⟩ env st K:=arb ht hx hy (.inl h) k
theorem seq{t u:TypeId}{x y:Operand}{ti:TI}{a b:List UInt8}(ht:zcg P t=some ti)(hx:ev env x=some (.lit (.string (B a))))(hy:ev env y=some (.lit (.string (B b))))(k:K ((d,.lit (.bool (a == b)))::env) st):
  SOp P ⟨some d,.binOp .eql t x y u,ty,pos,aft,gu⟩ env st K:=bn ht hx hy rfl k
theorem sne{t u:TypeId}{x y:Operand}{ti:TI}{a b:List UInt8}(ht:zcg P t=some ti)(hx:ev env x=some (.lit (.string (B a))))(hy:ev env y=some (.lit (.string (B b))))(k:K ((d,.lit (.bool (!(a == b))))::env) st):
  SOp P ⟨some d,.binOp .neq t x y u,ty,pos,aft,gu⟩ env st K:=bn ht hx hy rfl k
theorem slt{t u:TypeId}{x y:Operand}{ti:TI}{a b:List UInt8}(ht:zcg P t=some ti)(hx:ev env x=some (.lit (.string (B a))))(hy:ev env y=some (.lit (.string (B b))))(k:K ((d,.lit (.bool (Op.bytesLess a b)))::env) st):
  SOp P ⟨some d,.binOp .lss t x y u,ty,pos,aft,gu⟩ env st K:=bn ht hx hy rfl k
theorem zHi{t u:TypeId}{x y:Operand}{ti:TI}{a b r:List UInt8}(ht:zcg P t=some ti)(hx:ev env x=some (.lit (.string (B a))))(hy:ev env y=some (.lit (.string (B b))))(h:zrP a b=some r)(k:K ((d,.lit (.string (B r)))::env) st):
  SOp P ⟨some d,.binOp .add t x y u,ty,pos,aft,gu⟩ env st K:=bn ht hx hy (by
   unfold zrP at h;split at h
   ·rename_i h1;cases h;simp [zt5,zGJ,h1]
   ·cases h) k
theorem beq{t u:TypeId}{x y:Operand}{ti:TI}{a b:Bool}(ht:zcg P t=some ti)(hk:ti.k=.bool)(hx:ev env x=some (.lit (.bool a)))(hy:ev env y=some (.lit (.bool b)))(k:K ((d,.lit (.bool (a == b)))::env) st):
  SOp P ⟨some d,.binOp .eql t x y u,ty,pos,aft,gu⟩ env st K:=bn ht hx hy (by rw [hk];rfl) k
theorem bne{t u:TypeId}{x y:Operand}{ti:TI}{a b:Bool}(ht:zcg P t=some ti)(hk:ti.k=.bool)(hx:ev env x=some (.lit (.bool a)))(hy:ev env y=some (.lit (.bool b)))(k:K ((d,.lit (.bool (!(a == b))))::env) st):
  SOp P ⟨some d,.binOp .neq t x y u,ty,pos,aft,gu⟩ env st K:=bn ht hx hy (by rw [hk];rfl) k
theorem nt{t:TypeId}{x:Operand}{b:Bool}(hx:ev env x=some (.lit (.bool b)))(k:K ((d,.lit (.bool (!b)))::env) st):SOp P ⟨some d,.unOp .not t x,ty,pos,aft,gu⟩ env st K:=zg5 rfl (by simp [aop,hx,aun]) k
theorem ng{t:TypeId}{x:Operand}{kk:IntKind}{a:Int}(hx:ev env x=some (.lit (.int kk a)))(k:K ((d,.lit (.int kk (kk.wrap (0-a))))::env) st):SOp P ⟨some d,.unOp .neg t x,ty,pos,aft,gu⟩ env st K:=zg5 rfl (by simp [aop,hx,aun]) k
theorem pk{c x y:Operand}{b:Bool}{v:AV}(hc:ev env c=some (.lit (.bool b)))(h:(match b with |true=>ev env x |false=>ev env y)=some v)(k:K ((d,v)::env) st):SOp P ⟨some d,.pick c x y,ty,pos,aft,gu⟩ env st K:=zg5 rfl (by cases b <;> simp at h <;> simp [aop,hc,h]) k
theorem ex{x:Operand}{i:Nat}{vs:List AV}{v:AV}(hx:ev env x=some (.tup vs))(h:vs[i]?=some v)(k:K ((d,v)::env) st):SOp P ⟨some d,.extract x i,ty,pos,aft,gu⟩ env st K:=zg5 rfl (by simp [aop,hx,h]) k
theorem al{t:TypeId}{ti:TI}(nn:Nat)(ht:zcg P t=some ti)(hn:st.length=nn)(k:K ((d,.mpt nn 0 0)::env) (st++[some (ti.size,[zbA ti.zero])])):SOp P ⟨some d,.alloc t,ty,pos,aft,gu⟩ env st K:=zg5 rfl (by simp [aop,ht,hn]) k
theorem bx{t:TypeId}{x:Operand}{v:AV}{cs:List AV}(nn kk:Nat)(hx:ev env x=some v)(hc:znI v=some cs)(hl:cs.length=kk)(hn:st.length=nn)(k:K ((d,.mpt nn 0 0)::env) (st++[some (kk,[cs])])):
  SOp P ⟨some d,.box t x,ty,pos,aft,gu⟩ env st K:=zg5 rfl (by simp [aop,hx,hc,hn,hl]) k
theorem ld{t:TypeId}{x:Operand}{ti:TI}{p v:AV}(ht:zcg P t=some ti)(hx:ev env x=some p)(h:zud st ti p=some v)(k:K ((d,v)::env) st):SOp P ⟨some d,.load t x,ty,pos,aft,gu⟩ env st K:=zg5 rfl (by simp [aop,ht,hx,h]) k
theorem sto{t:TypeId}{x y:Operand}{ti:TI}{p v:AV}{st':St}(ht:zcg P t=some ti)(hx:ev env x=some p)(hy:ev env y=some v)(h:zsq st ti p v=some st')(k:K env st'):SOp P ⟨none,.store t x y,ty,pos,aft,gu⟩ env st K:=zGx (av:=.lit undef) rfl (by simp [aop,ht,hx,hy,h]) k
theorem fa{t:TypeId}{x:Operand}{f:Nat}{ti:TI}{p v:AV}(ht:zcg P t=some ti)(hx:ev env x=some p)(hl:zsX st p=true)(h:zwt ti p f=some v)(k:K ((d,v)::env) st):SOp P ⟨some d,.fieldAddr t x f,ty,pos,aft,gu⟩ env st K:=zg5 rfl (by simp [aop,ht,hx,hl,h]) k
theorem nc{x:Operand}{p:AV}(hx:ev env x=some p)(hl:zsX st p=true)(k:K ((d,p)::env) st):SOp P ⟨some d,.nilCheck x,ty,pos,aft,gu⟩ env st K:=zg5 rfl (by simp [aop,hx,hl]) k
theorem mf{f:FuncId}{a b:Array Operand}{ax bx:List AV}(ha:zqg env a.toList=some ax)(hb:zqg env b.toList=some bx)(k:K ((d,.fn (.func f) ax bx)::env) st):SOp P ⟨some d,.makeFunc (.func f) a b,ty,pos,aft,gu⟩ env st K:=zg5 rfl (by simp [aop,ha,hb]) k
theorem lnS{x:Operand}{t:TypeId}{ti:TI}{l:List UInt8}(ht:zcg P t=some ti)(hk:ti.k=.str)(hx:ev env x=some (.lit (.string (B l))))(k:K ((d,.lit (.int .i64 (l.length:Nat)))::env) st):
  SOp P ⟨some d,.call ⟨.builtin .len,#[x],#[t]⟩,ty,pos,aft,gu⟩ env st K:=zg5 rfl (by simp [aop,ziV,zqb,ht,hk,hx]) k
theorem lnI{α:Type}{x:Operand}{t e:TypeId}{ti:TI}{kk:Nat}{l:List α}{f:α→List AV}(ht:zcg P t=some ti)(hk:ti.k=.slc e)(hx:ev env x=some (.isl kk (l.map f)))(k:K ((d,.lit (.int .i64 (l.length:Nat)))::env) st):
  SOp P ⟨some d,.call ⟨.builtin .len,#[x],#[t]⟩,ty,pos,aft,gu⟩ env st K:=zg5 rfl (by simp [aop,ziV,zqb,ht,hk,hx]) k
theorem lnM{x:Operand}{t e:TypeId}{ti:TI}{l i n:Nat}(ht:zcg P t=some ti)(hk:ti.k=.slc e)(hx:ev env x=some (.msl l i n))(hl:zsX st (.mpt l 0 0)=true)(k:K ((d,.lit (.int .i64 (n:Nat)))::env) st):
  SOp P ⟨some d,.call ⟨.builtin .len,#[x],#[t]⟩,ty,pos,aft,gu⟩ env st K:=zg5 rfl (by
   simp only [zsX] at hl
   cases hq:st[l]? with
   |none=>rw [hq] at hl;cases hl
   |some b =>
    cases b with
    |none=>rw [hq] at hl;cases hl
    |some b=>simp [aop,ziV,zqb,ht,hk,hx,hq]) k
theorem lnN{x:Operand}{t e:TypeId}{ti:TI}(ht:zcg P t=some ti)(hk:ti.k=.slc e)(hx:ev env x=some (.lit (.slice none 0 0)))(k:K ((d,.lit (.int .i64 0))::env) st):
  SOp P ⟨some d,.call ⟨.builtin .len,#[x],#[t]⟩,ty,pos,aft,gu⟩ env st K:=zg5 rfl (by simp [aop,ziV,zqb,ht,hk,hx]) k
theorem ixS{t:TypeId}{x y:Operand}{ti:TI}{kk:IntKind}{l:List UInt8}{i:Int}{c:UInt8}(ht:zcg P t=some ti)(hk:ti.k=.str)(hx:ev env x=some (.lit (.string (B l))))(hy:ev env y=some (.lit (.int kk i)))(h:idx l i=some c)
  (k:K ((d,.lit (.int .u8 (c.toNat:Int)))::env) st):SOp P ⟨some d,.index t x y,ty,pos,aft,gu⟩ env st K:=zg5 rfl (by
   obtain ⟨h0,_,h1⟩:=zt h
   simp [aop,ht,hk,hx,hy,zEJ,h0,h1]) k
theorem ixI{α:Type}{t e:TypeId}{x y:Operand}{ti te:TI}{kk:IntKind}{sz:Nat}{l:List α}{f:α→List AV}{i:Int}{c:α}(ht:zcg P t=some ti)(hk:ti.k=.slc e)(he:zcg P e=some te)(hs:te.size=sz)(hx:ev env x=some (.isl sz (l.map f)))
  (hy:ev env y=some (.lit (.int kk i))) (h:idx l i=some c) (k:K ((d,.ipt sz (l.map f) i.toNat 0)::env) st):SOp P ⟨some d,.indexAddr t x y,ty,pos,aft,gu⟩ env st K:=zg5 rfl (by
   obtain ⟨h0,h2,h1⟩:=zt h
   have h3:i<(l.length:Int):=by omega
   simp [aop,ht,hk,he,hx,hy,zqa,hs,h0,h3]) k
theorem ixM{α:Type}{t e:TypeId}{x y:Operand}{ti te:TI}{kk:IntKind}{sz b:Nat}{l:List α}{f:α→List AV}{i:Int}{c:α}(ht:zcg P t=some ti)(hk:ti.k=.slc e)(he:zcg P e=some te)(hs:te.size=sz)(hx:ev env x=some (.msl b 0 l.length))
  (hb:st[b]?=some (some (sz,l.map f))) (hy:ev env y=some (.lit (.int kk i))) (h:idx l i=some c) (k:K ((d,.mpt b i.toNat 0)::env) st):SOp P ⟨some d,.indexAddr t x y,ty,pos,aft,gu⟩ env st K:=zg5 rfl (by
   obtain ⟨h0,h2,h1⟩:=zt h
   have h3:i<(l.length:Int):=by omega
   simp [aop,ht,hk,he,hx,hy,zqa,hs,h0,h3,hb]) k
theorem ixX{t e:TypeId}{x y:Operand}{ti te:TI}{kk:IntKind}{i:Int}{v p:AV}(ht:zcg P t=some ti)(hk:ti.k=.slc e)(he:zcg P e=some te)(hx:ev env x=some v)
  (hy:ev env y=some (.lit (.int kk i))) (h:zqa st te.size v i=some p) (k:K ((d,p)::env) st):SOp P ⟨some d,.indexAddr t x y,ty,pos,aft,gu⟩ env st K:=zg5 rfl (by simp [aop,ht,hk,he,hx,hy,h]) k
def zwh(ti:TI)(r:List AV)(j:Nat):Option AV:=
 match ti.k.isAgg with
 |some true=>if j+ti.size≤r.length then some (.agg ((r.drop j).take ti.size)) else none
 |some false=>r[j]?
 |none=>none
theorem zqQ{ti:TI}{p:AV}{r:List AV}{j:Nat}(h:zrz st p=some (r,j)):zud st ti p=zwh ti r j:=by
 unfold zud zwh;rw [h]
 cases ti.k.isAgg with
 |none=>rfl
 |some b=>cases b <;> rfl
theorem ldI{α:Type}{t:TypeId}{x:Operand}{ti:TI}{sz i j:Nat}{l:List α}{f:α→List AV}{c:α}{v:AV}(ht:zcg P t=some ti)(hx:ev env x=some (.ipt sz (l.map f) i j))(h:l[i]?=some c)(hv:zwh ti (f c) j=some v)(k:K ((d,v)::env) st):
  SOp P ⟨some d,.load t x,ty,pos,aft,gu⟩ env st K:=ld ht hx ((zqQ (by simp [zrz,h])).trans hv) k
theorem ldM{α:Type}{t:TypeId}{x:Operand}{ti:TI}{sz b i j:Nat}{l:List α}{f:α→List AV}{c:α}{v:AV}(ht:zcg P t=some ti)(hx:ev env x=some (.mpt b i j))(hb:st[b]?=some (some (sz,l.map f)))(h:l[i]?=some c)(hv:zwh ti (f c) j=some v)(k:K ((d,v)::env) st):
  SOp P ⟨some d,.load t x,ty,pos,aft,gu⟩ env st K:=ld ht hx ((zqQ (by simp [zrz,hb,h])).trans hv) k
theorem slS{t:TypeId}{x:Operand}{lo hi:Option Operand}{ti:TI}{l r:List UInt8}{a b:Int}(ht:zcg P t=some ti)(hk:ti.k=.str)(hx:ev env x=some (.lit (.string (B l))))(hlo:zkO env 0 lo=some a.toNat)(hhi:zkO env l.length hi=some b.toNat)
  (h:zkS l a b=some r) (k:K ((d,.lit (.string (B r)))::env) st):SOp P ⟨some d,.slice t x lo hi none,ty,pos,aft,gu⟩ env st K:=zg5 rfl (by
   unfold zkS at h;split at h
   ·rename_i h1;cases h;have e:zvm (.lit (.string (B l)))=some l.length:=rfl;simp only [aop,ht,hk,hx,e,hlo,hhi];rw [if_pos (by omega)]
   ·cases h) k
theorem slI{α:Type}{t e:TypeId}{x:Operand}{lo hi:Option Operand}{ti te:TI}{sz:Nat}{l r:List α}{f:α→List AV}{a b:Int}(ht:zcg P t=some ti)(hk:ti.k=.slc e)(he:zcg P e=some te)(hs:te.size=sz)(hx:ev env x=some (.isl sz (l.map f)))
  (hlo:zkO env 0 lo=some a.toNat) (hhi:zkO env l.length hi=some b.toNat) (h:zkS l a b=some r) (k:K ((d,.isl sz (r.map f))::env) st):SOp P ⟨some d,.slice t x lo hi none,ty,pos,aft,gu⟩ env st K:=zg5 rfl (by
   unfold zkS at h;split at h
   ·rename_i h1;cases h
    have e':zvm (.isl sz (l.map f))=some l.length:=by simp [zvm]
    simp only [aop,ht,hk,hx,e',he,hlo,hhi,zC5];rw [if_pos ⟨hs.symm,by omega,by rw [QQ];omega⟩];simp [List.map_drop,List.map_take]
   ·cases h) k
theorem pc{c:Call}{g:FuncId}{args:List AV}{res:AV}(h:zan P g args res)(hc:zhF (.call c)=true)(hg:zo2 env (.call c)=some (g,args))(hi:ziv args=true)(k:K ((d,res)::env) st):SOp P ⟨some d,.call c,ty,pos,aft,gu⟩ env st K:=by
 unfold SOp;simp only [hc,hg];exact zsN h (zgS hi) k
theorem pcs{c:Call}{g:FuncId}{args args':List AV}{res:AV}(h:zan P g args' res)(hc:zhF (.call c)=true)(hg:zo2 env (.call c)=some (g,args))(hs:zvp st args args')(hp:zo0 res)(k:K ((d,res)::env) st):SOp P ⟨some d,.call c,ty,pos,aft,gu⟩ env st K:=by
 unfold SOp;simp only [hc,hg];exact zwj h hp hs k
theorem sc(L:List Nat){c:Call}{g:FuncId}{args args0:List AV}{bs0 bs1:List SB}{av:AV}(h:SC P g args0 bs0 av bs1)(hc:zhF (.call c)=true)(hg:zo2 env (.call c)=some (g,args))(hnd:zuS L=true)(hlt:zyX st.length L=true)
  (ha:zBg (fun i=>L[i]?) args0 args) (hs:InB (fun i=>L[i]?) st L bs0) (k:K ((d,rn (tau L st.length) av)::env) (zGe L st bs1)):SOp P ⟨some d,.call c,ty,pos,aft,gu⟩ env st K:=by
 unfold SOp;simp only [hc,hg];refine zwi h.2 L (by rw [zpI];exact hs.at.1) (zpY hnd) (zuc hlt) ha.get.1 ha.get.2 ⟨fun i l hl=>hs.at.2 i l hl,fun i kk els he=>?_,fun i1 i2 x h1 h2=>?_⟩ ?_
 ·have:i<(SBs bs0).length:=(Qb.1 he).1;rw [zpI,←hs.at.1] at this;exact ⟨L[i],Qe this⟩
 ·obtain ⟨l1,e1⟩:=Qb.1 h1;obtain ⟨l2,e2⟩:=Qb.1 h2;exact (List.getElem_inj (zpY hnd)).1 (e1.trans e2.symm)
 ·rintro a s ⟨rfl,rfl⟩;rw [←zEQ h.1];exact k
theorem apM{α:Type}{x y:Operand}{t u' e:TypeId}{ti te tu:TI}{e':TypeId}{sz b w:Nat}{l z r:List α}{f:α→List AV}{v:AV}(nn:Nat)(ht:zcg P t=some ti)(hk:ti.k=.slc e)(he:zcg P e=some te)(hs:te.size=sz)(hw:te.bytes=w)(hz:0<sz)(hu:zcg P u'=some tu)(hku:tu.k=.slc e')
  (hx:ev env x=some (.msl b 0 l.length)) (hb:st[b]?=some (some (sz,l.map f))) (hy:ev env y=some v) (hr:zje st sz v=some (z.map f)) (h1:∀x,(f x).all AV.one=true) (hn:st.length=nn) (h:zhj w l z=some r)
  (k:K ((d,.msl nn 0 r.length)::env) (st.set b none++[some (sz,r.map f)])):SOp P ⟨some d,.call ⟨.builtin .append,#[x,y],#[t,u']⟩,ty,pos,aft,gu⟩ env st K:=zg5 rfl (by
   obtain ⟨rfl,h2,h3⟩:=zug h
   have h4:zkt (z.map f)=true:=by unfold zkt;rw [List.all_map];simp [h1]
   have hbo:zqd st sz (.msl b 0 l.length)=some (l.map f,st.set b none):=by simp [zqd,hb,zpC]
   simp only [aop,ziV,zt4,ht,hx,hy,hu,hk,he,hs,hbo,hku,hr];rw [if_pos ⟨hz,h4,by simpa [hw] using h2,by simpa using h3⟩]
   simp [hn]) k
theorem apN{α:Type}{x y:Operand}{t u' e:TypeId}{ti te tu:TI}{e':TypeId}{sz w:Nat}{z r:List α}{f:α→List AV}{v:AV}(nn:Nat)(ht:zcg P t=some ti)(hk:ti.k=.slc e)(he:zcg P e=some te)(hs:te.size=sz)(hw:te.bytes=w)(hz:0<sz)(hu:zcg P u'=some tu)(hku:tu.k=.slc e')
  (hx:ev env x=some (.lit (.slice none 0 0))) (hy:ev env y=some v) (hr:zje st sz v=some (z.map f)) (h1:∀x,(f x).all AV.one=true) (hn:st.length=nn) (h:zhj w [] z=some r)
  (k:K ((d,.msl nn 0 r.length)::env) (st++[some (sz,r.map f)])):SOp P ⟨some d,.call ⟨.builtin .append,#[x,y],#[t,u']⟩,ty,pos,aft,gu⟩ env st K:=zg5 rfl (by
   obtain ⟨hq,h2,h3⟩:=zug h
   have hq':z=r:=by simpa using hq.symm
   subst hq'
   have h4:zkt (z.map f)=true:=by unfold zkt;rw [List.all_map];simp [h1]
   simp only [aop,ziV,zt4,ht,hx,hy,hu,hk,he,hs,zqd,hku,hr];rw [if_pos ⟨hz,h4,by simpa [hw] using h2,by simpa using h3⟩]
   simp [hn]) k
theorem roI{α:Type}{sz:Nat}{z:List α}{f:α→List AV}:zje st sz (.isl sz (z.map f))=some (z.map f):=by simp [zje]
theorem roM{α:Type}{sz b:Nat}{z:List α}{f:α→List AV}(hb:st[b]?=some (some (sz,z.map f))):zje st sz (.msl b 0 z.length)=some (z.map f):=by simp [zje,hb,zpC]
theorem bd{t:TypeId}{ps:Array (Nat×Operand)}{ti:TI}{pl:List (Nat×Nat)}{parts:List (Nat×AV)}{cs:List AV}(ht:zcg P t=some ti)(hk:ti.k=.agg pl)(hp:zly env ps.toList=some parts)(h:zvF pl (zbA ti.zero) parts=some cs)(k:K ((d,.agg cs)::env) st):
  SOp P ⟨some d,.build t ps,ty,pos,aft,gu⟩ env st K:=zg5 rfl (by simp [aop,ht,hk,hp,h]) k
theorem bl{t e:TypeId}{len:Nat}{ps:Array (Nat×Operand)}{ti te:TI}{parts:List (Nat×AV)}{rows:List (List AV)}{sz:Nat}(nn:Nat)(ht:zcg P t=some ti)(hk:ti.k=.slc e)(he:zcg P e=some te)(hs:te.size=sz)(hz:0<sz)(hl:len*sz≤16777216)(hp:zly env ps.toList=some parts)
  (h:zx0 sz (List.replicate len (zbA te.zero)) parts=some rows) (hn:st.length=nn) (k:K ((d,.msl nn 0 len)::env) (st++[some (sz,rows)])):SOp P ⟨some d,.buildSlice t len ps,ty,pos,aft,gu⟩ env st K:=zg5 rfl (by
   simp only [aop,ht,hk,he,hp,hs,h];rw [if_pos ⟨hz,hl⟩]
   simp [hn]) k
end
theorem ci{st:St}{L:zgC}{v:AV}(h:zzN v=true):Rs st L v v:=.imm (znl h)
theorem ce{st:St}{L:zgC}{t:Nat}{v:AV}{e0 env:Ev}(h1:look env t=some v)(h2:zzN v=true)(r:zln st L e0 env):zln st L ((t,v)::e0) env:=⟨⟨v,h1,ci h2⟩,r⟩
theorem cv{st:St}{L:zgC}{t:Nat}{v0 v:AV}{e0 env:Ev}(h1:look env t=some v)(h2:Rs st L v0 v)(r:zln st L e0 env):zln st L ((t,v0)::e0) env:=⟨⟨v,h1,h2⟩,r⟩
theorem cn{st:St}{L:zgC}{env:Ev}:zln st L [] env:=trivial
theorem zgo{α:Type}{st:St}{L:zgC}{l:List α}{f:α→List AV}(h:∀x,ziv (f x)=true):zsk st L (l.map f) (l.map f):=
 ⟨rfl,fun i hi _=>⟨rfl,fun j hj _=>.imm (by
  obtain ⟨y,_,hy⟩:=QS.1 (Qi hi);have:=(zgS (h y)).mem;rw [hy] at this
  exact this _ (Qi hj))⟩⟩
def zt0(st:St)(L:zgC):List AV→List AV→Prop
 | [],[]=>True
 |x ::l,y ::r=>Rs st L x y∧zt0 st L l r
 |_,_=>False
theorem zt0.get{st:St}{L:zgC}:∀{l r:List AV},zt0 st L l r→l.length=r.length∧∀i (h:i<l.length) (h':i<r.length),Rs st L l[i] r[i]
 | [],[],_=>⟨rfl,fun i h=>by cases h⟩
 | [],_ :: _,h=>h.elim
 |_ :: _,[],h=>h.elim
 |x ::l,y ::r,h=>by
  obtain ⟨h1,h2⟩:=zt0.get h.2;refine ⟨by simp [h1],fun i hi hi'=>?_⟩
  cases i with
  |zero=>exact h.1
  |succ i=>exact h2 i (by simpa using hi) (by simpa using hi')
def zvo(st:St)(L:zgC):List (List AV)→List (List AV)→Prop
 | [],[]=>True
 |x ::l,y ::r=>zt0 st L x y∧zvo st L l r
 |_,_=>False
theorem zfU{st:St}{L:zgC}{r0 r:List AV}(h:zt0 st L r0 r):zsk st L [r0] [r]:=
 ⟨rfl,fun i hi _=>by
  have:i=0:=by simp at hi;exact hi
  subst this
  exact ⟨h.get.1,fun j h1 h2=>h.get.2 j h1 h2⟩⟩
theorem zoa{st:St}{L:zgC}:∀{l r:List (List AV)},zvo st L l r→zsk st L l r
 | [],[],_=>⟨rfl,fun i h=>by cases h⟩
 | [],_ :: _,h=>h.elim
 |_ :: _,[],h=>h.elim
 |x ::l,y ::r,h=>by
  obtain ⟨h1,h2⟩:=zoa h.2;refine ⟨by simp [h1],fun i hi hi'=>?_⟩
  cases i with
  |zero=>exact ⟨h.1.get.1,fun j a b=>h.1.get.2 j a b⟩
  |succ i=>exact h2 i (by simpa using hi) (by simpa using hi')
theorem ztP{st:St}{L:zgC}{l r:List AV}(h:zt0 st L l r):Rs st L (.agg l) (.agg r):=.agg h.get.1 h.get.2
theorem zHh{st:St}{L:zgC}{f:Fn}{a a' b b':List AV}(h:zt0 st L a a')(h':zt0 st L b b'):Rs st L (.fn f a b) (.fn f a' b'):=.fn h.get.1 h.get.2 h'.get.1 h'.get.2
theorem zsg{st:St}{L:zgC}{l r:List AV}(h:zt0 st L l r):Rs st L (.tup l) (.tup r):=.tup h.get.1 h.get.2
theorem zkg{α:Type}{st:St}{L:zgC}{b sz:Nat}{l:List α}{f:α→List AV}(hD:zvM L b=false)(hb:st[b]?=some (some (sz,l.map f)))(h:∀x,ziv (f x)=true):Rs st L (.isl sz (l.map f)) (.msl b 0 l.length):=
 .sl hD hb (by simp) (by simp) (fun r hr x hx=>by obtain ⟨y,_,rfl⟩:=QS.1 hr;exact (zgS (h y)).mem x hx) (fun q _ _ _=>by simp) (fun q _ _ h2 j _ h4=>by
  have:(l.map f)[0+q]'(by simpa using h2)=(l.map f)[q]:=by simp
  simp only [this]
  exact .imm ((zgS (h l[q])).mem _ (by simp)))
def RsX(st:St)(L:zgC):List (List AV)→List (List AV)→Prop
 | [],[]=>True
 |r0 ::l,r ::q=>(zt0 st L r0 r∧ziv r0=true)∧RsX st L l q
 |_,_=>False
theorem RsX.get{st:St}{L:zgC}:∀{l r:List (List AV)},RsX st L l r→l.length=r.length∧∀i (h:i<l.length) (h':i<r.length),zt0 st L l[i] r[i]∧ziv l[i]=true
 | [],[],_=>⟨rfl,fun i h=>by cases h⟩
 | [],_ :: _,h=>h.elim
 |_ :: _,[],h=>h.elim
 |x ::l,y ::r,h=>by
  obtain ⟨h1,h2⟩:=RsX.get h.2;refine ⟨by simp [h1],fun i hi hi'=>?_⟩
  cases i with
  |zero=>exact h.1
  |succ i=>exact h2 i (by simpa using hi) (by simpa using hi')
theorem zm5{st:St}{L:zgC}{b sz n:Nat}{els els':List (List AV)}(hD:zvM L b=false)(hb:st[b]?=some (some (sz,els)))(h:RsX st L els' els)(hn:els.length=n:=by rfl):Rs st L (.isl sz els') (.msl b 0 n):=by
 subst hn;refine .sl hD hb (by simp) h.get.1 (fun r hr x hx=>?_) (fun q _ h1 h2=>?_) (fun q _ h1 h2 j h3 h4=>?_)
 ·obtain ⟨i,hi,rfl⟩:=JH hr;exact (zgS (h.get.2 i hi (by rw [←h.get.1];exact hi)).2).mem x hx
 ·have:=(h.get.2 q h2 (by omega)).1.get.1;simp only [QZ];exact this.symm
 ·have:=(h.get.2 q h2 (by omega)).1.get.2 j h4 (by simpa using h3);simpa using this
theorem zdq{α:Type}{sz:Nat}{l:List α}{f:α→List AV}(h:∀x,ziv (f x)=true):(SB.many sz (l.map f)).ok:=fun r hr x hx=>by
 obtain ⟨y,_,rfl⟩:=QS.1 hr;exact (zgS (h y)).mem x hx
def OW(n nb0:Nat)(K:Ev→St→Prop)(env:Ev)(st:St):Prop:=∀A m w a,nb0≤st.length→R A m w st→Env A m st.length w n env a→zks A m nb0 w n K a w
theorem zA{n nb0:Nat}{K:Ev→St→Prop}{env:Ev}{st:St}(h:K env st):OW n nb0 K env st:=fun A m w a h0 hR hE=>⟨A,m,env,st,hR,hE,ze0.refl0 _ _ _ _ h0,h⟩
theorem zvg{P:Program}{n nb0:Nat}{env:Ev}{st:St}{id:Nat}{c:Code}{Q:Exit→Ev→St→Prop}{X B R:Type}(E:X→Ev)(S:X→St)(E':B→Ev)(S':B→St)(post:R→Ev→St→Prop){body:X→Option (Sum X (Sum B R))}{z0:X}{o:Sum B R}
  (ho:zr body z0=some o) (hc:Can nb0 (E z0) (S z0) env st) (round:∀z r,body z=some r→SW P n nb0 c (LQ id nb0 E S E' S' post r) (E z) (S z))
  (hb:∀b,o=.inl b→OW n nb0 (Q .normal) (E' b) (S' b)) (hr:∀r,o=.inr r→∀env st,post r env st→Q .ret env st):SW P n nb0 (.block id (.loop c)) Q env st:=by
 obtain ⟨N,hN⟩:=zno ho
 have key:SW P n nb0 (.block id (.loop c)) (fun e env st=>match e with |.normal=>∃b,o=.inl b∧Can nb0 (E' b) (S' b) env st |e=>Q e env st) env st:=by
  refine zs (zwr (fun k env st=>∃z,zkr body k z=some o∧Can nb0 (E z) (S z) env st) N ⟨z0,hN,hc⟩ ?_);rintro k env st ⟨z,hz,hcan⟩
  cases k with
  |zero=>cases hz
  |succ k =>
   unfold zkr at hz
   cases hbz:body z with
   |none=>rw [hbz] at hz;cases hz
   |some r =>
    rw [hbz] at hz;refine zsP hcan ((round z r hbz).mono fun e env st h=>?_)
    cases e with
    |normal =>
     obtain ⟨z',rfl,h2⟩:=h;exact ⟨k,QE k,z',hz,h2⟩
    |exit i =>
     obtain ⟨rfl,b,rfl,h2⟩:=h;simp only [zyF,zqS,if_true];exact ⟨b,(sm hz).symm,h2⟩
    |ret =>
     obtain ⟨r',rfl,h2⟩:=h;exact hr r' (sm hz).symm env st h2
    |goto l=>exact h.elim
    |panic c=>exact h.elim
    |outgrown=>exact h.elim
 intro A m w a h0 hR hE;refine wp_mono (key A m w a h0 hR hE) fun e a' w' ho=>?_
 cases e with
 |normal =>
  obtain ⟨A',m',e',s',k1,k2,k3,b,hob,L,h1,h2,h3,h4,h5⟩:=ho;have hs:=zyO.of h2 h3;exact (hb b hob _ _ _ _ h5 (k1.rs hs) (k2.rs k1 hs h1)).trans (k3.rs hs h4 h5)
 |exit i=>exact ho
 |ret=>exact ho
 |goto l=>exact ho
 |panic c=>exact ho
 |outgrown=>exact ho
section
variable {P : Program} {env : Ev} {st : St} {K : Ev → St → Prop} {d : Nat} {ty : TypeId} {pos : String} {aft : Array Edge} {gu : Option (Nat × Bool)}
theorem roX{α:Type}{sz b n:Nat}{z:List α}{f:α→List AV}(hb:st[b]?=some (some (sz,z.map f)))(hn:n=z.length):zje st sz (.msl b 0 n)=some (z.map f):=by subst hn;exact roM hb
theorem zwK{α:Type}{l r:List α}{a b:Int}(h:zkS l a b=some r):0≤a∧a≤b∧b≤l.length:=by
 unfold zkS at h;split at h
 ·assumption
 ·cases h
theorem zwD{α:Type}{l r:List α}{a b:Int}{x:Operand}{k:Nat}(hx:ev env x=some (.lit (.int .i64 a)))(h:zkS l a b=some r):zkO env k (some x)=some a.toNat:=by
 simp [zkO,hx,zz3,(zwK h).1]
theorem zqT{α:Type}{l r:List α}{a b:Int}{x:Operand}{k:Nat}(hx:ev env x=some (.lit (.int .i64 b)))(h:zkS l a b=some r):zkO env k (some x)=some b.toNat:=by
 have:=zwK h;simp [zkO,hx,zz3,show 0≤b by omega]
end
theorem si{st:St}{v:AV}(h:zzN v=true):zpF st v v:=.imm (znl h)
def zo1(st:St):List AV→List AV→Prop
 | [],[]=>True
 |x ::l,y ::r=>zpF st x y∧zo1 st l r
 |_,_=>False
theorem zo1.get{st:St}:∀{l r:List AV},zo1 st l r→l.length=r.length∧∀i (h:i<l.length) (h':i<r.length),zpF st l[i] r[i]
 | [],[],_=>⟨rfl,fun i h=>by cases h⟩
 | [],_ :: _,h=>h.elim
 |_ :: _,[],h=>h.elim
 |x ::l,y ::r,h=>by
  obtain ⟨h1,h2⟩:=zo1.get h.2;refine ⟨by simp [h1],fun i hi hi'=>?_⟩
  cases i with
  |zero=>exact h.1
  |succ i=>exact h2 i (by simpa using hi) (by simpa using hi')
theorem ziS{α:Type}{st:St}{b sz:Nat}{l:List α}{f:α→List AV}(hb:st[b]?=some (some (sz,l.map f)))(h:∀x,ziv (f x)=true):zpF st (.msl b 0 l.length) (.isl sz (l.map f)):=
 .msl hb (by simp) (by simp) (fun q _ _ _=>by simp) (fun q _ _ h2 j _ h4=>by
  have:(l.map f)[0+q]'(by simpa using h2)=(l.map f)[q]:=by simp
  simp only [this];refine .imm ?_;obtain ⟨y,_,hy⟩:=QS.1 (Qi h2);have h6:=(zgS (h y)).mem;rw [hy] at h6
  exact h6 _ (Qi h4))
def zyP(st:St):List (List AV)→List (List AV)→Prop
 | [],[]=>True
 |x ::l,y ::r=>zo1 st x y∧zyP st l r
 |_,_=>False
theorem zyP.get{st:St}:∀{l r:List (List AV)},zyP st l r→l.length=r.length∧∀i (h:i<l.length) (h':i<r.length),zo1 st l[i] r[i]
 | [],[],_=>⟨rfl,fun i h=>by cases h⟩
 | [],_ :: _,h=>h.elim
 |_ :: _,[],h=>h.elim
 |x ::l,y ::r,h=>by
  obtain ⟨h1,h2⟩:=zyP.get h.2;refine ⟨by simp [h1],fun i hi hi'=>?_⟩
  cases i with
  |zero=>exact h.1
  |succ i=>exact h2 i (by simpa using hi) (by simpa using hi')
theorem zFY{st:St}{b sz n:Nat}{els els':List (List AV)}(hb:st[b]?=some (some (sz,els)))(h:zyP st els els')(hn:els.length=n:=by rfl):zpF st (.msl b 0 n) (.isl sz els'):=by
 subst hn;refine .msl hb (by simp) h.get.1.symm (fun q _ h1 h2=>?_) (fun q _ h1 h2 j h3 h4=>?_)
 ·have:=(h.get.2 q (by omega) h2).get.1;simp only [QZ];exact this
 ·have:=(h.get.2 q (by omega) h2).get.2 j (by simpa using h3) h4;simpa using this
theorem zay{st:St}{b k j:Nat}{cs cs':List AV}(hb:st[b]?=some (some (k,[cs])))(h:zo1 st cs cs'):zpF st (.mpt b 0 j) (.ipt k [cs'] 0 j):=by
 refine .mpt hb rfl (fun q h1 h2=>?_) (fun q h1 h2 i h3 h4=>?_)
 ·have:q=0:=by simp at h1;exact h1
  subst this;exact h.get.1
 ·have:q=0:=by simp at h1;exact h1
  subst this;exact h.get.2 i h3 h4
theorem zfW{st:St}{f:Fn}{a a' b b':List AV}(h:zo1 st a a')(h':zo1 st b b'):zpF st (.fn f a b) (.fn f a' b'):=.fn h.get.1 h.get.2 h'.get.1 h'.get.2
mutual
def plB:AV→Bool
 |.any=>true
 |.lit _=>true
 |.agg cs=>zGb cs
 |.tup cs=>zGb cs
 |_=>false
def zGb:List AV→Bool
 | []=>true
 |x ::l=>plB x&&zGb l
end
inductive zsj:List AV→Prop
 |nil:zsj []
 |cons {x l} (h:zo0 x) (t:zsj l):zsj (x ::l)
theorem zsj.mem{l:List AV}(h:zsj l):∀x∈l,zo0 x:=by
 induction h with
 |nil=>exact fun x hx=>by cases hx
 |cons h _ ih =>
  intro x hx
  rcases Qr.1 hx with h1 |h1
  ·exact h1 ▸ h
  ·exact ih x h1
mutual
theorem zDr:∀{x:AV},plB x=true→zo0 x
 |.any,_=>.any
 |.lit v,_=>.lit v
 |.isl _ _,h=>by cases h
 |.ipt _ _ _ _,h=>by cases h
 |.msl _ _ _,h=>by cases h
 |.mpt _ _ _,h=>by cases h
 |.fn _ _ _,h=>by cases h
 |.agg cs,h=>.agg cs (zv8 h).mem
 |.tup cs,h=>.tup cs (zv8 h).mem
theorem zv8:∀{l:List AV},zGb l=true→zsj l
 | [],_=>.nil
 |x ::l,h=>.cons (zDr (QT.1 h).1) (zv8 (QT.1 h).2)
end
theorem za9{v:AV}(h:plB v=true:=by rfl):zo0 v:=zDr h
theorem mkI{α:Type}{l:List α}{f:α→List AV}(h:∀x,ziv (f x)=true):∀r∈l.map f,∀x∈r,Imm x:=fun r hr x hx=>by
 obtain ⟨y,_,rfl⟩:=QS.1 hr;exact (zgS (h y)).mem x hx
inductive Nl:AV→AV→Prop
 |imm {x} (h:Imm x):Nl x x
 |nil {k}:Nl (.lit (.slice none 0 0)) (.isl k [])
 |agg {cs cs':List AV} (hl:cs.length=cs'.length) (hr:∀i (h:i<cs.length) (h':i<cs'.length),Nl cs[i] cs'[i]):Nl (.agg cs) (.agg cs')
theorem Nl.vi{A:Nat→Prop}{w:World}{x y:AV}(h:Nl x y):∀{v m nb},V A m nb w x v→VI A w y v:=by
 induction h with
 |imm h=>exact fun hv=>h.vi hv
 |nil=>intro v m nb hv;rw [hv.lit_inv];exact .inil _ _ _
 |agg hl hr ih =>
  intro v m nb hv;obtain ⟨a,rfl,h1,h2⟩:=hv.agg_inv;exact .agg _ _ (by omega) fun i hi=>ih i (by omega) hi (h2 i (by omega))
def NlL:List AV→List AV→Prop
 | [],[]=>True
 |x ::l,y ::r=>Nl x y∧NlL l r
 |_,_=>False
theorem NlL.get:∀{l r:List AV},NlL l r→l.length=r.length∧∀i (h:i<l.length) (h':i<r.length),Nl l[i] r[i]
 | [],[],_=>⟨rfl,fun i h=>by cases h⟩
 | [],_ :: _,h=>h.elim
 |_ :: _,[],h=>h.elim
 |x ::l,y ::r,h=>by
  obtain ⟨h1,h2⟩:=NlL.get h.2;refine ⟨by simp [h1],fun i hi hi'=>?_⟩
  cases i with
  |zero=>exact h.1
  |succ i=>exact h2 i (by simpa using hi) (by simpa using hi')
theorem nlI{v:AV}(h:zzN v=true):Nl v v:=.imm (znl h)
theorem nlN{k:Nat}:Nl (.lit (.slice none 0 0)) (.isl k []):=.nil
theorem nlA{cs cs':List AV}(h:NlL cs cs'):Nl (.agg cs) (.agg cs'):=.agg h.get.1 h.get.2
theorem pcn{P:Program}{env:Ev}{st:St}{K:Ev→St→Prop}{d:Nat}{ty:TypeId}{pos:String}{aft:Array Edge}{gu:Option (Nat×Bool)}{c:Call}{g:FuncId}{args args':List AV}{res:AV}(h:zan P g args' res)
  (hc:zhF (.call c)=true) (hg:zo2 env (.call c)=some (g,args)) (hi:NlL args args') (k:K ((d,res)::env) st):SOp P ⟨some d,.call c,ty,pos,aft,gu⟩ env st K:=by
 unfold SOp;simp only [hc,hg];refine ⟨h.1,fun A m w vals hR hv=>(h.2 A w vals hR.aLow ⟨by rw [←hi.get.1];exact hv.1,fun i hi'=>(hi.get.2 i (by rw [hi.get.1];exact hi') hi').vi (hv.2 i (by rw [hi.get.1];exact hi'))⟩).mono fun e w' ⟨v,he,hg,hvi⟩=>?_⟩;obtain ⟨h1,h2⟩:=hR.grow (A':=zyZ A w w') hg (fun B hB=>.inl hB) (fun B hB=>hB);exact ⟨v,_,m,st,res,he,h1,h2,.imm hvi,k⟩
theorem rnI{ρ:Nat→Option Nat}{v:AV}(h:zzN v=true):Rn ρ v v:=.imm (znl h)
def zsi(all:List Oper)(s i:Nat):Bool:=
 match all[s]? with
 |some o=>o.after.toList.any fun e=>Region.binds .any e&&Nat.beq e.on i
 |none=>false
def zv7(all:List Oper)(i:Nat):List Nat→Bool
 | []=>true
 |s ::p=>(!zsi all s i)&&zv7 all i p
def ziU(all:List Oper)(ss p en:List Nat)(i:Nat):Bool:=
 match all[i]? with
 |some o=>o.after.toList.all fun e=>!Region.binds .any e||(if zfz e.on ss then zfz e.on p else zfz e.on en)
 |none=>false
def zhS(all:List Oper)(ss p en:List Nat):Bool:=
 (List.range all.length).all fun i=>zfz i ss||zfz i en||!ziU all ss p en i
def zlo(p:List Nat):List Nat→Bool
 | []=>true
 |s ::r=>zfz s p&&zlo p r
def zCf(all:List Oper)(i:Nat):Nat→List Oper→List Tmp
 |_,[]=>[]
 |k,o ::r=>match o.dst with
  |some t=>if zsi all k i then zCf all i (k+1) r else t ::zCf all i (k+1) r
  |none=>zCf all i (k+1) r
def ea(all:List Oper)(e0:Ev)(i:Nat):Ev:=zo9 (zCf all i 0 all) e0
theorem zxc{all:List Oper}{i:Nat}:∀{l:List Oper} {k:Nat} {j:Nat} {t:Tmp},zhA l j=some t→zsi all (k+j) i=false→t∈zCf all i k l
 | [],k,j,t,h,_=>by simp [zhA] at h
 |o ::l,k,0,t,h,hw=>by
  have hd:o.dst=some t:=by simpa [zhA] using h
  unfold zCf;rw [hd];simp only [Jf] at hw;simp [hw]
 |o ::l,k,j+1,t,h,hw=>by
  have h1:t∈zCf all i (k+1) l:=zxc (j:=j) (by simpa [zhA] using h) (by rw [QN,J1 1];exact hw);unfold zCf;split
  ·split
   ·exact h1
   ·exact Jh _ h1
  ·exact h1
theorem zDX{all:List Oper}{e0:Ev}{i:Nat}{t:Tmp}{v:AV}(h:look (ea all e0 i) t=some v):look e0 t=some v∧∀j,zhA all j=some t→zsi all j i=true:=by
 refine ⟨zla.2 v h,fun j hj=>?_⟩
 cases hw:zsi all j i with
 |true=>rfl
 |false =>
  have:=(zla (e:=e0) (ds:=zCf all i 0 all) (t:=t)).1 (zxc (k:=0) hj (by rw [QZ];exact hw));unfold ea at h;rw [this] at h;cases h
def zi6(P:Program)(all:List Oper)(env0 F:Ev)(st:St)(i:Nat):Prop:=
 match all[i]? with
 |some o=>∃v,(match o.dst with |some t=>look F t=some v |none=>True)∧zC1 P all (ea all env0 i) st F o v
 |none=>False
def zvl(P:Program)(all:List Oper)(env0 F:Ev)(st:St)(p:List Nat):List Nat→Prop
 | []=>True
 |i ::r=>(zv7 all i p=true→zi6 P all env0 F st i)∧zvl P all env0 F st p r
theorem zvl.at{P all env0 F st p}:∀{l:List Nat},zvl P all env0 F st p l→∀i,zfz i l=true→zv7 all i p=true→zi6 P all env0 F st i
 | [],_,i,h,_=>by cases h
 |x ::l,h,i,hm,hp=>by
  simp only [zfz,Qw] at hm
  rcases hm with h1 |h1
  ·have:=Qj h1;subst this;exact h.1 hp
  ·exact zvl.at h.2 i h1 hp
def zdM:Ev→List Nat
 | []=>[]
 |(t,_)::e=>t ::zdM e
def zjz(all:List Oper)(l:List Nat):List Nat→Bool
 | []=>true
 |k ::r=>(l.any fun j=>match zhA all j with |some t=>Nat.beq t k |none=>false)&&zjz all l r
theorem zou{all:List Oper}{l:List Nat}:∀{ks:List Nat},zjz all l ks=true→∀k∈ks,∃j,zfz j l=true∧zhA all j=some k
 | [],_,k,h=>by cases h
 |x ::r,h,k,hk=>by
  simp only [zjz,Qd] at h
  rcases Qr.1 hk with rfl |hk
  ·obtain ⟨j,h1,h2⟩:=QJ.1 h.1;refine ⟨j,zij.2 h1,?_⟩;split at h2
   ·rename_i t ht;rw [ht,Qj h2]
   ·cases h2
  ·exact zou h.2 k hk
def DT(P:Program)(all:List Oper)(ss:List Nat)(env0:Ev)(K:Ev→St→Prop):Nat→List Nat→List Nat→Ev→St→Prop
 | 0,p,en,F,st=>zvl P all env0 F st p en∧zhS all ss p en=true∧zlo p ss=true∧K (F++zo9 (zwO all) env0) st
 |n+1,p,en,F,st=>zvl P all env0 F st p en∧zhS all ss p en=true∧zlo p ss=false∧∀s,zfz s ss=true→zfz s p=false→ziU all ss p en s=true →
   match all[s]? with
   |some o=>zl4 (sel F (ea all env0 s) (zff all o.after.toList)) (zj1 all o.guard)=some true∧zt2 P o.op (sel F (ea all env0 s) (zff all o.after.toList)) st (fun av st'=>∃en' new,
     zdY (zdM new) F=true∧zjz all ((s ::p)++(en'++en)) (zdM new)=true∧(match o.dst with |some t=>look (new++F) t=some av |none=>True)∧DT P all ss env0 K n (s ::p) (en'++en) (new++F) st')
   |none=>False
theorem zk5:∀{e:Ev} {t:Nat} {v:AV},look e t=some v→t∈zdM e
 | [],t,v,h=>by cases h
 |(k,x)::e,t,v,h=>by
  simp only [look] at h;split at h
  ·rename_i e';subst e';simp [zdM]
  ·simp [zdM,zk5 h]
theorem zB4{new F:Ev}(hk:zdY (zdM new) F=true){t:Nat}{v:AV}(h:look F t=some v):look (new++F) t=some v:=by
 have h1:=zeF hk h
 have:∀{e:Ev},t ∉ zdM e→look (e++F) t=some v:=fun {e}=>by
  induction e with
  |nil=>intro _;exact h
  |cons p e ih =>
   obtain ⟨k,x⟩:=p;intro hn;simp only [zdM,Qr,not_or] at hn;simp only [JR,look,if_neg (Ne.symm hn.1)];exact ih hn.2
 exact this h1
theorem zxG{all:List Oper}{s i:Nat}{o:Oper}(ho:all[s]?=some o)(h:zsi all s i=true):∃e∈o.after.toList,Region.binds .any e=true∧e.on=i:=by
 unfold zsi at h;rw [ho] at h;simp only [QJ,Qd] at h;obtain ⟨e,h1,h2,h3⟩:=h;exact ⟨e,h1,h2,Qj h3⟩
theorem zsn{p:List Nat}:∀{l:List Nat},(∀s,zfz s l=true→zfz s p=true)→zlo p l=true
 | [],_=>rfl
 |x ::l,h=>by
  unfold zlo;rw [h x (by simp [zfz]),zsn fun s hs=>h s (by simp [zfz,hs])];rfl
theorem zub{p:List Nat}:∀{l:List Nat},zlo p l=true→∀s,zfz s l=true→zfz s p=true
 | [],_,s,h=>by cases h
 |x ::l,h,s,hs=>by
  simp only [zlo,Qd] at h;simp only [zfz,Qw] at hs
  rcases hs with h1 |h1
  ·rw [←Qj h1];exact h.1
  ·exact zub h.2 s h1
theorem zvZ{s:Nat}:∀{l r:List Nat},zfz s (l++r)=true↔zfz s l=true∨zfz s r=true
 |l,r=>by simp only [zij,Qu]
theorem zrp{s x:Nat}{l:List Nat}:zfz s (x ::l)=true↔s=x∨zfz s l=true:=by simp only [zij,Qr]
theorem zAq{all:List Oper}{i:Nat}:∀{p:List Nat},(∀s,zfz s p=true→zsi all s i=false)→zv7 all i p=true
 | [],_=>rfl
 |s ::p,h=>by
  unfold zv7;rw [h s (by simp [zfz]),zAq fun s hs=>h s (by simp [zfz,hs])];rfl
def zDz(all:List Oper)(F:Ev)(env0:Ev)(listed:Array Bool)(t:Tmp)(v:AV):Prop:=
 (look env0 t=some v∧∀j,zhA all j=some t→listed.getD j false=false)∨∃j,listed.getD j false=true∧zhA all j=some t∧look F t=some v
theorem zCX{P:Program}{ops:Array Oper}{ss:List Nat}{env0:Ev}{K:Ev→St→Prop}{n nb0:Nat}{Q:Exit→Act→World→Prop}{A0:Nat→Prop}{m0:BM}{w0:World}
  (hok:zs1 n ops.toList=true) (hss:∀s,zfz s ss=true→s<ops.size)
  (hQ:∀a w,zks A0 m0 nb0 w0 n K a w→Q .normal a w):
  ∀(fuel:Nat) (k:Nat) (p en:List Nat) (F:Ev) (st:St) (listed:Array Bool) (A:Nat→Prop) (m:BM) (w:World) (a:Act),DT P ops.toList ss env0 K k p en F st →
   (∀i,zfz i p=true→listed.getD i false=true)→(∀i,zfz i ss=true→listed.getD i false=true→zfz i p=true)→(∀i,listed.getD i false=true→zfz i ss=false→zfz i en=true) →
   (∀s i,listed.getD s false=true→zsi ops.toList s i=true→listed.getD i false=true)→(∀t v,look F t=some v→∃j,zhA ops.toList j=some t) →
   (∀j t,listed.getD j false=true→zhA ops.toList j=some t→∃v,look F t=some v) →
   listed.size=ops.size→listed.toList.countP (· == false)≤fuel→R A m w st→ze0 A0 m0 nb0 w0 A m st.length w →
   a.tmps.size=n→a.defers=[]→(∀t v,zDz ops.toList F env0 listed t v→t<n∧V A m st.length w v (a.tmps.getD t undef))→wpAny P .any ops Q fuel listed a w:=by
 obtain ⟨hok1,huniq⟩:=zxM hok
 have lt_of:∀j t,zhA ops.toList j=some t→j<ops.size:=fun j t hj=>by
  unfold zhA at hj
  cases ho:ops.toList[j]? with
  |none=>rw [ho] at hj;cases hj
  |some o=>simpa using (Qb.1 ho).1
 have allin:∀listed:Array Bool,listed.size=ops.size→Region.ready .any ops listed=[]→∀j,j<ops.size→listed.getD j false=true:=fun listed hsz hr j=>by
  induction j using Nat.strongRecOn with
  |_ j ihj =>
   intro hj
   cases hb:listed.getD j false with
   |true=>rfl
   |false =>
    exfalso
    have hj':j<listed.size:=by omega
    have hb':listed.getD j true=false:=by simpa [Array.getD,hj'] using hb
    have hoj:ops[j]?=some ops[j]:=QK hj
    have:j∈Region.ready .any ops listed:=mem_ready.2 ⟨hb',_,hoj,fun e he hbe=>by
     have hlt:=(hok1 j ops[j] (by simp)).2 e (by simpa using he) hbe
     exact ihj e.on hlt (by omega)⟩
    rw [hr] at this;cases this
 have fin:∀(k:Nat) (p en:List Nat) (F:Ev) (st:St) (listed:Array Bool) (A:Nat→Prop) (m:BM) (w:World) (a:Act),DT P ops.toList ss env0 K k p en F st →
   (∀i,zfz i ss=true→listed.getD i false=true→zfz i p=true) →
   (∀t v,look F t=some v→∃j,zhA ops.toList j=some t)→(∀j,j<ops.size→listed.getD j false=true)→R A m w st→ze0 A0 m0 nb0 w0 A m st.length w →
   a.tmps.size=n→a.defers=[]→(∀t v,zDz ops.toList F env0 listed t v→t<n∧V A m st.length w v (a.tmps.getD t undef))→Q .normal a w:=fun k p en F st listed A m w a hD hRu hF hall hR hS h1 h2 hI=>by
  cases k with
  |zero =>
   refine hQ a w ⟨A,m,_,st,hR,zwQ h1 h2 fun t v htv=>?_,hS,hD.2.2.2⟩
   rcases ztr htv with h |h
   ·refine hI t v (.inl ⟨zla.2 v h,fun j hj=>?_⟩);rw [zla.1 (zwP hj)] at h;cases h
   ·obtain ⟨j,hj⟩:=hF t v h;exact hI t v (.inr ⟨j,hall j (lt_of j t hj),hj,h⟩)
  |succ k =>
   exfalso;have h3:=hD.2.2.1;rw [zsn fun s hs=>hRu s hs (hall s (hss s hs))] at h3;cases h3
 intro fuel
 induction fuel with
 |zero =>
  intro k p en F st listed A m w a hD r0 r1 r2 hW hF hL hsz hc hR hS h1 h2 hI
  have hall:∀j,j<ops.size→listed.getD j true=true:=fun j hj=>by
   have h0:listed.toList.countP (· == false)=0:=by omega
   rw [List.countP_eq_zero] at h0
   have hj':j<listed.size:=by omega
   have:=h0 listed[j] (by simp)
   have e:listed.getD j true=listed[j]:=by simp [Array.getD,hj']
   rw [e];simpa using this
  refine ⟨?_,fin k p en F st listed A m w a hD r1 hF (fun j hj=>?_) hR hS h1 h2 hI⟩
  ·rw [List.eq_nil_iff_forall_not_mem];intro j hj;obtain ⟨h3,o,ho,_⟩:=mem_ready.1 hj;rw [hall j (J4.1 ho).1] at h3;cases h3
  ·have:=hall j hj
   have hj':j<listed.size:=by omega
   simpa [Array.getD,hj'] using this
 |succ fuel ih =>
  intro k p en F st listed A m w a hD r0 r1 r2 hW hF hL hsz hc hR hS h1 h2 hI;refine ⟨fun hr=>fin k p en F st listed A m w a hD r1 hF (allin listed hsz hr) hR hS h1 h2 hI,fun i hi=>?_⟩;obtain ⟨h3,o,ho,hdep⟩:=mem_ready.1 hi;have hil:i<ops.size:=(J4.1 ho).1
  have hil':i<listed.size:=by omega
  have hoL:ops.toList[i]?=some o:=by simpa using ho
  have hdi:zhA ops.toList i=o.dst:=by unfold zhA;rw [hoL];rfl
  have hnl:listed.getD i false=false:=by simpa [Array.getD,hil'] using h3
  have hE:Env A m st.length w n (sel F (ea ops.toList env0 i) (zff ops.toList o.after.toList)) a:=zwQ h1 h2 fun t u htu=>hI t u ((ztt htu).imp (fun h=>by
    obtain ⟨h3,h4⟩:=zDX h;refine ⟨h3,fun j hj=>?_⟩
    cases hl:listed.getD j false with
    |false=>rfl
    |true=>rw [hW j i hl (h4 j hj)] at hnl;cases hnl) fun ⟨he,hF⟩=>by
   obtain ⟨e,he1,hb,hd⟩:=ztd he
   exact ⟨e.on,hdep e (by simpa using he1) hb,hd,hF⟩)
  have hcnt:(listed.setIfInBounds i true).toList.countP (· == false)≤fuel:=by
   have hli:listed[i]=false:=by simpa [Array.getD,hil'] using h3
   have e1:(listed.setIfInBounds i true).toList=listed.toList.set i true:=by simp
   have hlt:i<listed.toList.length:=by simpa using hil'
   have hpos:0<listed.toList.countP (· == false):=List.countP_pos_iff.2 ⟨false,by rw [←hli];simp,rfl⟩;rw [e1,List.countP_set hlt]
   have e2:listed.toList[i]=false:=by simpa using hli
   have e3:(true == false)=false:=rfl;have e4:(false == false)=true:=rfl;simp only [e2,e3,e4,if_true,Js,if_false];omega
  have set_ne:∀j,j≠i→(listed.setIfInBounds i true).getD j false=listed.getD j false:=fun j hj=>by
   rw [getD_set_ne false (Ne.symm hj)]
  have set_eq:(listed.setIfInBounds i true).getD i false=true:=by simp [Array.getD,hil']
  have set_up:∀j,listed.getD j false=true→(listed.setIfInBounds i true).getD j false=true:=fun j hj=>by
   by_cases h:j=i
   ·subst h;exact set_eq
   ·rw [set_ne j h];exact hj
  have hdn:=(hok1 i o hoL).1
  have old:∀(val:Value) (v:AV) (w':World) (A':Nat→Prop) (m':BM) (nb':Nat) (t:Nat) (u:AV),ze0 A m st.length w A' m' nb' w'→V A' m' nb' w' v val →
    zDz ops.toList F env0 listed t u→(zhA ops.toList i≠some t)→t<n∧V A' m' nb' w' u ((a.put o.dst val).tmps.getD t undef):=fun val v w' A' m' nb' t u hS' hV hj hne=>by
   have hE1:Env A m st.length w n [(t,u)] a:=zwQ h1 h2 fun t' u' h'=>by
    rcases zmR h' with ⟨rfl,rfl⟩ |h''
    ·exact hI _ _ hj
    ·cases h''
   have hE2:=(hE1.step hR hS').aput hdn hV;refine hE2.val t u ?_
   cases hdd:o.dst with
   |none=>simp [aput,look]
   |some d =>
    have:d≠t:=fun e=>hne (by rw [hdi,hdd,e]);simp [aput,look,this]
  have new_:∀(val:Value) (v:AV) (w':World) (A':Nat→Prop) (m':BM) (nb':Nat) (t:Nat),ze0 A m st.length w A' m' nb' w'→V A' m' nb' w' v val→o.dst=some t→t<n∧V A' m' nb' w' v ((a.put o.dst val).tmps.getD t undef):=fun val v w' A' m' nb' t hS' hV hd=>by
   have hE0:Env A m st.length w n [] a:=zwQ h1 h2 fun t' u' (h':none=some u')=>by cases h'
   have hE2:=(hE0.step hR hS').aput hdn hV;exact hE2.val t v (by rw [hd];simp [aput,look])
  unfold wpOp;rw [ho];simp only
  cases his:zfz i ss with
  |true =>
   have hnp:zfz i p=false:=by
    cases h:zfz i p with
    |false=>rfl
    |true=>rw [r0 i h] at hnl;cases hnl
   have hwi:ziU ops.toList ss p en i=true:=by
    unfold ziU;rw [hoL];simp only [Qs,Qw,Qk];intro e he
    cases hb:Region.binds .any e with
    |false=>exact .inl rfl
    |true =>
     refine .inr ?_;have hl:=hdep e (by simpa using he) hb;split
     ·rename_i hs;exact r1 _ hs hl
     ·rename_i hs;exact r2 _ hl (by simpa using hs)
   cases k with
   |zero =>
    exfalso;have:=zub hD.2.2.1 i his;rw [hnp] at this;cases this
   |succ k =>
    have hst:=hD.2.2.2 i his hnp hwi;rw [hoL] at hst;simp only at hst;obtain ⟨hg,hop⟩:=hst;rw [zg9 hE ((zqW _ _ _).trans hg)];simp only [if_true];refine .inl (zDp hR hE hop fun val w' A' m' st' av k1 k2 k3 ⟨en',new,k4,k5,k6,k7⟩=>?_);have hlk:∀t u,look F t=some u→look (new++F) t=some u:=fun t u h=>zB4 k4 h;refine ih k (i ::p) (en'++en) (new++F) st' _ A' m' w' _ k7 (fun j hj=>?_) (fun j hj hl=>?_) (fun j hl hj=>?_) (fun s j hs hw=>?_) (fun t v ht=>?_) (fun j t hl hj=>?_) (by simpa using hsz) hcnt k1 (hS.trans0 (k2.weak (Qg _) |> fun h=>h.weak hS.nbLe)) (by cases hdd:o.dst <;> simp [Act.put,h1]) (by cases hdd:o.dst <;> simp [Act.put,h2]) (fun t u hJ=>?_)
    ·rcases zrp.1 hj with rfl |h
     ·exact set_eq
     ·exact set_up j (r0 j h)
    ·by_cases h:j=i
     ·subst h;exact zrp.2 (.inl rfl)
     ·rw [set_ne j h] at hl;exact zrp.2 (.inr (r1 j hj hl))
    ·by_cases h:j=i
     ·subst h;rw [his] at hj;cases hj
     ·rw [set_ne j h] at hl;exact zvZ.2 (.inr (r2 j hl hj))
    ·by_cases h:s=i
     ·subst h;obtain ⟨e,he,hb,rfl⟩:=zxG hoL hw;exact set_up _ (hdep e (by simpa using he) hb)
     ·rw [set_ne s h] at hs;exact set_up _ (hW s j hs hw)
    ·rcases ztr (e:=F) (G:=new) ht with h |h
     ·exact hF t v h
     ·obtain ⟨j,_,hj⟩:=zou k5 t (zk5 h);exact ⟨j,hj⟩
    ·by_cases h:j=i
     ·subst h;rw [hdi] at hj;rw [hj] at k6;exact ⟨av,k6⟩
     ·rw [set_ne j h] at hl;obtain ⟨v,hv⟩:=hL j t hl hj;exact ⟨v,hlk t v hv⟩
    ·rcases hJ with ⟨hJ,hJ2⟩ |⟨j,hj1,hj2,hj3⟩
     ·have hni:zhA ops.toList i≠some t:=fun hd=>by
       have:=hJ2 i hd;rw [set_eq] at this;cases this
      refine old val av w' A' m' st'.length t u k2 k3 (.inl ⟨hJ,fun j hj=>?_⟩) hni;have:=hJ2 j hj;by_cases h:j=i
      ·subst h;exact absurd hj hni
      ·rwa [set_ne j h] at this
     ·by_cases hji:j=i
      ·subst hji;rw [hdi] at hj2;rw [hj2] at k6;have hu:u=av:=Option.some.inj (hj3.symm.trans k6);subst hu;exact new_ val u w' A' m' st'.length t k2 k3 hj2
      ·rw [set_ne j hji] at hj1;obtain ⟨v,hv⟩:=hL j t hj1 hj2;have hu:u=v:=Option.some.inj (hj3.symm.trans (hlk t v hv));subst hu;exact old val av w' A' m' st'.length t u k2 k3 (.inr ⟨j,hj1,hj2,hv⟩) fun hd=>hji (huniq _ _ _ hj2 hd)
  |false =>
   have hcl:zhS ops.toList ss p en=true:=by cases k <;> exact hD.2.1
   have hpa:zvl P ops.toList env0 F st p en:=by cases k <;> exact hD.1
   have hwi:ziU ops.toList ss p en i=true:=by
    unfold ziU;rw [hoL];simp only [Qs,Qw,Qk];intro e he
    cases hb:Region.binds .any e with
    |false=>exact .inl rfl
    |true =>
     refine .inr ?_;have hl:=hdep e (by simpa using he) hb;split
     ·rename_i hs;exact r1 _ hs hl
     ·rename_i hs;exact r2 _ hl (by simpa using hs)
   have hen:zfz i en=true:=by
    have:=(Qs.1 hcl) i (JA.2 (by simpa using hil));rw [his,hwi] at this;simpa using this
   have hpe:zv7 ops.toList i p=true:=zAq fun s hs=>by
    cases hw:zsi ops.toList s i with
    |false=>rfl
    |true=>rw [hW s i (r0 s hs) hw] at hnl;cases hnl
   have hat:=hpa.at i hen hpe;unfold zi6 at hat;rw [hoL] at hat;simp only at hat;obtain ⟨v,hv,hop⟩:=hat
   have next:∀(val:Value) (w':World) (A':Nat→Prop) (m':BM),R A' m' w' st→ze0 A m st.length w A' m' st.length w'→V A' m' st.length w' v val→wpAny P .any ops Q fuel (listed.setIfInBounds i true) (a.put o.dst val) w':=fun val w' A' m' hR' hS' hV=>by
    refine ih k p en F st _ A' m' w' _ hD (fun j hj=>set_up j (r0 j hj)) (fun j hj hl=>?_) (fun j hl hj=>?_) (fun s j hs hw=>?_) hF (fun j t hl hj=>?_) (by simpa using hsz) hcnt hR' (hS.trans0 (hS'.weak hS.nbLe)) (by cases hdd:o.dst <;> simp [Act.put,h1]) (by cases hdd:o.dst <;> simp [Act.put,h2]) fun t u hJ=>?_
    ·by_cases h:j=i
     ·subst h;rw [his] at hj;cases hj
     ·rw [set_ne j h] at hl;exact r1 j hj hl
    ·by_cases h:j=i
     ·subst h;exact hen
     ·rw [set_ne j h] at hl;exact r2 j hl hj
    ·by_cases h:s=i
     ·subst h;obtain ⟨e,he,hb,rfl⟩:=zxG hoL hw;exact set_up _ (hdep e (by simpa using he) hb)
     ·rw [set_ne s h] at hs;exact set_up _ (hW s j hs hw)
    ·by_cases h:j=i
     ·subst h;rw [hdi] at hj;rw [hj] at hv;exact ⟨v,hv⟩
     ·rw [set_ne j h] at hl;exact hL j t hl hj
    ·rcases hJ with ⟨hJ,hJ2⟩ |⟨j,hj1,hj2,hj3⟩
     ·have hni:zhA ops.toList i≠some t:=fun hd=>by
       have:=hJ2 i hd;rw [set_eq] at this;cases this
      refine old val v w' A' m' st.length t u hS' hV (.inl ⟨hJ,fun j hj=>?_⟩) hni;have:=hJ2 j hj;by_cases h:j=i
      ·subst h;exact absurd hj hni
      ·rwa [set_ne j h] at this
     ·by_cases hji:j=i
      ·subst hji;rw [hdi] at hj2;rw [hj2] at hv;have hu:u=v:=Option.some.inj (hj3.symm.trans hv);subst hu;exact new_ val u w' A' m' st.length t hS' hV hj2
      ·rw [set_ne j hji] at hj1;exact old val v w' A' m' st.length t u hS' hV (.inr ⟨j,hj1,hj2,hj3⟩) fun hd=>hji (huniq _ _ _ hj2 hd)
   unfold zC1 at hop;split at hop
   ·rename_i hg;rw [zg9 hE ((zqW _ _ _).trans hg)];simp only [if_true];refine .inl (zDp hR hE hop fun val w' A' m' st' av k1 k2 k3 ⟨k4,k5⟩=>?_);subst k4;subst k5
    exact next val w' A' m' k1 k2 k3
   ·rename_i hg;rw [zg9 hE ((zqW _ _ _).trans hg)];simp only [Js,if_false];subst hop
    exact next undef w A m hR (ze0.refl _ _ _ _) (.imm (.lit _))
   ·exact hop.elim
def zsb(k:Nat):List Nat→Bool
 | []=>true
 |x ::l=>Nat.blt x k&&zsb k l
theorem zuH{k:Nat}:∀{l:List Nat},zsb k l=true→∀s,zfz s l=true→s<k
 | [],_,s,h=>by cases h
 |x ::l,h,s,hs=>by
  simp only [zsb,Qd] at h;simp only [zfz,Qw] at hs
  rcases hs with h1 |h1
  ·rw [←Qj h1];exact QA h.1
  ·exact zuH h.2 s h1
theorem zbx{P:Program}{n nb0:Nat}{Q:Exit→Ev→St→Prop}{env:Ev}{st:St}{id:Nat}{ops:Array Oper}(ss en:List Nat)(F:Ev)(k:Nat)(hm:P.follows .mixedOrders=true)(hok:zs1 n ops.toList=true)(hss:zsb ops.size ss=true)(hks:zjz ops.toList en (zdM F)=true)
  (h:DT P ops.toList ss env (Q .normal) k [] en F st):SW P n nb0 (.region id ops true) Q env st:=by
 intro A m w a h0 hR hE
 have hg:znc w { w with drawn:=w.drawn+1 }:=⟨Qg _,fun _ _=>rfl,rfl,rfl,rfl⟩
 obtain ⟨hR1,hS1⟩:=hR.grow' hg;refine wp_region_any hm ?_
 have hf:∀j,(Array.replicate ops.size false).getD j false=false:=fun j=>by simp [Array.getD]
 refine zCX (n:=n) (nb0:=nb0) (A0:=A) (m0:=m) (w0:=w) (K:=Q .normal) (Q:=fun e a' w'=>zks A m nb0 w n (Q e) a' w') hok (zuH hss) (fun a w h=>h) ops.size k [] en F st _ A m _ a h
  (fun i hi=>by cases hi) (fun i _ hl=>by rw [hf] at hl;cases hl) (fun i hl _=>by rw [hf] at hl;cases hl) (fun s i hs _=>by rw [hf] at hs;cases hs) (fun t v ht=>?_) (fun j t hl _=>by rw [hf] at hl;cases hl) (by simp) ?_ hR1 (hS1.weak h0) hE.size hE.defers ?_
 ·obtain ⟨j,_,hj⟩:=zou hks t (zk5 ht);exact ⟨j,hj⟩
 ·refine QI (List.countP_le_length) ?_;simp
 ·intro t v hJ
  rcases hJ with ⟨hJ,_⟩ |⟨j,hj,_⟩
  ·exact (hE.step hR hS1).val t v hJ
  ·rw [hf] at hj;cases hj
theorem rd{P:Program}{n nb0:Nat}{Q:Exit→Ev→St→Prop}{env:Ev}{st:St}{id:Nat}{ops:Array Oper}{y:Code}(E:Ev)(S:St)(ss en:List Nat)(F:Ev)(k:Nat)(hm:P.follows .mixedOrders=true)(hok:zs1 n ops.toList=true)(hss:zsb ops.size ss=true)(hks:zjz ops.toList en (zdM F)=true)
  (h:DT P ops.toList ss env (fun env st=>Can nb0 E S env st) k [] en F st) (hy:SW P n nb0 y Q E S):SW P n nb0 (.seq (.region id ops true) y) Q env st:=
 zi ((zbx (Q:=fun e env st=>match e with |.normal=>Can nb0 E S env st |_=>False) ss en F k hm hok hss hks h).mono fun e env st h=>by
  cases e with
  |normal=>exact zsP h hy
  |_=>exact h.elim)
theorem rdL{P:Program}{n nb0:Nat}{Q:Exit→Ev→St→Prop}{env:Ev}{st:St}{id:Nat}{ops:Array Oper}(E:Ev)(S:St)(ss en:List Nat)(F:Ev)(k:Nat)(hm:P.follows .mixedOrders=true)(hok:zs1 n ops.toList=true)(hss:zsb ops.size ss=true)(hks:zjz ops.toList en (zdM F)=true)
  (h:DT P ops.toList ss env (fun env st=>Can nb0 E S env st) k [] en F st) (hy:Q .normal E S):SW P n nb0 (.region id ops true) Q env st:=by
 intro A m w a h0 hR hE
 refine wp_mono (zbx (Q:=fun e env st=>match e with |.normal=>Can nb0 E S env st |_=>False) ss en F k hm hok hss hks h A m w a h0 hR hE) fun e a' w' ho=>?_
 obtain ⟨A',m',e',s',h1,h2,h3,h4⟩:=ho
 cases e with
 |normal =>
  obtain ⟨L,c1,c2,c3,c4,c5⟩:=h4;have hs:=zyO.of c2 c3;exact ⟨_,_,E,S,h1.rs hs,h2.rs h1 hs c1,h3.rs hs c4 c5,hy⟩
 |_=>exact h4.elim
section
variable {P : Program} {all : List Oper} {env0 F env : Ev} {st : St} {ss p en : List Nat} {K : Ev → St → Prop}
theorem zGZ{o:Oper}{K:AV→St→Prop}{t:Nat}(hd:o.dst=some t)(h:SOp P o env st fun env' st'=>∃v,env'=(t,v)::env∧K v st'):zt2 P o.op env st K:=by
 unfold SOp at h;unfold zt2;rw [hd] at h
 have e:∀av st',(∃v,aput (some t) av env=(t,v)::env∧K v st')→K av st':=fun av st' ⟨v,h1,h2⟩=>by
  have:v=av:=by simp [aput] at h1;exact h1.symm
  subst this;exact h2
 generalize zhF o.op=c at h ⊢
 cases c with
 |true =>
  simp only at h ⊢;generalize zo2 env o.op=x at h ⊢
  cases x with
  |none=>exact h.elim
  |some y=>exact h.mono e
 |false =>
  simp only at h ⊢;generalize aop P env st o.op=x at h ⊢
  cases x with
  |none=>exact h.elim
  |some y=>exact e _ _ h
theorem pa{i t:Nat}{o:Oper}{v:AV}(ho:all[i]?=some o)(hd:o.dst=some t)(hg:o.guard=none)(hv:look F t=some v)(h:SOp P o (sel F (ea all env0 i) (zff all o.after.toList)) st fun env' st'=>env'=(t,v)::sel F (ea all env0 i) (zff all o.after.toList)∧st'=st):zi6 P all env0 F st i:=by
 unfold zi6;rw [ho];refine ⟨v,by rw [hd];exact hv,?_⟩;unfold zC1;rw [hg];exact zGZ hd (h' h)
where
 h' {o:Oper} {t:Nat} {v:AV} {env:Ev} (h:SOp P o env st fun env' st'=>env'=(t,v)::env∧st'=st):SOp P o env st fun env' st'=>∃u,env'=(t,u)::env∧(u=v∧st'=st):=by
  unfold SOp at h ⊢;generalize zhF o.op=c at h ⊢
  cases c with
  |true =>
   simp only at h ⊢;generalize zo2 env o.op=x at h ⊢
   cases x with
   |none=>exact h.elim
   |some y=>exact h.mono fun av st' ⟨h1,h2⟩=>⟨v,h1,rfl,h2⟩
  |false =>
   simp only at h ⊢;generalize aop P env st o.op=x at h ⊢
   cases x with
   |none=>exact h.elim
   |some y=>exact ⟨v,h.1,rfl,h.2⟩
theorem pag{i t:Nat}{o:Oper}{v:AV}{b:Bool}{c:Nat}{want:Bool}(ho:all[i]?=some o)(hd:o.dst=some t)(hg:zj1 all o.guard=some (some c,want))(hc:look (sel F (ea all env0 i) (zff all o.after.toList)) c=some (.lit (.bool b)))(hb:b=want)(hv:look F t=some v)
  (h:SOp P o (sel F (ea all env0 i) (zff all o.after.toList)) st fun env' st'=>env'=(t,v)::sel F (ea all env0 i) (zff all o.after.toList)∧st'=st):zi6 P all env0 F st i:=by
 unfold zi6;rw [ho];refine ⟨v,by rw [hd];exact hv,?_⟩;unfold zC1;rw [hg];simp only [zl4,hc,hb,beq_self_eq_true];exact zGZ hd (pa.h' h)
theorem pas{i t:Nat}{o:Oper}{b:Bool}{c:Nat}{want:Bool}(ho:all[i]?=some o)(hd:o.dst=some t)(hg:zj1 all o.guard=some (some c,want))(hc:look (sel F (ea all env0 i) (zff all o.after.toList)) c=some (.lit (.bool b)))(hb:b=!want)(hv:look F t=some (.lit undef)):zi6 P all env0 F st i:=by
 unfold zi6;rw [ho];refine ⟨.lit undef,by rw [hd];exact hv,?_⟩;unfold zC1;rw [hg];simp only [zl4,hc,hb]
 have:((!want) == want)=false:=by cases want <;> rfl
 rw [this];trivial
theorem pau{i t:Nat}{o:Oper}{c:Nat}{want:Bool}(ho:all[i]?=some o)(hd:o.dst=some t)(hg:zj1 all o.guard=some (some c,want))(hc:look (sel F (ea all env0 i) (zff all o.after.toList)) c=some (.lit undef))(hv:look F t=some (.lit undef)):zi6 P all env0 F st i:=by
 unfold zi6;rw [ho];refine ⟨.lit undef,by rw [hd];exact hv,?_⟩;unfold zC1;rw [hg];simp only [zl4,hc,undef]
def zGP(P:Program)(all:List Oper)(ss:List Nat)(env0:Ev)(K:Ev→St→Prop)(n:Nat)(p en:List Nat)(F:Ev)(st:St)(s:Nat):Prop:=
 ∃o,all[s]?=some o∧zl4 (sel F (ea all env0 s) (zff all o.after.toList)) (zj1 all o.guard)=some true∧SOp P o (sel F (ea all env0 s) (zff all o.after.toList)) st fun env' st'=>∃av en' new,env'=aput o.dst av (sel F (ea all env0 s) (zff all o.after.toList)) ∧
  zdY (zdM new) F=true∧zjz all ((s ::p)++(en'++en)) (zdM new)=true∧(match o.dst with |some t=>look (new++F) t=some av |none=>True)∧DT P all ss env0 K n (s ::p) (en'++en) (new++F) st'
def zt3(P:Program)(all:List Oper)(ss:List Nat)(env0:Ev)(K:Ev→St→Prop)(n:Nat)(p en:List Nat)(F:Ev)(st:St):List Nat→Prop
 | []=>True
 |s ::r=>(zfz s p=false→ziU all ss p en s=true→zGP P all ss env0 K n p en F st s)∧zt3 P all ss env0 K n p en F st r
theorem zt3.at{n:Nat}:∀{l:List Nat},zt3 P all ss env0 K n p en F st l→∀s,zfz s l=true→zfz s p=false→ziU all ss p en s=true→zGP P all ss env0 K n p en F st s
 | [],_,s,h=>by cases h
 |x ::l,h,s,hs=>by
  simp only [zfz,Qw] at hs
  rcases hs with h1 |h1
  ·rw [←Qj h1];exact h.1
  ·exact zt3.at h.2 s h1
theorem dtS{n:Nat}(h1:zvl P all env0 F st p en)(h2:zhS all ss p en=true)(h3:zlo p ss=false)(h4:zt3 P all ss env0 K n p en F st ss):DT P all ss env0 K (n+1) p en F st:=by
 refine ⟨h1,h2,h3,fun s a b c=>?_⟩;obtain ⟨o,ho,hg,hs⟩:=h4.at s a b c;rw [ho];refine ⟨hg,?_⟩;unfold SOp at hs;unfold zt2;generalize zhF o.op=cc at hs ⊢
 have e:∀av st',(∃av0 en' new,aput o.dst av (sel F (ea all env0 s) (zff all o.after.toList))=aput o.dst av0 (sel F (ea all env0 s) (zff all o.after.toList))∧zdY (zdM new) F=true∧zjz all ((s ::p)++(en'++en)) (zdM new)=true ∧
   (match o.dst with |some t=>look (new++F) t=some av0 |none=>True)∧DT P all ss env0 K n (s ::p) (en'++en) (new++F) st') →
   ∃en' new,zdY (zdM new) F=true∧zjz all ((s ::p)++(en'++en)) (zdM new)=true∧(match o.dst with |some t=>look (new++F) t=some av |none=>True)∧DT P all ss env0 K n (s ::p) (en'++en) (new++F) st':=fun av st' ⟨av0,en',new,k1,k2,k3,k4,k5⟩=>by
  refine ⟨en',new,k2,k3,?_,k5⟩
  cases hd:o.dst with
  |none=>trivial
  |some t =>
   rw [hd] at k1 k4
   have:av=av0:=by simpa [aput] using k1
   rw [this];exact k4
 cases cc with
 |true =>
  simp only at hs ⊢;generalize zo2 (sel F (ea all env0 s) (zff all o.after.toList)) o.op=x at hs ⊢
  cases x with
  |none=>exact hs.elim
  |some y=>exact hs.mono e
 |false =>
  simp only at hs ⊢;generalize aop P (sel F (ea all env0 s) (zff all o.after.toList)) st o.op=x at hs ⊢
  cases x with
  |none=>exact hs.elim
  |some y=>exact e _ _ hs
theorem dt0(h1:zvl P all env0 F st p en)(h2:zhS all ss p en=true)(h3:zlo p ss=true)(h4:K (F++zo9 (zwO all) env0) st):DT P all ss env0 K 0 p en F st:=⟨h1,h2,h3,h4⟩
theorem bb(b:Bool):b=true∨b=false:=by cases b <;> simp
theorem pkb{c x y:Operand}{ty:TypeId}{pos:String}{aft:Array Edge}{gu:Option (Nat×Bool)}{d:Nat}{b want:Bool}{v:AV}(hc:ev env c=some (.lit (.bool b)))(hb:b=want)(h:cond want (ev env x) (ev env y)=some v)(k:K ((d,v)::env) st):
  SOp P ⟨some d,.pick c x y,ty,pos,aft,gu⟩ env st K:=by
 subst hb;refine zg5 rfl ?_ k;cases b <;> simp only [cond] at h <;> simp [aop,hc,h]
end
theorem cg{env:Ev}{c:Nat}{b want:Bool}(hc:look env c=some (.lit (.bool b)))(hb:b=want):zl4 env (some (some c,want))=some true:=by
 simp only [zl4,hc,hb,beq_self_eq_true]
abbrev iA(n:Int):AV:=.lit (.int .i64 n)
abbrev bA(b:Bool):AV:=.lit (.bool b)
abbrev sA(l:List UInt8):AV:=.lit (.string (B l))
section
variable {P : Program} {env : Ev} {st : St} {K : Ev → St → Prop} {d : Nat} {ty : TypeId} {pos : String} {aft : Array Edge} {gu : Option (Nat × Bool)}
theorem zGI{α:Type}{t:TypeId}{x y:Operand}{ti:TI}{sz b i j:Nat}{l:List α}{f:α→List AV}{c c':α}{v:AV}{cs:List AV}(ht:zcg P t=some ti)(hx:ev env x=some (.mpt b i j))(hb:st[b]?=some (some (sz,l.map f)))
  (h:l[i]?=some c) (hy:ev env y=some v) (hc:znI v=some cs) (hsz:Nat.beq cs.length ti.size=true) (hj:Nat.ble (j+cs.length) sz=true) (hf:(f c).take j++cs++(f c).drop (j+cs.length)=f c')
  (k:K env (st.set b (some (sz,(l.set i c').map f)))):SOp P ⟨none,.store t x y,ty,pos,aft,gu⟩ env st K:=by
 refine zGx (av:=.lit undef) rfl (st':=st.set b (some (sz,(l.set i c').map f))) ?_ k;have hi:i<l.length:=(Qb.1 h).1
 have e1:zkh (l.map f) i j cs=(l.set i c').map f:=by
  unfold zkh;rw [Jc,h];simp only [QG];rw [hf,List.map_set]
 have e2:zsq st ti (.mpt b i j) v=some (st.set b (some (sz,(l.set i c').map f))):=by
  simp only [zsq,hc,hb];rw [if_pos ⟨by simpa using hi,QA hj,Qj hsz⟩,e1]
 simp [aop,ht,hx,hy,e2]
end
theorem zEk{α:Type}{l:List α}{i:Int}{j:Nat}{x c:α}(h:idx l i=some c):idx (l.set j x) i=some (if j=i.toNat then x else c):=by
 obtain ⟨h0,h1,h2⟩:=zt h;unfold idx;rw [if_pos h0,List.getElem?_set];split
 ·rename_i e;subst e;simp [h1]
 ·exact h2
theorem zGU{P:Program}{env:Ev}{st:St}{K:Ev→St→Prop}{d:Nat}{ty:TypeId}{pos:String}{aft:Array Edge}{gu:Option (Nat×Bool)}{α:Type}{t e:TypeId}{x y:Operand}{ti te:TI}{kk:IntKind}{sz b n:Nat}{l:List α}{f:α→List AV}{i:Int}{c:α}(hn:l.length=n)
  (ht:zcg P t=some ti) (hk:ti.k=.slc e) (he:zcg P e=some te) (hs:te.size=sz) (hx:ev env x=some (.msl b 0 n))
  (hb:st[b]?=some (some (sz,l.map f))) (hy:ev env y=some (.lit (.int kk i))) (h:idx l i=some c) (k:K ((d,.mpt b i.toNat 0)::env) st):SOp P ⟨some d,.indexAddr t x y,ty,pos,aft,gu⟩ env st K:=by
 subst hn;exact ixM ht hk he hs hx hb hy h k
theorem zEW{st:St}{L:zgC}{l l' i n n':Nat}(e:n'=n)(h:zgH L l=some l'):Rs st L (.msl l i n') (.msl l' i n):=by subst e;exact .msl h
section
variable {α : Type}
def zcl(k:List UInt8):List (List UInt8×α)→Option α
 | []=>none
 |(a,x)::r=>cond (decide (k=a)) (some x) (zcl k r)
def zch(k:List UInt8)(x:α):List (List UInt8×α)→List (List UInt8×α)
 | []=>[(k,x)]
 |(a,y)::r=>cond (decide (k=a)) ((k,x)::r) ((a,y)::zch k x r)
def rKV(g:α→AV)(p:List UInt8×α):List AV:=[.lit (.string (B p.1)),g p.2]
theorem zpm{g:α→AV}{k:List UInt8}:∀{l:List (List UInt8×α)} {i:Nat},
  (∀x,zcl k l=some x→∃j,zmh k (l.map (rKV g)) i=some (some (i+j,g x))∧j<l.length∧∀y,(zch k y l).map (rKV g)=(l.map (rKV g)).set j [.lit (.string (B k)),g y]) ∧
  (zcl k l=none→zmh k (l.map (rKV g)) i=some none∧∀y,zch k y l=l++[(k,y)])
 | [],i=>⟨fun x h=>(by cases h),fun _=>⟨rfl,fun y=>rfl⟩⟩
 |(a,z)::r,i=>by
  obtain ⟨h1,h2⟩:=zpm (g:=g) (k:=k) (l:=r) (i:=i+1);by_cases hd:k=a
  ·subst hd;refine ⟨fun x h=>?_,fun h=>?_⟩
   ·simp only [zcl,decide_true,cond_true] at h;cases h;refine ⟨0,?_,by simp,fun y=>?_⟩
    ·show zmh k ([AV.lit (.string (B k)),g z]:: _) i=_;unfold zmh;simp
    ·simp [zch,rKV]
   ·simp [zcl] at h
  ·have e1:zmh k (List.map (rKV g) ((a,z)::r)) i=zmh k (r.map (rKV g)) (i+1):=by
    show zmh k ([AV.lit (.string (B a)),g z]:: _) i=_
    conv=>lhs;unfold zmh
    simp [hd]
   have e2:zcl k ((a,z)::r)=zcl k r:=by simp [zcl,hd]
   have e3:∀y,zch k y ((a,z)::r)=(a,z)::zch k y r:=fun y=>by simp [zch,hd]
   refine ⟨fun x h=>?_,fun h=>?_⟩
   ·rw [e2] at h;obtain ⟨j,h3,h4,h5⟩:=h1 x h;refine ⟨j+1,by rw [e1,h3];congr 3;omega,by simp;omega,fun y=>?_⟩;rw [e3,Yc,h5 y];rfl
   ·rw [e2] at h;obtain ⟨h3,h4⟩:=h2 h;exact ⟨by rw [e1,h3],fun y=>by rw [e3,h4 y];rfl⟩
theorem zEv{g:α→AV}{k:List UInt8}{y:α}{l:List (List UInt8×α)}:zF9 (B k) (g y) (l.map (rKV g))=some ((zch k y l).map (rKV g)):=by
 unfold zF9;have h:=zpm (g:=g) (k:=k) (l:=l) (i:=0);rw [show (B k).data.toList=k from rfl]
 cases hg:zcl k l with
 |some x =>
  obtain ⟨j,h1,_,h2⟩:=h.1 x hg;rw [h1,h2 y];simp
 |none =>
  obtain ⟨h1,h2⟩:=h.2 hg;rw [h1,h2 y,JY];rfl
theorem zDG{P:Program}{st:St}{t e:TypeId}{mv:AV}{te:TI}{l:List (List UInt8×α)}{g:α→AV}{z:α}{k:List UInt8}(hm:zqv P t=some e)(he:zcg P e=some te)(hr:zuR st mv=some (l.map (rKV g)))(hz:zAV te.zero=g z):
  zog P st t mv k true=some (.tup [g ((zcl k l).getD z),.lit (.bool (zcl k l).isSome)]):=by
 unfold zog;rw [hm];simp only;rw [he,hr];simp only;have h:=zpm (g:=g) (k:=k) (l:=l) (i:=0)
 cases hg:zcl k l with
 |some x =>
  obtain ⟨j,h1,_⟩:=h.1 x hg;rw [h1];rfl
 |none=>rw [(h.2 hg).1,hz];rfl
theorem zDF{P:Program}{st:St}{t e:TypeId}{mv:AV}{te:TI}{l:List (List UInt8×α)}{g:α→AV}{z:α}{k:List UInt8}(hm:zqv P t=some e)(he:zcg P e=some te)(hr:zuR st mv=some (l.map (rKV g)))(hz:zAV te.zero=g z):
  zog P st t mv k false=some (g ((zcl k l).getD z)):=by
 unfold zog;rw [hm];simp only;rw [he,hr];simp only;have h:=zpm (g:=g) (k:=k) (l:=l) (i:=0)
 cases hg:zcl k l with
 |some x =>
  obtain ⟨j,h1,_⟩:=h.1 x hg;rw [h1];rfl
 |none=>rw [(h.2 hg).1,hz];rfl
end
def zht{α:Type}(k:Nat)(f:α→List AV):Option α→AV
 |none=>.lit (.pointer none)
 |some x=>.ipt k [f x] 0 0
def zt1{α β:Type}(o:Option α)(a:β)(b:α→β):β:=match o with |none=>a |some x=>b x
theorem oeN{α β:Type}{a r:β}{b:α→β}(h:zt1 none a b=r):a=r:=h
theorem oeS{α β:Type}{a r:β}{x:α}{b:α→β}(h:zt1 (some x) a b=r):b x=r:=h
theorem zlE{α:Type}{k:Nat}{f:α→List AV}{o:Option α}(h:∀x,ziv (f x)=true):zzN (zht k f o)=true:=by cases o <;> rfl
theorem zyK{x:AV}{l:List AV}(h:zzN x=true)(hl:ziv l=true):ziv (x ::l)=true:=by simp [ziv,h,hl]
theorem zDh{l:List AV}(hl:ziv l=true):zzN (.tup l)=true:=hl
section
variable {P : Program} {env : Ev} {st : St} {K : Ev → St → Prop} {d : Tmp} {ty : TypeId} {pos : String} {aft : Array Edge} {gu : Option (Nat × Bool)}
theorem eqp{t u e:TypeId}{x y:Operand}{ti:TI}{a:AV}{b:Bool}(ht:zcg P t=some ti)(hk:ti.k=.ptr e)(hx:ev env x=some a)(hy:ev env y=some (.lit (.pointer none)))(h1:zt5 (.ptr e) .eql a (.lit (.pointer none))=none)(h2:aeq P t .eql a (.lit (.pointer none))=none)
  (h:zE6 (.ptr e) st .eql a (.lit (.pointer none))=some (.lit (.bool b))) (k:K ((d,.lit (.bool b))::env) st):SOp P ⟨some d,.binOp .eql t x y u,ty,pos,aft,gu⟩ env st K:=
 zg5 rfl (by simp only [aop,ht,hx,hy,hk,h1,h2,h,QG]) k
theorem nep{t u e:TypeId}{x y:Operand}{ti:TI}{a:AV}{b:Bool}(ht:zcg P t=some ti)(hk:ti.k=.ptr e)(hx:ev env x=some a)(hy:ev env y=some (.lit (.pointer none)))(h1:zt5 (.ptr e) .neq a (.lit (.pointer none))=none)(h2:aeq P t .neq a (.lit (.pointer none))=none)
  (h:zE6 (.ptr e) st .neq a (.lit (.pointer none))=some (.lit (.bool b))) (k:K ((d,.lit (.bool b))::env) st):SOp P ⟨some d,.binOp .neq t x y u,ty,pos,aft,gu⟩ env st K:=
 zg5 rfl (by simp only [aop,ht,hx,hy,hk,h1,h2,h,QG]) k
theorem zG7{α:Type}{t u e:TypeId}{x y:Operand}{ti:TI}{k':Nat}{f:α→List AV}{o:Option α}(ht:zcg P t=some ti)(hk:ti.k=.ptr e)(hx:ev env x=some (zht k' f o))(hy:ev env y=some (.lit (.pointer none)))
  (k:K ((d,.lit (.bool o.isNone))::env) st):SOp P ⟨some d,.binOp .eql t x y u,ty,pos,aft,gu⟩ env st K:=by
 cases o with
 |none=>exact eqp ht hk hx hy rfl rfl rfl k
 |some x=>exact eqp ht hk hx hy rfl rfl rfl k
theorem zHc{α:Type}{t u e:TypeId}{x y:Operand}{ti:TI}{k':Nat}{f:α→List AV}{o:Option α}(ht:zcg P t=some ti)(hk:ti.k=.ptr e)(hx:ev env x=some (zht k' f o))(hy:ev env y=some (.lit (.pointer none)))
  (k:K ((d,.lit (.bool (!o.isNone)))::env) st):SOp P ⟨some d,.binOp .neq t x y u,ty,pos,aft,gu⟩ env st K:=by
 cases o with
 |none=>exact nep ht hk hx hy rfl rfl rfl k
 |some x=>exact nep ht hk hx hy rfl rfl rfl k
theorem mmk{t e:TypeId}(nn:Nat)(hm:zqv P t=some e)(hn:st.length=nn)(k:K ((d,.mmp nn)::env) (st++[some (2,[])])):SOp P ⟨some d,.makeMap t none,ty,pos,aft,gu⟩ env st K:=
 zg5 rfl (by subst hn;simp only [aop,zE7 hm]) k
theorem mup{α:Type}{t e:TypeId}{m k' x:Operand}{b:Nat}{s:List UInt8}{v:α}{a:AV}{g:α→AV}{l:List (List UInt8×α)}(hm:zqv P t=some e)(h1:ev env m=some (.mmp b))(h2:ev env k'=some (.lit (.string (B s))))(h3:ev env x=some a)(hv:a=g v)
  (hb:st[b]?=some (some (2,l.map (rKV g)))) (k:K env (st.set b (some (2,(zch s v l).map (rKV g))))):SOp P ⟨none,.mapUpdate t m k' x,ty,pos,aft,gu⟩ env st K:=by
 subst hv;exact zGx (av:=.lit undef) rfl (by simp only [aop,h1,h2,h3,zsZ,hm,hb,zEv,QG]) k
theorem zFC{α:Type}{t e:TypeId}{m k':Operand}{mv:AV}{te:TI}{s:List UInt8}{g:α→AV}{z:α}{l:List (List UInt8×α)}(hm:zqv P t=some e)(he:zcg P e=some te)(h1:ev env m=some mv)(h2:ev env k'=some (.lit (.string (B s))))(hr:zuR st mv=some (l.map (rKV g)))(hz:zAV te.zero=g z)
  (k:K ((d,.tup [g ((zcl s l).getD z),.lit (.bool (zcl s l).isSome)])::env) st):SOp P ⟨some d,.lookup t m k' true,ty,pos,aft,gu⟩ env st K:=
 zg5 rfl (by simp only [aop,h1,h2];rw [zDG hm he hr hz];rfl) k
theorem zF7{α:Type}{t e:TypeId}{m k':Operand}{mv:AV}{te:TI}{s:List UInt8}{g:α→AV}{z:α}{l:List (List UInt8×α)}(hm:zqv P t=some e)(he:zcg P e=some te)(h1:ev env m=some mv)(h2:ev env k'=some (.lit (.string (B s))))(hr:zuR st mv=some (l.map (rKV g)))(hz:zAV te.zero=g z)
  (k:K ((d,g ((zcl s l).getD z))::env) st):SOp P ⟨some d,.lookup t m k' false,ty,pos,aft,gu⟩ env st K:=
 zg5 rfl (by simp only [aop,h1,h2];rw [zDF hm he hr hz];rfl) k
theorem zAE{α:Type}{L:zgC}{b:Nat}{l:List (List UInt8×α)}{g:α→AV}(hD:zvM L b=false)(hb:st[b]?=some (some (2,l.map (rKV g))))(h:∀x,ziv (rKV g x)=true):Rs st L (.imp (l.map (rKV g))) (.mmp b):=
 .sm hD hb rfl (fun r hr x hx=>by obtain ⟨y,_,rfl⟩:=QS.1 hr;exact (zgS (h y)).mem x hx) (fun q _ _=>rfl) (fun q h1 h2 j h3 h4=>by
  refine .imm ?_;obtain ⟨y,_,hy⟩:=QS.1 (Qi h2);have h6:=(zgS (h y)).mem;rw [hy] at h6
  exact h6 _ (Qi h4))
theorem zp5{α:Type}{b:Nat}{l:List (List UInt8×α)}{g:α→AV}(hb:st[b]?=some (some (2,l.map (rKV g))))(h:∀x,ziv (rKV g x)=true):zpF st (.mmp b) (.imp (l.map (rKV g))):=
 .mmp hb rfl (fun q _ _=>rfl) (fun q h1 h2 j h3 h4=>by
  refine .imm ?_;obtain ⟨y,_,hy⟩:=QS.1 (Qi h2);have h6:=(zgS (h y)).mem;rw [hy] at h6
  exact h6 _ (Qi h4))
theorem rsP{α:Type}{L:zgC}{b k:Nat}{row:List AV}{x:α}{f:α→List AV}(hD:zvM L b=false)(hb:st[b]?=some (some (k,[row])))(h:zt0 st L (f x) row)(hi:ziv (f x)=true):Rs st L (zht k f (some x)) (.mpt b 0 0):=
 .slp hD hb rfl (fun r hr y hy=>by obtain rfl:=QV.1 hr;exact (zgS hi).mem y hy) (fun q h1 h2=>by
  have:q=0:=by simpa using h1
  subst this;exact h.get.1.symm) (fun q h1 h2 j h3 h4=>by
  have:q=0:=by simpa using h1
  subst this;exact h.get.2 j h4 h3)
theorem fdV{t:TypeId}{x:Operand}{f:Nat}{a v:AV}(hx:ev env x=some a)(h:afv P t f a=some v)(k:K ((d,v)::env) st):SOp P ⟨some d,.field t x f,ty,pos,aft,gu⟩ env st K:=
 zg5 rfl (by simp only [aop,hx,h,QG]) k
def mkP(w:Nat)(n:Int):Option Nat:=if 0≤n∧n≤16777216∧(w:Int)*n≤281474976710656 then some n.toNat else none
theorem mnI{x y:Operand}{kk kk':IntKind}{a b:Int}{ats:Array TypeId}(hx:ev env x=some (.lit (.int kk a)))(hy:ev env y=some (.lit (.int kk' b)))(k:K ((d,.lit (.int kk (if b<a then b else a)))::env) st):
  SOp P ⟨some d,.call { callee:=.builtin .min,args:=#[x,y],argTypes:=ats },ty,pos,aft,gu⟩ env st K:=
 zg5 rfl (by simp [aop,ziV,zwv,hx,hy]) k
end
section
variable {X Y : Type}
def zCq(F:(X→Option Y)→X→Option Y):Nat→X→Option Y
 | 0,_=>none
 |n+1,x=>F (zCq F n) x
open Classical in
def zGW(F:(X→Option Y)→X→Option Y)(x:X):Option Y:=
 if h:∃n y,zCq F n x=some y then some h.choose_spec.choose else none
def zEz(F:(X→Option Y)→X→Option Y)(x:X):Option Y:=
 match zCq F 30 x with
 |some y=>some y
 |none=>zGW F x
theorem zEA{F:(X→Option Y)→X→Option Y}{x:X}{y:Y}(h:zEz F x=some y):∃n,zCq F n x=some y:=by
 unfold zEz at h;split at h
 ·rename_i z h0;cases h;exact ⟨_,h0⟩
 ·unfold zGW at h;split at h
  ·rename_i hex;cases h;exact ⟨_,hex.choose_spec.choose_spec⟩
  ·cases h
theorem zEB{F:(X→Option Y)→X→Option Y}{Q:X→Y→Prop}(h:∀v,(∀x y,v x=some y→Q x y)→∀x y,F v x=some y→Q x y){x:X}{y:Y}(hr:zEz F x=some y):Q x y:=by
 obtain ⟨n,hn⟩:=zEA hr
 have key:∀n x y,zCq F n x=some y→Q x y:=by
  intro n
  induction n with
  |zero=>intro x y h;cases h
  |succ n ih=>intro x y h1;exact h _ ih x y h1
 exact key n x y hn
end
def zA1:List Nat→Ev→Ev
 |_,[]=>[]
 |s,(t,v)::r=>match zfz t s with |true=>zA1 s r |false=>(t,v)::zA1 (t ::s) r
theorem zm8:∀{s:List Nat} {e:Ev} {t:Nat} {v:AV},look (zA1 s e) t=some v→zfz t s=false∧look e t=some v
 |_,[],t,v,h=>by cases h
 |s,(k,x)::r,t,v,h=>by
  unfold zA1 at h;simp only [look]
  cases hm:zfz k s with
  |true =>
   rw [hm] at h;obtain ⟨h1,h2⟩:=zm8 h;refine ⟨h1,?_⟩;split
   ·rename_i e;subst e;rw [hm] at h1;cases h1
   ·exact h2
  |false =>
   rw [hm] at h;simp only [look] at h;split at h
   ·rename_i e;subst e;cases h;exact ⟨hm,by rw [if_pos rfl]⟩
   ·rename_i e;obtain ⟨h1,h2⟩:=zm8 h;simp only [zfz,Qo] at h1;exact ⟨h1.2,by rw [if_neg e];exact h2⟩
mutual
def zCr:AV→List Nat→List Nat
 |.msl l _ _,a=>l ::a
 |.mpt l _ _,a=>l ::a
 |.mmp l,a=>l ::a
 |.agg cs,a=>zyu cs a
 |.tup cs,a=>zyu cs a
 |.fn _ x y,a=>zyu x (zyu y a)
 |_,a=>a
def zyu:List AV→List Nat→List Nat
 | [],a=>a
 |x ::l,a=>zCr x (zyu l a)
end
def zFV:Ev→List Nat→List Nat
 | [],a=>a
 |(_,v)::r,a=>zCr v (zFV r a)
def zFW:List (List AV)→List Nat→List Nat
 | [],a=>a
 |x ::l,a=>zyu x (zFW l a)
def zyr(st:St):Nat→List Nat→List Nat→List Nat
 | 0,_,zal=>zal
 |_+1,[],zal=>zal
 |n+1,l ::r,zal =>
  match zfz l zal with
  |true=>zyr st n r zal
  |false=>match st[l]? with |some (some (_,els))=>zyr st n (zFW els r) (l ::zal) |_=>zyr st n r (l ::zal)
def zyp(st:St)(nb0:Nat)(zal:List Nat):Nat→St→zgC
 |_,[]=>[]
 |i,none ::r=>match Nat.blt i nb0 with |true=>.dead ::zyp st nb0 zal (i+1) r |false=>zyp st nb0 zal (i+1) r
 |i,some _ ::r=>match Nat.blt i nb0||zfz i zal with |true=>.old i ::zyp st nb0 zal (i+1) r |false=>zyp st nb0 zal (i+1) r
def zu0(x:Nat):Nat→zgC→Option Nat
 |_,[]=>none
 |i,.old y ::r=>match Nat.beq y x with |true=>some i |false=>zu0 x (i+1) r
 |i,_ ::r=>zu0 x (i+1) r
theorem zqL{x:Nat}:∀{L:zgC} {i l:Nat},zu0 x i L=some l→i≤l∧L[l-i]?=some (.old x)
 | [],i,l,h=>by cases h
 |.old y ::r,i,l,h=>by
  unfold zu0 at h;split at h
  ·rename_i hy;cases h;rw [Qj hy];exact ⟨Qg _,by simp⟩
  ·obtain ⟨h1,h2⟩:=zqL h;refine ⟨by omega,?_⟩;rw [show l-i=(l-(i+1))+1 by omega];simpa using h2
 |.dead ::r,i,l,h=>by
  obtain ⟨h1,h2⟩:=zqL (L:=r) h;refine ⟨by omega,?_⟩;rw [show l-i=(l-(i+1))+1 by omega];simpa using h2
 |.fresh k ::r,i,l,h=>by
  obtain ⟨h1,h2⟩:=zqL (L:=r) h;refine ⟨by omega,?_⟩;rw [show l-i=(l-(i+1))+1 by omega];simpa using h2
theorem zru{x:Nat}{L:zgC}{l:Nat}(h:zu0 x 0 L=some l):zgH L l=some x:=by
 have:=(zqL h).2;unfold zgH;rw [J2] at this;rw [this]
mutual
def tnV(L:zgC):AV→Option AV
 |.msl l i n=>match zu0 l 0 L with |some q=>some (.msl q i n) |none=>some .any
 |.mpt l i j=>match zu0 l 0 L with |some q=>some (.mpt q i j) |none=>some .any
 |.mmp l=>match zu0 l 0 L with |some q=>some (.mmp q) |none=>some .any
 |.imp e=>some (.imp e)
 |.agg cs=>match tnL L cs with |some r=>some (.agg r) |none=>none
 |.tup cs=>match tnL L cs with |some r=>some (.tup r) |none=>none
 |.fn f a b=>match tnL L a,tnL L b with |some x,some y=>some (.fn f x y) |_,_=>none
 |.any=>some .any
 |.lit v=>some (.lit v)
 |.isl k e=>some (.isl k e)
 |.ipt k e i j=>some (.ipt k e i j)
def tnL(L:zgC):List AV→Option (List AV)
 | []=>some []
 |x ::l=>match tnV L x,tnL L l with |some y,some r=>some (y ::r) |_,_=>none
end
mutual
theorem zA6{st:St}{L:zgC}:∀{x y:AV},tnV L x=some y→Rs st L y x
 |.msl l i n,y,h=>by
  unfold tnV at h;split at h
  ·rename_i q hq;cases h;exact .msl (zru hq)
  ·cases h;exact .any _
 |.mpt l i j,y,h=>by
  unfold tnV at h;split at h
  ·rename_i q hq;cases h;exact .mpt (zru hq)
  ·cases h;exact .any _
 |.mmp l,y,h=>by
  unfold tnV at h;split at h
  ·rename_i q hq;cases h;exact .mmp (zru hq)
  ·cases h;exact .any _
 |.imp e,y,h=>by unfold tnV at h;cases h;exact .imm (.imp _)
 |.agg cs,y,h=>by
  unfold tnV at h;split at h
  ·rename_i q hq;cases h;exact ztP (zsT hq)
  ·cases h
 |.tup cs,y,h=>by
  unfold tnV at h;split at h
  ·rename_i q hq;cases h;exact zsg (zsT hq)
  ·cases h
 |.fn f a b,y,h=>by
  unfold tnV at h;split at h
  ·rename_i q1 q2 hq1 hq2;cases h;exact zHh (zsT hq1) (zsT hq2)
  ·cases h
 |.any,y,h=>by unfold tnV at h;cases h;exact .any _
 |.lit v,y,h=>by unfold tnV at h;cases h;exact .imm (.lit _)
 |.isl k e,y,h=>by unfold tnV at h;cases h;exact .imm (.isl _ _)
 |.ipt k e i j,y,h=>by unfold tnV at h;cases h;exact .imm (.ipt _ _ _ _)
theorem zsT{st:St}{L:zgC}:∀{x y:List AV},tnL L x=some y→zt0 st L y x
 | [],y,h=>by unfold tnL at h;cases h;trivial
 |x ::l,y,h=>by
  unfold tnL at h;split at h
  ·rename_i a b ha hb;cases h;exact ⟨zA6 ha,zsT hb⟩
  ·cases h
end
def tnR(L:zgC):List (List AV)→Option (List (List AV))
 | []=>some []
 |x ::l=>match tnL L x,tnR L l with |some y,some r=>some (y ::r) |_,_=>none
theorem zDw{st:St}{L:zgC}:∀{x y:List (List AV)},tnR L x=some y→zvo st L y x
 | [],y,h=>by unfold tnR at h;cases h;trivial
 |x ::l,y,h=>by
  unfold tnR at h;split at h
  ·rename_i a b ha hb;cases h;exact ⟨zsT ha,zDw hb⟩
  ·cases h
def tnE(L:zgC):Ev→Option Ev
 | []=>some []
 |(t,x)::l=>match tnV L x,tnE L l with |some y,some r=>some ((t,y)::r) |_,_=>none
def tnS(L:zgC)(st:St):zgC→Option St
 | []=>some []
 |.dead ::r=>match tnS L st r with |some s=>some (none ::s) |none=>none
 |.fresh _ :: _=>none
 |.old x ::r=>match st[x]? with |some (some (k,els))=>(match tnR L els,tnS L st r with |some e,some s=>some (some (k,e)::s) |_,_=>none) |_=>none
theorem zvh{L:zgC}{st:St}:∀{r:zgC} {s:St},tnS L st r=some s→zjy st L r s
 | [],s,h=>by unfold tnS at h;cases h;trivial
 |.dead ::r,s,h=>by
  unfold tnS at h;split at h
  ·rename_i q hq;cases h;exact zvh (r:=r) hq
  ·cases h
 |.fresh _ ::r,s,h=>by unfold tnS at h;cases h
 |.old x ::r,s,h=>by
  unfold tnS at h;split at h
  ·rename_i k els hx;split at h
   ·rename_i e s' he hs;cases h;exact ⟨⟨els,hx,zoa (zDw he)⟩,zvh hs⟩
   ·cases h
  ·cases h
def zzB(st:St):Nat:=64*st.length+4096
def zGM(nb0:Nat)(env:Ev)(st:St):Option (Ev×St):=
 let e:=zA1 [] env
 let L:=zyp st nb0 (zyr st (zzB st) (zFV e (List.range nb0)) []) 0 st
 match zmV L&&zzL nb0 L&&Nat.ble nb0 L.length with
 |true=>match tnE L e,tnS L st L with |some e',some s'=>some (e',s') |_,_=>none
 |false=>none
theorem zrH{L:zgC}{st:St}:∀{r:zgC} {s:St},tnS L st r=some s→s.length=r.length
 | [],s,h=>by unfold tnS at h;cases h;rfl
 |.dead ::r,s,h=>by
  unfold tnS at h;split at h
  ·rename_i q hq;cases h;simp [zrH (r:=r) hq]
  ·cases h
 |.fresh _ ::r,s,h=>by unfold tnS at h;cases h
 |.old x ::r,s,h=>by
  unfold tnS at h;split at h
  ·split at h
   ·rename_i e s' he hs;cases h;simp [zrH hs]
   ·cases h
  ·cases h
def zsd:Ev→Bool
 | []=>true
 |(t,_)::r=>!zfz t (zdM r)&&zsd r
theorem zts:∀{e:Ev} {u:Nat},zfz u (zdM e)=true→∃v,look e u=some v
 | [],u,h=>by cases h
 |(k,x)::r,u,h=>by
  simp only [look];split
  ·exact ⟨_,rfl⟩
  ·rename_i hne;simp only [zdM,zfz,Qw] at h
   rcases h with h |h
   ·exact absurd (Qj h) hne
   ·exact zts h
theorem zA5{st:St}{L:zgC}:∀{e e':Ev},tnE L e=some e'→∀{E:Ev},(∀t v,look e t=some v→look E t=some v)→(∀t,zfz t (zdM e)=true→∃v,look e t=some v)→zsd e=true→zln st L e' E
 | [],e',h,E,_,_,_=>by unfold tnE at h;cases h;trivial
 |(t,x)::l,e',h,E,hE,hk,ho=>by
  unfold tnE at h;split at h
  ·rename_i y r hy hr;cases h;simp only [zsd,Qd,Qk] at ho;refine ⟨⟨x,hE t x (by simp [look]),zA6 hy⟩,zA5 hr (fun u v hu=>hE u v ?_) (fun u hu=>?_) ho.2⟩
   ·simp only [look];split
    ·rename_i e;subst e;exact absurd (zij.2 (zk5 hu)) (by rw [ho.1];decide)
    ·exact hu
   ·exact zts hu
  ·cases h
theorem zpD:∀{s:List Nat} {e:Ev},zsd (zA1 s e)=true∧∀t,zfz t (zdM (zA1 s e))=true→zfz t s=false
 |s,[]=>⟨rfl,fun t h=>by cases h⟩
 |s,(k,x)::r=>by
  unfold zA1
  cases hm:zfz k s with
  |true=>exact zpD (s:=s) (e:=r)
  |false =>
   obtain ⟨h1,h2⟩:=zpD (s:=k ::s) (e:=r);refine ⟨?_,fun t ht=>?_⟩
   ·simp only [zsd,h1,Bool.and_true,Qk]
    cases hk:zfz k (zdM (zA1 (k ::s) r)) with
    |false=>rfl
    |true=>have:=h2 k hk;simp [zfz] at this
   ·simp only [zdM,zfz,Qw] at ht
    rcases ht with ht |ht
    ·rw [←Qj ht];exact hm
    ·have:=h2 t ht;simp only [zfz,Qo] at this;exact this.2
theorem zCO{nb0:Nat}{env e':Ev}{st s':St}(h:zGM nb0 env st=some (e',s')):Can nb0 e' s' env st:=by
 unfold zGM at h;simp only at h;split at h
 ·rename_i hc;simp only [Qd] at hc;split at h
  ·rename_i a b ha hb;cases h;refine ⟨_,zA5 ha (fun t v ht=>(zm8 ht).2) (fun t ht=>zts ht) zpD.1,hc.1.1,zvh hb,hc.1.2,?_⟩;rw [zrH hb];exact QA hc.2
  ·cases h
 ·cases h
def zyG(nb0:Nat)(av:AV)(st:St):Option (AV×St):=
 let L:=zyp st nb0 (zyr st (zzB st) (zCr av (List.range nb0)) []) 0 st
 match zmV L&&zzL nb0 L&&Nat.ble nb0 L.length with
 |true=>match tnV L av,tnS L st L with |some e',some s'=>some (e',s') |_,_=>none
 |false=>none
theorem zA2{nb0:Nat}{av av':AV}{st s':St}(h:zyG nb0 av st=some (av',s')):zE3 nb0 av' s' av st:=by
 unfold zyG at h;simp only at h;split at h
 ·rename_i hc;simp only [Qd] at hc;split at h
  ·rename_i a b ha hb;cases h;refine ⟨_,zA6 ha,hc.1.1,zvh hb,hc.1.2,?_⟩;rw [zrH hb];exact QA hc.2
  ·cases h
 ·cases h
section
variable (P : Program) (call : FuncId → List AV → St → Option (AV × St))
def rOp(o:Op)(env:Ev)(st:St):Option (AV×St):=
 match zhF o with
 |true=>match zo2 env o with |some (g,args)=>call g args st |none=>none
 |false=>aop P env st o
def zEZ(all:List Oper):List Oper→Ev→St→Option (Ev×St)
 | [],env,st=>some (env,st)
 |o ::rest,env,st =>
  match zg6 all env o with
  |some true=>match rOp P call o.op env st with |some (av,st')=>zEZ all rest (aput o.dst av env) st' |none=>none
  |some false=>zEZ all rest (aput o.dst (.lit undef) env) st
  |none=>none
def zqN:Prop:=∀g args st av st',call g args st=some (av,st')→zmv P g args st fun a s=>a=av∧s=st'
end
section
variable {P : Program} {call : FuncId → List AV → St → Option (AV × St)} (hc : zqN P call)
include hc
theorem zFT{o:Op}{env:Ev}{st st':St}{av:AV}(h:rOp P call o env st=some (av,st')):zt2 P o env st fun a s=>a=av∧s=st':=by
 unfold rOp at h;unfold zt2;split at h
 ·rename_i hi
  try rw [hi]
  try simp only
  split at h
  ·rename_i g args ha
   try rw [ha]
   exact hc _ _ _ _ _ h
  ·cases h
 ·rename_i hi
  try rw [hi]
  try simp only
  rw [h];exact ⟨rfl,rfl⟩
theorem zGA{o:Oper}{env:Ev}{st st':St}{av:AV}{K:Ev→St→Prop}(h:rOp P call o.op env st=some (av,st'))(k:K (aput o.dst av env) st'):SOp P o env st K:=by
 have h2:=zFT hc h;unfold zt2 at h2;unfold SOp;split at h2
 ·rename_i hi
  try rw [hi]
  try simp only
  split at h2
  ·rename_i g args ha
   try rw [ha]
   exact h2.mono fun a s ⟨e1,e2⟩=>by rw [e1,e2];exact k
  ·exact h2.elim
 ·rename_i hi
  try rw [hi]
  try simp only
  split at h2
  ·rename_i a s ha
   try rw [ha]
   obtain ⟨e1,e2⟩:=h2
   try simp only
   rw [e1,e2];exact k
  ·exact h2.elim
theorem zAu{all:List Oper}{K:Ev→St→Prop}:∀{l:List Oper} {env:Ev} {st:St} {env':Ev} {st':St},zEZ P call all l env st=some (env',st')→K env' st'→zDC P all l env st K
 | [],env,st,env',st',h,k=>by unfold zEZ at h;cases h;exact k
 |o ::rest,env,st,env',st',h,k=>by
  unfold zEZ at h;unfold zDC;split at h
  ·rename_i hg
   try rw [hg]
   try simp only
   split at h
   ·rename_i av s1 ho;exact zGA hc ho (zAu h k)
   ·cases h
  ·rename_i hg
   try rw [hg]
   exact zAu h k
  ·cases h
end
def zxC(P:Program):Op→Bool
 |.call c=>match c.callee with |.builtin .len=>false |_=>true
 |.convert _ d _=>match zcg P d with |some ti=>(match ti.k with |.int _=>false |.str=>false |_=>true) |none=>true
 |.slice _ _ _ _ mx=>mx.isSome
 |.move _ |.assign _ |.pick .. |.binOp .. |.unOp .. |.extract .. |.load .. |.fieldAddr .. |.indexAddr .. |.index .. |.build .. |.nilCheck .. |.makeFunc .. |.lookup .. |.field ..=>false
 |_=>true
theorem zc5{α:Type}{x:Option α}{f:α→AV×St}{av:AV}{st st':St}(hf:∀a,(f a).2=st)(h:x.map f=some (av,st')):st'=st:=by
 cases x with
 |none=>cases h
 |some a =>
  have h1:f a=(av,st'):=sm h;rw [←hf a,h1]
def zGu:Value→Value→Bool
 |.int k n,.int k' n'=>decide (k=k')&&decide (n=n')
 |.bool a,.bool b=>a == b
 |.string a,.string b=>decide (a.data.toList=b.data.toList)
 |.slice none 0 0,.slice none 0 0=>true
 |.pointer none,.pointer none=>true
 |.tuple a,.tuple b=>a.size == 0&&b.size == 0
 |_,_=>false
mutual
def avB:AV→AV→Bool
 |.lit a,.lit b=>zGu a b
 |.msl a b c,.msl a' b' c'=>Nat.beq a a'&&(Nat.beq b b'&&Nat.beq c c')
 |.mpt a b c,.mpt a' b' c'=>Nat.beq a a'&&(Nat.beq b b'&&Nat.beq c c')
 |.mmp l,.mmp r=>Nat.beq l r
 |.agg l,.agg r=>zBk l r
 |.tup l,.tup r=>zBk l r
 |.fn (.func f) a b,.fn (.func g) c d=>Nat.beq f g&&(zBk a c&&zBk b d)
 |_,_=>false
def zBk:List AV→List AV→Bool
 | [],[]=>true
 |x ::l,y ::r=>avB x y&&zBk l r
 |_,_=>false
end
theorem zEo{a b:Value}(h:zGu a b=true):a=b:=by
 unfold zGu at h;split at h
 ·simp only [Qd,decide_eq_true_eq] at h;rw [h.1,h.2]
 ·rw [eq_of_beq h]
 ·rename_i a b
  have h1:a.data.toList=b.data.toList:=by simpa using h
  obtain ⟨⟨l⟩⟩:=a;obtain ⟨⟨r⟩⟩:=b;have h2:l=r:=h1;rw [h2]
 ·rfl
 ·rfl
 ·rename_i a b;simp only [Qd,beq_iff_eq] at h;rw [JT h.1,JT h.2]
 ·cases h
mutual
theorem zy6:∀{a b:AV},avB a b=true→a=b
 |.lit a,b,h=>by
  cases b with
  |lit c=>unfold avB at h;rw [zEo h]
  |_=>unfold avB at h;cases h
 |.msl l i n,b,h=>by
  cases b with
  |msl l' i' n' =>
   unfold avB at h;simp only [Qd] at h;rw [Qj h.1,Qj h.2.1,Qj h.2.2]
  |_=>unfold avB at h;cases h
 |.mpt l i n,b,h=>by
  cases b with
  |mpt l' i' n' =>
   unfold avB at h;simp only [Qd] at h;rw [Qj h.1,Qj h.2.1,Qj h.2.2]
  |_=>unfold avB at h;cases h
 |.agg l,b,h=>by
  cases b with
  |agg r=>unfold avB at h;rw [zpK h]
  |_=>unfold avB at h;cases h
 |.tup l,b,h=>by
  cases b with
  |tup r=>unfold avB at h;rw [zpK h]
  |_=>unfold avB at h;cases h
 |.mmp l,b,h=>by
  cases b with
  |mmp r=>unfold avB at h;rw [Qj h]
  |_=>unfold avB at h;cases h
 |.imp _,b,h=>by unfold avB at h;cases h
 |.any,b,h=>by unfold avB at h;cases h
 |.isl _ _,b,h=>by unfold avB at h;cases h
 |.ipt _ _ _ _,b,h=>by unfold avB at h;cases h
 |.fn f x y,b,h=>by
  cases b with
  |fn g u v =>
   cases f with
   |func n =>
    cases g with
    |func n' =>
     unfold avB at h;simp only [Qd] at h;rw [Qj h.1,zpK h.2.1,zpK h.2.2]
    |_=>unfold avB at h;cases h
   |_=>unfold avB at h;cases h
  |_=>cases f <;> unfold avB at h <;> cases h
theorem zpK:∀{a b:List AV},zBk a b=true→a=b
 | [],[],_=>rfl
 |x ::l,y ::r,h=>by
  unfold zBk at h;simp only [Qd] at h;rw [zy6 h.1,zpK h.2]
 | [],_ :: _,h=>by unfold zBk at h;cases h
 |_ :: _,[],h=>by unfold zBk at h;cases h
end
theorem zvq{st st':St}{ks kd ke:TK}{x av:AV}(hk:(match kd with |.int _=>false |.str=>false |_=>true)=false)(h:zyQ st ks kd ke x=some (av,st')):st'=st:=by
 unfold zyQ at h;split at h
 ·cases h;rfl
 ·split at h
  ·cases h;rfl
  ·cases h
 ·split at h
  ·split at h
   ·exact zc5 (fun _=>rfl) h
   ·cases h
  ·cases h
 ·cases hk
 ·cases h
theorem zxI{st st':St}{b:Bool}{ks ke:TK}{x av:AV}(h:zDE st b ks ke x=some (av,st')):st'=st:=by
 unfold zDE at h;split at h
 ·split at h
  ·split at h
   ·cases h;rfl
   ·cases h
  ·cases h
 ·cases h
section
variable (P : Program) (call : FuncId → List AV → St → Option (AV × St))
def zal(all:List Oper)(env0 F:Ev)(i:Nat)(o:Oper):Ev:=sel F (ea all env0 i) (zff all o.after.toList)
def zGc(all:List Oper)(env0 F:Ev)(st:St)(i:Nat)(o:Oper):Option AV:=
 match zl4 (zal all env0 F i o) (zj1 all o.guard) with
 |some true=>match zxC P o.op with |true=>none |false=>(match zhF o.op with |true=>none |false=>(match aop P (zal all env0 F i o) st o.op with |some r=>some r.1 |none=>none))
 |some false=>some (.lit undef)
 |none=>none
def zwI(all:List Oper)(ss p:List Nat)(env0:Ev)(st:St)(en:List Nat)(F:Ev):List Oper→Nat→List Nat→Ev→Option (List Nat×Ev)
 | [],_,en',X=>some (en',X)
 |o ::r,i,en',X =>
  match zfz i ss||zfz i en||!ziU all ss p (en'++en) i with
  |true=>zwI all ss p env0 st en F r (i+1) en' X
  |false =>
   match zGc P all env0 (X++F) st i o with
   |some v=>zwI all ss p env0 st en F r (i+1) (i ::en') (aput o.dst v X)
   |none=>none
def zEy(all:List Oper)(env0 F:Ev)(st:St)(p:List Nat):List Nat→Bool
  | []=>true
  |i ::r =>
    (match zv7 all i p with
     |false=>true
     |true =>
       match all[i]? with
       |some o=>(match zGc P all env0 F st i o with |some v=>(match o.dst with |some t=>(match look F t with |some u=>avB u v |none=>false) |none=>true) |none=>false)
       |none=>false)&&zEy all env0 F st p r
def zCi(all:List Oper)(ss p en:List Nat)(s:Nat):List Nat→Bool
 | []=>true
 |x ::r=>(Nat.beq x s||(zfz x p||!ziU all ss p en x))&&zCi all ss p en s r
def zz7(all:List Oper)(ss p en:List Nat):List Nat→Option Nat
 | []=>none
 |x ::r=>match zfz x p||!ziU all ss p en x with |true=>zz7 all ss p en r |false=>some x
def zve(all:List Oper)(ss:List Nat)(env0:Ev)(p en:List Nat)(F:Ev)(st:St)(s:Nat):Option (List Nat×Ev×St):=
 match all[s]? with
 |some o =>
  match zl4 (zal all env0 F s o) (zj1 all o.guard),rOp P call o.op (zal all env0 F s o) st with
  |some true,some (av,st') =>
   match zwI P all ss (s ::p) env0 st' en (aput o.dst av F) all 0 [] [] with
   |some (en',X) =>
    match zdY (zdM (X++aput o.dst av [])) F&&(zjz all ((s ::p)++(en'++en)) (zdM (X++aput o.dst av []))&&(match o.dst with |some t=>!zfz t (zdM X) |none=>true)) with
    |true=>some (en'++en,(X++aput o.dst av [])++F,st')
    |false=>none
   |none=>none
  |_,_=>none
 |none=>none
def rDT(all:List Oper)(ss:List Nat)(env0:Ev):Nat→List Nat→List Nat→Ev→St→Option (Ev×St)
 | 0,p,en,F,st =>
  match zEy P all env0 F st p en&&(zhS all ss p en&&zlo p ss) with
  |true=>some (F++zo9 (zwO all) env0,st)
  |false=>none
 |n+1,p,en,F,st =>
  match zEy P all env0 F st p en&&(zhS all ss p en&&!zlo p ss) with
  |true =>
   match zz7 all ss p en ss with
   |some s =>
    match zCi all ss p en s ss with
    |true =>
     match zve P call all ss env0 p en F st s with
     |some (en2,F2,st2)=>rDT all ss env0 n (s ::p) en2 F2 st2
     |none=>none
    |false=>none
   |none=>none
  |false=>none
def zFK(all:List Oper)(ss:List Nat)(env0:Ev):Nat→List Nat→List Nat→Ev→St→Option (Ev×St)
 | 0,p,en,F,st=>some (F++zo9 (zwO all) env0,st)
 |n+1,p,en,F,st =>
  match zz7 all ss p en ss with
  |some s =>
   match zve P call all ss env0 p en F st s with
   |some (en2,F2,st2)=>zFK all ss env0 n (s ::p) en2 F2 st2
   |none=>none
  |none=>none
def zvH(k:Nat):List Nat→List Nat→zgC
 | [],_=>[]
 |x ::r,done=>match Nat.blt x k||zfz x done with |true=>zvH k r done |false=>.old x ::zvH k r (x ::done)
def zAb:Nat→Nat→St→zgC
 | 0,_,_=>[]
 |_+1,_,[]=>[]
 |n+1,i,none ::r=>.dead ::zAb n (i+1) r
 |n+1,i,some _ ::r=>.old i ::zAb n (i+1) r
def ztA(env:Ev):List Nat→List Nat→List Nat
 | [],a=>a
 |t ::r,a=>match look env t with |some v=>zCr v (ztA env r a) |none=>ztA env r a
def zBM(nb0 k:Nat)(ts:List Nat)(env:Ev)(st:St):Option (Ev×St):=
 let e:=zA1 [] env
 let L:=zAb k 0 st++zvH k (ztA e ts (zyr st (zzB st) (ztA e ts []) [])) []
 match zmV L&&(zzL nb0 L&&Nat.ble nb0 L.length) with
 |true=>match tnE L e,tnS L st L with |some e',some s'=>some (e',s') |_,_=>none
 |false=>none
def evB:Ev→Ev→Bool
 | [],_=>true
 |(t,v)::r,e=>(match look e t with |some u=>avB u v |none=>false)&&evB r e
def zCt:List (List AV)→List (List AV)→Bool
 | [],[]=>true
 |x ::l,y ::r=>zBk x y&&zCt l r
 |_,_=>false
def stB:St→St→Bool
 | [],[]=>true
 |none ::l,none ::r=>stB l r
 |some (k,a)::l,some (k',b)::r=>(Nat.beq k k'&&zCt a b)&&stB l r
 |_,_=>false
def zyU(nb0 k:Nat)(ts:List Nat)(E:Ev)(S:St)(all:List Oper)(ss:List Nat)(env0:Ev):Nat→List Nat→List Nat→Ev→St→Bool
 | 0,p,en,F,st =>
  zEy P all env0 F st p en&&(zhS all ss p en&&(zlo p ss&&(match zBM nb0 k ts (F++zo9 (zwO all) env0) st with |some (e,s)=>evB E e&&stB S s |none=>false)))
 |n+1,p,en,F,st =>
  zEy P all env0 F st p en&&(zhS all ss p en&&(!zlo p ss&&ss.all fun s=>zfz s p||(!ziU all ss p en s||(match zve P call all ss env0 p en F st s with |some (en2,F2,st2)=>zyU nb0 k ts E S all ss env0 n (s ::p) en2 F2 st2 |none=>false))))
end
section
variable {P : Program} {call : FuncId → List AV → St → Option (AV × St)}
theorem zy1{op:Op}{env:Ev}{st st':St}{av:AV}(ht:zxC P op=false)(h:aop P env st op=some (av,st')):st'=st:=by
 cases op <;> simp only [zxC] at ht <;> try cases ht
 case move=>exact zc5 (fun _=>rfl) h
 case assign=>exact zc5 (fun _=>rfl) h
 case pick =>
  simp only [aop] at h;split at h
  ·exact zc5 (fun _=>rfl) h
  ·exact zc5 (fun _=>rfl) h
  ·cases h
 case load =>
  simp only [aop] at h;split at h
  ·exact zc5 (fun _=>rfl) h
  ·cases h
 case nilCheck =>
  simp only [aop] at h;split at h
  ·split at h
   ·cases h;rfl
   ·cases h
  ·cases h
 case binOp =>
  simp only [aop] at h;split at h
  ·exact zc5 (fun _=>rfl) h
  ·cases h
 case unOp =>
  simp only [aop] at h;split at h
  ·exact zc5 (fun _=>rfl) h
  ·cases h
 case build =>
  simp only [aop] at h;split at h
  ·split at h
   ·exact zc5 (fun _=>rfl) h
   ·split at h
    ·exact zc5 (fun _=>rfl) h
    ·cases h
   ·cases h
  ·cases h
 case makeFunc fn first caps =>
  cases fn with
  |func f =>
   simp only [aop] at h;split at h
   ·cases h;rfl
   ·cases h
  |_=>simp only [aop] at h;cases h
 case extract =>
  simp only [aop] at h;split at h
  ·exact zc5 (fun _=>rfl) h
  ·cases h
 case fieldAddr =>
  simp only [aop] at h;split at h
  ·split at h
   ·exact zc5 (fun _=>rfl) h
   ·cases h
  ·cases h
 case indexAddr =>
  simp only [aop] at h;split at h
  ·split at h
   ·split at h
    ·exact zc5 (fun _=>rfl) h
    ·cases h
   ·cases h
  ·cases h
 case field =>
  simp only [aop] at h;split at h
  ·exact zc5 (fun _=>rfl) h
  ·cases h
 case lookup =>
  simp only [aop] at h;split at h
  ·exact zc5 (fun _=>rfl) h
  ·exact zc5 (fun _=>rfl) h
  ·cases h
 case index =>
  simp only [aop] at h;split at h
  ·split at h
   ·exact zc5 (fun _=>rfl) h
   ·cases h
  ·split at h
   ·split at h
    ·exact zc5 (fun _=>rfl) h
    ·cases h
   ·cases h
  ·cases h
 case convert =>
  split at ht
  ·rename_i ti hti;simp only [aop] at h;split at h
   ·rename_i is id v h1 h2 h3;rw [hti] at h2;cases h2;split at h
    ·split at h
     ·rename_i r hr;cases h;exact zvq ht hr
     ·exact zxI h
    ·cases h
   ·cases h
  ·cases ht
 case slice t x lo hi mx =>
  cases mx with
  |some _=>cases ht
  |none =>
   simp only [aop] at h;split at h
   ·split at h
    ·split at h
     ·exact zc5 (fun _=>rfl) h
     ·cases h
    ·split at h
     ·split at h
      ·cases h;rfl
      ·cases h
     ·cases h
    ·cases h
   ·cases h
 case call c =>
  obtain ⟨callee,args,ats⟩:=c;simp only at ht;split at ht
  ·simp only [aop,ziV] at h;split at h
   ·rename_i h1 _ _;unfold zqb at h;split at h
    ·split at h
     ·cases h;rfl
     ·cases h;rfl
     ·split at h
      ·cases h;rfl
      ·cases h
     ·cases h;rfl
     ·cases h
    ·cases h
   ·rename_i h1 _ _;cases h1
   ·rename_i h1 _;cases h1
   ·rename_i h1 _ _;cases h1
   ·cases h
  ·cases ht
theorem zAt{all:List Oper}{env0 F:Ev}{st:St}{i:Nat}{o:Oper}{v:AV}(h:zGc P all env0 F st i o=some v):zC1 P all (ea all env0 i) st F o v:=by
 unfold zGc at h;unfold zC1;have e:zal all env0 F i o=sel F (ea all env0 i) (zff all o.after.toList):=rfl;rw [e] at h;split at h
 ·rename_i hg
  try rw [hg]
  try simp only
  split at h
  ·cases h
  ·rename_i ht;split at h
   ·cases h
   ·rename_i hi;split at h
    ·rename_i r hr;cases h;obtain ⟨r1,r2⟩:=r;have:=zy1 ht hr;subst this;unfold zt2
     try rw [hi]
     try simp only
     rw [hr];exact ⟨rfl,rfl⟩
    ·cases h
 ·rename_i hg
  try rw [hg]
  try simp only
  cases h;rfl
 ·cases h
theorem zps{all:List Oper}{env0 F:Ev}{st:St}{p:List Nat}:∀{en:List Nat},zEy P all env0 F st p en=true→zvl P all env0 F st p en
 | [],_=>trivial
 |i ::r,h=>by
  unfold zEy at h;rw [Qd] at h;refine ⟨fun hp=>?_,zps h.2⟩;have h1:=h.1;rw [hp] at h1;simp only at h1;unfold zi6;split at h1
  ·rename_i o ho
   try rw [ho]
   try simp only
   split at h1
   ·rename_i v hv;split at h1
    ·rename_i t ht
     try rw [ht]
     try simp only
     split at h1
     ·rename_i u hu;rw [zy6 h1] at hu;exact ⟨v,hu,zAt hv⟩
     ·cases h1
    ·rename_i ht
     try rw [ht]
     exact ⟨v,trivial,zAt hv⟩
   ·cases h1
  ·cases h1
theorem zzT{X e:Ev}{t:Nat}(h:zfz t (zdM X)=false):look (X++e) t=look e t:=by
 induction X with
 |nil=>rfl
 |cons p X ih =>
  obtain ⟨k,x⟩:=p;simp only [zdM,zfz,Qo] at h;simp only [JR,look];rw [if_neg (fun e=>by rw [e] at h;simp at h)];exact ih h.2
theorem zAh{all:List Oper}{ss p en:List Nat}{s:Nat}:∀{l:List Nat},zCi all ss p en s l=true→∀x,zfz x l=true→zfz x p=false→ziU all ss p en x=true→x=s
 | [],_,x,h,_,_=>by cases h
 |y ::r,h,x,hm,hp,hw=>by
  unfold zCi at h;rw [Qd] at h;simp only [zfz,Qw] at hm
  rcases hm with hm |hm
  ·have e:=Qj hm;subst e;have h1:=h.1;rw [hp,hw] at h1;simp at h1;exact h1
  ·exact zAh h.2 x hm hp hw
theorem zt2.mono{op:Op}{env:Ev}{st:St}{K K':AV→St→Prop}(h:zt2 P op env st K)(hk:∀a s,K a s→K' a s):zt2 P op env st K':=by
 unfold zt2 at h ⊢;split at h
 ·split at h
  ·exact h.mono hk
  ·exact h.elim
 ·split at h
  ·exact hk _ _ h
  ·exact h.elim
theorem zxr(hc:zqN P call){all:List Oper}{ss:List Nat}{env0:Ev}{K:Ev→St→Prop}{n:Nat}{p en:List Nat}{F:Ev}{st:St}{s:Nat}{en2:List Nat}{F2:Ev}{st2:St}
  (h:zve P call all ss env0 p en F st s=some (en2,F2,st2)) (hd:DT P all ss env0 K n (s ::p) en2 F2 st2):
  match all[s]? with
   |some o=>zl4 (sel F (ea all env0 s) (zff all o.after.toList)) (zj1 all o.guard)=some true∧zt2 P o.op (sel F (ea all env0 s) (zff all o.after.toList)) st (fun av st'=>∃en' new,
     zdY (zdM new) F=true∧zjz all ((s ::p)++(en'++en)) (zdM new)=true∧(match o.dst with |some t=>look (new++F) t=some av |none=>True)∧DT P all ss env0 K n (s ::p) (en'++en) (new++F) st')
   |none=>False:=by
 unfold zve at h;split at h
 case h_2=>cases h
 rename_i o ho;split at h
 case h_2=>cases h
 rename_i av s1 hg hop;refine ⟨hg,?_⟩;refine zt2.mono (zFT hc hop) fun a s ⟨e1,e2⟩=>?_;subst e1;subst e2;split at h
 case h_2=>cases h
 rename_i en' X hcl;split at h
 case h_2=>cases h
 rename_i hk;simp only [Qd] at hk;cases h;refine ⟨en',X++aput o.dst a [],hk.1,hk.2.1,?_,hd⟩;have hkk:=hk.2.2
 cases hd:o.dst with
 |none=>trivial
 |some t =>
  try simp only
  rw [hd] at hkk;simp only [Qk] at hkk;rw [QX,zzT hkk];simp [aput,look]
theorem zFS(hc:zqN P call){all:List Oper}{ss:List Nat}{env0:Ev}{K:Ev→St→Prop}:∀{n:Nat} {p en:List Nat} {F:Ev} {st:St} {env':Ev} {st':St},rDT P call all ss env0 n p en F st=some (env',st')→K env' st'→DT P all ss env0 K n p en F st
 | 0,p,en,F,st,env',st',h,k=>by
  unfold rDT at h;split at h
  ·rename_i hb;simp only [Qd] at hb;cases h;exact ⟨zps hb.1,hb.2.1,hb.2.2,k⟩
  ·cases h
 |n+1,p,en,F,st,env',st',h,k=>by
  unfold rDT at h;split at h
  case h_2=>cases h
  rename_i hb;simp only [Qd,Qk] at hb;refine ⟨zps hb.1,hb.2.1,hb.2.2,fun x hx hp hw=>?_⟩;split at h
  case h_2=>cases h
  rename_i s hs;split at h
  case h_2=>cases h
  rename_i hon;have e:=zAh hon x hx hp hw;subst e;split at h
  case h_2=>cases h
  rename_i en2 F2 st2 hstep;exact zxr hc hstep (zFS hc h k)
theorem zFf{E e:Ev}:evB E e=true→∀t v,look E t=some v→look e t=some v:=by
 induction E with
 |nil=>intro _ t v h;cases h
 |cons p r ih =>
  obtain ⟨k,x⟩:=p;intro h t v hl;simp only [evB,Qd] at h;simp only [look] at hl;split at hl
  ·rename_i ekt;subst ekt;cases hl;have h1:=h.1;split at h1
   ·rename_i u hu;rw [hu,zy6 h1]
   ·cases h1
  ·exact ih h.2 t v hl
theorem zxo:∀{a b:List (List AV)},zCt a b=true→a=b
 | [],[],_=>rfl
 |x ::l,y ::r,h=>by
  simp only [zCt,Qd] at h;rw [zpK h.1,zxo h.2]
 | [],_ :: _,h=>by cases h
 |_ :: _,[],h=>by cases h
theorem zAK:∀{a b:St},stB a b=true→a=b
 | [],[],_=>rfl
 |none ::l,none ::r,h=>by
  simp only [stB] at h;rw [zAK h]
 |some (k,a)::l,some (k',b)::r,h=>by
  simp only [stB,Qd] at h;rw [Qj h.1.1,zxo h.1.2,zAK h.2]
 | [],_ :: _,h=>by cases h
 |none :: _,[],h=>by cases h
 |some _ :: _,[],h=>by cases h
 |none :: _,some _ :: _,h=>by cases h
 |some (_,_):: _,none :: _,h=>by cases h
theorem zln.less{st:St}{L:zgC}{env:Ev}:∀{E e:Ev},zln st L e env→(∀t v,look E t=some v→look e t=some v)→zsd E=true→zln st L E env
 | [],_,_,_,_=>trivial
 |(t,v)::r,e,h,hl,ho=>by
  simp only [zsd,Qd,Qk] at ho;refine ⟨h.get t v (hl t v (by simp [look])),zln.less (E:=r) h (fun u x hu=>hl u x ?_) ho.2⟩;simp only [look];split
  ·rename_i ekt;subst ekt;exact absurd (zij.2 (zk5 hu)) (by rw [ho.1];decide)
  ·exact hu
theorem zzA{nb0 k:Nat}{ts:List Nat}{E e env:Ev}{S s st:St}(ho:zsd E=true)(h:zBM nb0 k ts env st=some (e,s))(hE:evB E e=true)(hS:stB S s=true):Can nb0 E S env st:=by
 unfold zBM at h;simp only at h;split at h
 case h_2=>cases h
 rename_i hcc;simp only [Qd] at hcc;split at h
 case h_2=>cases h
 rename_i a b ha hb;cases h;have hs:=zAK hS;subst hs;refine ⟨_,zln.less (zA5 ha (fun t v ht=>(zm8 ht).2) (fun t ht=>zts ht) zpD.1) (zFf hE) ho,hcc.1,zvh hb,hcc.2.1,?_⟩;rw [zrH hb];exact QA hcc.2.2
theorem zyV(hc:zqN P call){nb0 k:Nat}{ts:List Nat}{E:Ev}{S:St}(ho:zsd E=true){all:List Oper}{ss:List Nat}{env0:Ev}:∀{n:Nat} {p en:List Nat} {F:Ev} {st:St},
  zyU P call nb0 k ts E S all ss env0 n p en F st=true→DT P all ss env0 (fun env st=>Can nb0 E S env st) n p en F st
 | 0,p,en,F,st,h=>by
  simp only [zyU,Qd] at h;refine ⟨zps h.1,h.2.1,h.2.2.1,?_⟩;have h1:=h.2.2.2;split at h1
  ·rename_i e s hf;rw [Qd] at h1;exact zzA ho hf h1.1 h1.2
  ·cases h1
 |n+1,p,en,F,st,h=>by
  simp only [zyU,Qd,Qk] at h;refine ⟨zps h.1,h.2.1,h.2.2.1,fun x hx hp hw=>?_⟩;have h1:=Qs.1 h.2.2.2 x (zij.1 hx);rw [hp,hw] at h1;simp only [Qp,Jb] at h1;split at h1
  ·rename_i en2 F2 st2 hstep;exact zxr hc hstep (zyV hc ho h1)
  ·cases h1
def zxD(all:List Oper):List Oper→Nat→Ev→St→List Nat
 | [],_,_,_=>[]
 |o ::r,i,env,st =>
  match zg6 all env o with
  |some true =>
   match rOp P call o.op env st with
   |some (av,st')=>match zxC P o.op with |true=>i ::zxD all r (i+1) (aput o.dst av env) st' |false=>zxD all r (i+1) (aput o.dst av env) st'
   |none=>[]
  |some false=>zxD all r (i+1) (aput o.dst (.lit undef) env) st
  |none=>[]
end
section
variable (P : Program) (call : FuncId → List AV → St → Option (AV × St))
def zGz(nb0 n:Nat)(all:List Oper)(env:Ev)(st:St):Option (Ev×St):=
 let ss:=zxD (P:=P) (call:=call) all all 0 env st
 match zs1 n all&&zsb all.length ss with
 |true =>
  match zwI P all ss [] env st [] [] all 0 [] [] with
  |some (en,F) =>
   match zjz all en (zdM F) with
   |true =>
    match rDT P call all ss env ss.length [] en F st with
    |some r=>some r
    |none =>
     match zFK P call all ss env ss.length [] en F st with
     |some (e1,s1) =>
      match zBM nb0 st.length (zwO all) e1 s1 with
      |some (E,S)=>match zsd E&&zyU P call nb0 st.length (zwO all) E S all ss env ss.length [] en F st with |true=>some (E,S) |false=>none
      |none=>none
     |none=>none
   |false=>none
  |none=>none
 |false=>none
def zlf(nb0:Nat):Nat→Nat→Code→Ev→St→Option (Exit×Ev×St)
 | 0,_,_,_,_=>none
 |f+1,n,c,env,st =>
  match c with
  |.skip=>some (.normal,env,st)
  |.ret=>some (.ret,env,st)
  |.exit id=>some (.exit id,env,st)
  |.seq x y =>
   match zlf nb0 f n x env st with
   |some (.normal,e,s)=>zlf nb0 f n y e s
   |some (.ret,e,s)=>some (.ret,e,s)
   |some (.exit i,e,s)=>some (.exit i,e,s)
   |_=>none
  |.cond c x y =>
   match ev env c with
   |some (.lit (.bool true))=>zlf nb0 f n x env st
   |some (.lit (.bool false))=>zlf nb0 f n y env st
   |_=>none
  |.block id c =>
   match zlf nb0 f n c env st with
   |some (.exit i,e,s)=>match Nat.beq i id with |true=>some (.normal,e,s) |false=>some (.exit i,e,s)
   |some (.normal,e,s)=>some (.normal,e,s)
   |some (.ret,e,s)=>some (.ret,e,s)
   |_=>none
  |.loop c =>
   match zlf nb0 f n c env st with
   |some (.normal,e,s) =>
    match Nat.beq s.length st.length with
    |true=>zlf nb0 f n (.loop c) (zA1 [] e) s
    |false=>match zGM nb0 e s with |some (e',s')=>zlf nb0 f n (.loop c) e' s' |none=>none
   |some (.ret,e,s)=>some (.ret,e,s)
   |some (.exit i,e,s)=>some (.exit i,e,s)
   |_=>none
  |.region _ ops d =>
   match d with
   |false =>
    match ops.toList.all (fun o=>o.dst.all (·<n)) with
    |true=>match zEZ P call ops.toList ops.toList env st with |some (e,s)=>some (.normal,e,s) |none=>none
    |false=>none
   |true=>match zGz P call nb0 n ops.toList env st with |some (e,s)=>some (.normal,e,s) |none=>none
  |_=>none
end
def isR(r:Exit×Ev×St):Exit→Ev→St→Prop:=fun x e s=>(x,e,s)=r
theorem SW.less{P:Program}{n nb0:Nat}{c:Code}{Q:Exit→Ev→St→Prop}{env env':Ev}{st:St}(hs:∀t v,look env' t=some v→look env t=some v)(h:SW P n nb0 c Q env' st):SW P n nb0 c Q env st:=
 fun A m w a h0 hR hE=>h A m w a h0 hR (hE.less hs)
theorem zFR{P:Program}{call:FuncId→List AV→St→Option (AV×St)}(hc:zqN P call)(hm:P.follows .mixedOrders=true){n nb0 id:Nat}{ops:Array Oper}{env:Ev}{st:St}{e:Ev}{s:St}(h:zGz P call nb0 n ops.toList env st=some (e,s)){Q:Exit→Ev→St→Prop}(k:Q .normal e s):
  SW P n nb0 (.region id ops true) Q env st:=by
 unfold zGz at h;simp only at h;split at h
 case h_2=>cases h
 rename_i h1;rw [Qd] at h1;split at h
 case h_2=>cases h
 rename_i en F hcl;split at h
 case h_2=>cases h
 rename_i hk;split at h
 ·rename_i r hr;cases h;exact zbx _ en F _ hm h1.1 (by simpa using h1.2) hk (zFS hc hr k)
 ·split at h
  case h_2=>cases h
  rename_i e1 s1 hone;split at h
  case h_2=>cases h
  rename_i E S hf;split at h
  case h_2=>cases h
  rename_i ha;rw [Qd] at ha;cases h;exact rdL e s _ en F _ hm h1.1 (by simpa using h1.2) hk (zyV hc ha.1 ha.2) k
section
variable {P : Program} {call : FuncId → List AV → St → Option (AV × St)} (hc : zqN P call) (hm : P.follows .mixedOrders = true) {n nb0 : Nat}
include hc hm
theorem zxk:∀(F f:Nat),f≤F→∀{c:Code} {env:Ev} {st:St} {r:Exit×Ev×St},zlf P call nb0 f n c env st=some r→SW P n nb0 c (isR r) env st
 |_,0,_,_,_,_,_,h=>by cases h
 | 0,f+1,hf,_,_,_,_,_=>by omega
 |F+1,f+1,hf,c,env,st,r,h=>by
  have go:∀{k:Nat},k≤F→∀{c:Code} {env:Ev} {st:St} {r:Exit×Ev×St},zlf P call nb0 k n c env st=some r→SW P n nb0 c (isR r) env st:=fun hk _ _ _ _ h=>zxk F _ hk h;have ziP:∀{c:Code} {env:Ev} {st:St} {r:Exit×Ev×St},zlf P call nb0 f n c env st=some r→SW P n nb0 c (isR r) env st:=fun h=>go (by omega) h
  cases c <;> simp only [zlf] at h <;> try cases h
  case skip=>exact zg rfl
  case ret=>exact zL rfl
  case exit=>exact zJ rfl
  case seq x y =>
   split at h
   ·rename_i e s hx;exact zi ((ziP hx).mono fun x1 e1 s1 h1=>by cases h1;exact ziP h)
   ·rename_i e s hx;cases h;exact zi ((ziP hx).mono fun x1 e1 s1 h1=>by cases h1;exact rfl)
   ·rename_i e s hx;cases h;exact zi ((ziP hx).mono fun x1 e1 s1 h1=>by cases h1;exact rfl)
   ·cases h
  case cond o x y =>
   split at h
   ·rename_i hv;exact zd7 hv (fun _=>ziP h) (fun h1=>by cases h1)
   ·rename_i hv;exact zd7 hv (fun h1=>by cases h1) (fun _=>ziP h)
   ·cases h
  case block id c =>
   split at h
   ·rename_i i e s hx;split at h
    ·rename_i hb;cases h
     exact zs ((ziP hx).mono fun x1 e1 s1 h1=>by
      cases h1;simp only [zqS]
      rw [if_pos (Qj hb)];rfl)
    ·rename_i hb;cases h
     exact zs ((ziP hx).mono fun x1 e1 s1 h1=>by
      cases h1;simp only [zqS]
      rw [if_neg (fun e=>by rw [e] at hb;simp at hb)];rfl)
   ·rename_i hx;cases h;exact zs ((ziP hx).mono fun x1 e1 s1 h1=>by cases h1;exact rfl)
   ·rename_i hx;cases h;exact zs ((ziP hx).mono fun x1 e1 s1 h1=>by cases h1;exact rfl)
   ·cases h
  case loop c =>
   have h0:zlf P call nb0 (f+1) n (.loop c) env st=some r:=by simp only [zlf];exact h
   clear h;refine zwr (fun k env st=>k≤f+1∧∃e2 s2,(Can nb0 e2 s2 env st∨(s2=st∧∀t v,look e2 t=some v→look env t=some v))∧zlf P call nb0 k n (.loop c) e2 s2=some r) (f+1) ⟨Qg _,env,st,.inr ⟨rfl,fun _ _ h=>h⟩,h0⟩ ?_;rintro k env st ⟨hk,e2,s2,hor,h⟩
   cases k with
   |zero=>cases h
   |succ k =>
    have main:SW P n nb0 c (zyF (fun env st=>∃k',k'<k+1∧k'≤f+1∧∃e2 s2,(Can nb0 e2 s2 env st∨(s2=st∧∀t v,look e2 t=some v→look env t=some v))∧zlf P call nb0 k' n (.loop c) e2 s2=some r) (isR r)) e2 s2:=by
     simp only [zlf] at h
     have hk':k≤F:=by omega
     split at h
     ·rename_i e s hx;refine (go hk' hx).mono fun x1 e1 s1 h1=>?_;cases h1;split at h
      ·exact ⟨k,QE k,by omega,_,_,.inr ⟨rfl,fun t v ht=>(zm8 ht).2⟩,h⟩
      ·split at h
       ·rename_i e' s' ht;exact ⟨k,QE k,by omega,_,_,.inl (zCO ht),h⟩
       ·cases h
     ·rename_i hx;cases h;exact (go hk' hx).mono fun x1 e1 s1 h1=>by cases h1;exact rfl
     ·rename_i hx;cases h;exact (go hk' hx).mono fun x1 e1 s1 h1=>by cases h1;exact rfl
     ·cases h
    rcases hor with hcan |⟨rfl,hl⟩
    ·exact zsP hcan main
    ·exact SW.less hl main
  case region id ops d =>
   cases d with
   |false =>
    simp only at h;split at h
    ·rename_i hd;split at h
     ·rename_i e s ho;cases h;exact zAW hd fun K hK=>zAu hc ho (hK _ _ rfl)
     ·cases h
    ·cases h
   |true =>
    simp only at h;split at h
    ·rename_i e s ho;cases h;exact zFR hc hm ho rfl
    ·cases h
theorem ziP{f:Nat}{c:Code}{env:Ev}{st:St}{r:Exit×Ev×St}(h:zlf P call nb0 f n c env st=some r):SW P n nb0 c (isR r) env st:=zxk hc hm f f (Qg _) h
end
def zyq(P:Program)(kn:List Nat):Nat→FuncId→List AV→St→Option (AV×St)
 | 0,_,_,_=>none
 |f+1,g,args,st =>
  match zfz g kn&&args.isEmpty with
  |true=>some (.lit (.bool true),st)
  |false =>
   match P.funcs[g]? with
   |some fn =>
    match fn.body with
    |some c =>
     match fn.name == "runtime.NumGoroutine", Nat.ble args.length fn.ntmps with
     |false,true =>
      match zlf P (zyq P kn f) st.length 100000 fn.ntmps c (zjD 0 args) st with
      |some (.normal,e,s)=>match zBj P fn e s with |some av=>(match Nat.beq s.length st.length with |true=>some (av,s) |false=>zyG st.length av s) |none=>none
      |some (.ret,e,s)=>match zBj P fn e s with |some av=>(match Nat.beq s.length st.length with |true=>some (av,s) |false=>zyG st.length av s) |none=>none
      |_=>none
     |_,_=>none
    |none=>none
   |none=>none
theorem zHe{P:Program}{fn:Func}{nb0:Nat}{e:Ev}{s:St}{av:AV}{st':St}
  (h:(match zBj P fn e s with |some av=>(match Nat.beq s.length nb0 with |true=>some (av,s) |false=>zyG nb0 av s) |none=>none)=some (av,st')):
  (∃av1,zBj P fn e s=some av1∧av1=av∧s=st')∨zoe P fn nb0 av st' e s:=by
 split at h
 ·rename_i av1 ha;split at h
  ·cases h;exact .inl ⟨_,ha,rfl,rfl⟩
  ·exact .inr ⟨av1,ha,zA2 h⟩
 ·cases h
theorem zv9{P:Program}{kn:List Nat}(hm:P.follows .mixedOrders=true)(hk:∀g,zfz g kn=true→zan P g [] (.lit (.bool true))):∀f,zqN P (zyq P kn f)
 | 0,g,args,st,av,st',h=>by cases h
 |f+1,g,args,st,av,st',h=>by
  unfold zyq at h;split at h
  ·rename_i hg;cases h;rw [Qd,List.isEmpty_iff] at hg;rw [hg.2];exact zsN (hk _ hg.1) .nil ⟨rfl,rfl⟩
  split at h
  case h_2=>cases h
  rename_i fn hfn;split at h
  case h_2=>cases h
  rename_i c hcb;split at h
  case h_2=>cases h
  rename_i h1 h2;have hc:=zv9 hm hk f
  have fin:∀{x:Exit} {e:Ev} {s:St},zlf P (zyq P kn f) st.length 100000 fn.ntmps c (zjD 0 args) st=some (x,e,s)→x=.normal∨x=.ret →
    (match zBj P fn e s with |some av=>(match Nat.beq s.length st.length with |true=>some (av,s) |false=>zyG st.length av s) |none=>none)=some (av,st')→zmv P g args st fun a s=>a=av∧s=st':=fun {x e s} hx hxx h=>by
   rcases zHe h with ⟨av1,h3,h4,h5⟩ |h3
   ·refine zsM hfn hcb h1 (QA h2) ((ziP hc hm hx).mono fun x1 e1 s1 h6=>?_);cases h6
    rcases hxx with rfl |rfl
    ·exact ⟨av1,h3,h4,h5⟩
    ·exact ⟨av1,h3,h4,h5⟩
   ·refine zZ hfn hcb h1 h2 ((ziP hc hm hx).mono fun x1 e1 s1 h6=>?_);cases h6
    rcases hxx with rfl |rfl
    ·exact h3
    ·exact h3
  split at h
  ·rename_i hx;exact fin hx (.inl rfl) h
  ·rename_i hx;exact fin hx (.inr rfl) h
  ·cases h
theorem zEC{P:Program}{kn:List Nat}{f:Nat}{g:FuncId}{st:St}(hm:P.follows .mixedOrders=true)(hk:∀g,zfz g kn=true→zan P g [] (.lit (.bool true)))
  (h:zyq P kn f g [] []=some (.lit (.bool true),st)):zan P g [] (.lit (.bool true)):=
 zAs ((zv9 hm hk f _ _ _ _ _ h).mono fun a s ⟨e1,e2⟩=>by subst e1;exact .imm (.lit _))
def zG1:Option (AV×St)→Bool
 |some (.lit (.bool b),_)=>b
 |_=>false
theorem zi4{P:Program}{g:FuncId}(kn:List Nat)(f:Nat)(hm:P.follows .mixedOrders=true)(hk:∀g,zfz g kn=true→zan P g [] (.lit (.bool true)))
  (h:zG1 (zyq P kn f g [] [])=true):zan P g [] (.lit (.bool true)):=by
 unfold zG1 at h;split at h
 ·rename_i b st hr;subst h;exact zEC hm hk hr
 ·cases h
theorem kn1{P:Program}{k:Nat}(h:zan P k [] (.lit (.bool true))):∀g,zfz g [k]=true→zan P g [] (.lit (.bool true)):=fun g hg=>by
 simp only [zfz,Q0] at hg;rw [←Qj hg];exact h
theorem R.trunc{A:Nat→Prop}{m:BM}{w:World}{st:St}(hR:R A m w st){l k:Nat}{els:List (List AV)}(he:st[l]?=some (some (k,els)))(q:Nat)(hk:Nat.beq k 2=false):
  R A m w (st.set l (some (k,els.take q))):=by
 have hl:l<st.length:=(Qb.1 he).1
 have hk2:k≠2:=fun e=>by subst e;cases hk
 refine ⟨hR.aLow,hR.aOwn,hR.inj,fun x b hb=>?_,fun x k' els' hx=>?_⟩
 ·by_cases e:l=x
  ·subst e;exact ⟨els.take q,by rw [QL hl,(hR.at hb he).1]⟩
  ·obtain ⟨els1,h1⟩:=hR.live x b hb;exact ⟨els1,by rw [QC e];exact h1⟩
 ·rw [Q3];by_cases e:l=x
  ·subst e;rw [QL hl] at hx;cases hx;obtain ⟨b,h1,h2,h3,h4⟩:=hR.blk l k els he;refine ⟨b,h1,h2,fun hh=>?_,fun hh=>by rw [h4 hh];simp⟩;have ho:=h3 hh;refine ⟨ho.low,ho.there,ho.free,fun hq=>?_,fun i hi=>?_,fun hq i hi j hj=>?_,fun hq=>?_⟩
   ·refine QI (Nat.add_le_add_left (QR _ ?_) _) (ho.fit hq);simp;omega
   ·simp only [List.getElem_take];exact ho.wide _ _
   ·simp only [List.getElem_take] at hj ⊢;exact ho.val hq i (by simp at hi;omega) j hj
   ·exact absurd (h2.symm.trans (ho.mval hq).1) hk2
  ·rw [QC e] at hx;exact hR.blk x k' els' hx
theorem zzl{α:Type}{l r:List α}{c:Int}(h:zkS l 0 c=some r):r=l.take c.toNat:=by
 unfold zkS at h;split at h
 ·cases h;simp
 ·cases h
section
variable {P : Program} {n nb0 : Nat} {all l1 l2 : List Oper} {K : Ev → St → Prop} {env : Ev} {st : St} {d : Nat} {ty : TypeId} {pos : String} {aft : Array Edge} {gu : Option (Nat × Bool)}
theorem zGL{α:Type}{cd:Code}{Q:Exit→Ev→St→Prop}{b sz:Nat}{l r:List α}{f:α→List AV}{c:Int}(hb:st[b]?=some (some (sz,l.map f)))(hk:Nat.beq sz 2=false)(h:zkS l 0 c=some r)
  (k:SW P n nb0 cd Q env (st.set b (some (sz,r.map f)))):SW P n nb0 cd Q env st:=by
 intro A m w a h0 hR hE
 have e:r.map f=(l.map f).take c.toNat:=by rw [zzl h,List.map_take]
 rw [e] at k
 have hlen:(st.set b (some (sz,(l.map f).take c.toNat))).length=st.length:=by simp
 exact k A m w a (by rw [hlen];exact h0) (hR.trunc hb c.toNat hk) (by rw [hlen];exact hE)
theorem slM{α:Type}{t e:TypeId}{x:Operand}{hi:Option Operand}{ti te:TI}{sz b:Nat}{l r:List α}{f:α→List AV}{c:Int}(ht:zcg P t=some ti)(hk:ti.k=.slc e)(he:zcg P e=some te)(hs:te.size=sz)(hx:ev env x=some (.msl b 0 l.length))
  (hb:st[b]?=some (some (sz,l.map f))) (hhi:zkO env l.length hi=some c.toNat) (h:zkS l 0 c=some r) (k:K ((d,.msl b 0 r.length)::env) st):SOp P ⟨some d,.slice t x none hi none,ty,pos,aft,gu⟩ env st K:=zg5 rfl (by
   unfold zkS at h;split at h
   ·rename_i h1;cases h;have e':zvm (.msl b 0 l.length)=some l.length:=rfl;have e0:zkO env 0 none=some 0:=rfl;simp only [aop,ht,hk,hx,e',he,hhi,e0,zC5,hb];rw [if_pos ⟨hs.symm,by omega,by omega⟩]
    have:((l.drop (0:Int).toNat).take (c.toNat-(0:Int).toNat)).length=c.toNat-0:=by simp;omega
    rw [this];rfl
   ·cases h) k
theorem zHf{α:Type}{sz:Nat}{l:List α}{f:α→List AV}{i:Int}{c:α}(h:idx l i=some c)(k:SR P n nb0 all l1 l2 K ((d,.ipt sz [f c] 0 0)::env) st):SR P n nb0 all l1 l2 K ((d,.ipt sz (l.map f) i.toNat 0)::env) st:=by
 intro ops q ho hd hn A m w a h0 hR hE Q hQ;obtain ⟨_,hi,hc⟩:=zt h;refine k ops q ho hd hn A m w a h0 hR ⟨hE.size,fun t v hl=>?_,hE.defers⟩ Q hQ;simp only [look] at hl;split at hl
 ·rename_i e;cases hl;obtain ⟨h1,h2⟩:=hE.val t (.ipt sz (l.map f) i.toNat 0) (by simp [look,e]);refine ⟨h1,.imm ?_⟩;have h3:=h2.ipt_inv;generalize a.tmps.getD t undef=v at h3
  have hg:(l.map f)[i.toNat]'(by simpa using hi)=f c:=by
   have:=(Qb.1 hc).2;simp [this]
  cases h3 with
  |ipt _ _ _ _ B o vs hA hk hcell hval =>
   have:=VI.ipt (A:=A) (w:=w) sz [f c] 0 0 B (o+i.toNat*sz) (fun _ j=>vs i.toNat j) hA
    (fun i' hi'=>by
     have:i'=0:=by simpa using hi'
     subst this;show (f c).length=sz
     rw [←hg];exact hk _ _)
    (fun i' j hi' hj=>by
     have:i'=0:=by simpa using hi'
     subst this;rw [←hcell i.toNat j (by simpa using hi) hj]
     congr 2;omega)
    (fun i' hi' j hj=>by
     have:i'=0:=by simpa using hi'
     subst this
     have hj':j<((l.map f)[i.toNat]'(by simpa using hi)).length:=by rw [hg];exact hj
     have h5:=hval i.toNat (by simpa using hi) j hj'
     have e5:((l.map f)[i.toNat]'(by simpa using hi))[j]=(f c)[j]'hj:=by simp only [hg]
     rw [e5] at h5
     exact h5)
   simpa using this
 ·rename_i e;exact hE.val t v (by simp [look,e,hl])
theorem zGD{α:Type}{t u' e:TypeId}{x y:Operand}{ti:TI}{sz:Nat}{l:List α}{f:α→List AV}(ht:zcg P t=some ti)(hk:ti.k=.slc e)(hx:ev env x=some (.isl sz (l.map f)))(hy:ev env y=some (.lit (.slice none 0 0)))
  (hh:(l=[]→SR P n nb0 all l1 l2 K ((d,.lit (.bool true))::env) st)∧SR P n nb0 all l1 l2 K ((d,.lit (.bool false))::env) st):SR P n nb0 all (⟨some d,.binOp .eql t x y u',ty,pos,aft,none⟩::l1) l2 K env st:=by
 obtain ⟨h1,h2⟩:=hh;intro ops i ho hd hn A m w a h0 hR hE Q hQ;obtain ⟨hi,hd',hdo⟩:=zGC ho hd hn
 have e:((⟨some d,.binOp .eql t x y u',ty,pos,aft,none⟩:Oper)::l1).length+l2.length=(l1.length+l2.length)+1:=by simp;omega
 rw [e,JS];simp only [wpOps,hi];rw [zg9 (b:=true) hE (by rfl)];simp only [if_true];refine .inl ?_;obtain ⟨dd,i0,hdd,_,_,_,_,hdk,_⟩:=zbg ht;rw [hk] at hdk;have hds:=zkk hdk;subst hds
 have fin:∀b:Bool,(execOp a.eval ⟨some d,.binOp .eql t x y u',ty,pos,aft,none⟩).run P w=.ok (.value (.bool b)) w→SR P n nb0 all l1 l2 K ((d,.lit (.bool b))::env) st →
   Oper.wp P ⟨some d,.binOp .eql t x y u',ty,pos,aft,none⟩ a w (fun a' w'=>wpOps P ops Q (List.range' (i+1) (l1.length+l2.length)) a' w') Q:=fun b hr k=>by
  unfold Oper.wp;rw [hr];refine k ops (i+1) ho hd' hn A m w _ h0 hR (hE.aput (d:=some d) hdo (.imm (.lit _))) Q fun a2 w2 k2=>?_;have:=hQ a2 w2 k2
  rwa [Qx,J1 l1.length 1,←QN] at this
 have run:∀(ad:Option Addr) (n1 c1:Nat),a.eval x=.slice ad n1 c1→(execOp a.eval ⟨some d,.binOp .eql t x y u',ty,pos,aft,none⟩).run P w=.ok (.value (.bool ad.isNone)) w:=fun ad n1 c1 hq=>by
  have hy':=(zV hE hy).lit_inv;have e1:=zny (P:=P) (w:=w) hdd ad n1 c1;show ((do pure (.value (←(do eqGuard .eql t x y (a.eval x) (a.eval y);binOp .eql t (a.eval x) (a.eval y):Sem Value))):Sem Next).run P w)=_;rw [hq,hy'];simp only [Sem.run_bind,zmH,Result.andThen_ok,binOp,e1];rfl
 have hv:=(zV hE hx).isl_inv;generalize hg:l.map f=els at hv;generalize hq:a.eval x=v at hv
 cases hv with
 |isl _ _ B o cap vs hA hcap hk hcell hval=>exact fin _ (run _ _ _ hq) h2
 |inil _ ad cap =>
  have hl:l=[]:=by simpa using hg
  cases ad with
  |none=>exact fin _ (run _ _ _ hq) (h1 hl)
  |some _=>exact fin _ (run _ _ _ hq) h2
theorem zGG{v v':AV}(e:v=v')(k:SR P n nb0 all l1 l2 K ((d,v')::env) st):SR P n nb0 all l1 l2 K ((d,v)::env) st:=by rw [e];exact k
end
theorem zAC{α:Type}{τ:Nat→Nat}{k:Nat}{f:α→List AV}{o:Option α}:rn τ (zht k f o)=zht k f o:=by cases o <;> rfl
theorem ciL{st:St}{L:zgC}:∀{l:List AV},ziv l=true→zt0 st L l l
 | [],_=>trivial
 |_ :: _,h=>⟨ci (QT.1 h).1,ciL (QT.1 h).2⟩
theorem zwe{ρ:Nat→Option Nat}:∀{l:List AV},ziv l=true→zBg ρ l l
 | [],_=>trivial
 |_ :: _,h=>⟨rnI (QT.1 h).1,zwe (QT.1 h).2⟩
theorem zGY{st:St}{L:zgC}{b k j:Nat}{row cs:List AV}(hD:zvM L b=false)(hb:st[b]?=some (some (k,[row])))(h:zt0 st L cs row)(hi:ziv cs=true):Rs st L (.ipt k [cs] 0 j) (.mpt b 0 j):=
 .slp hD hb rfl (fun r hr y hy=>by obtain rfl:=QV.1 hr;exact (zgS hi).mem y hy) (fun q h1 h2=>by
  have:q=0:=by simpa using h1
  subst this;exact h.get.1.symm) (fun q h1 h2 j h3 h4=>by
  have:q=0:=by simpa using h1
  subst this;exact h.get.2 j h4 h3)
section
variable {st : St} {L : zgC} {ρ : Nat → Option Nat} {a b c d e f g h i j k l : AV} {x y : List AV}
theorem zBl(p:ziv [a,b,c,d,e,f,g,h,i,j,k,l]=true)(q:zt0 st L x y):zt0 st L (a ::b ::c ::d ::e ::f ::g ::h ::i ::j ::k ::l ::x) (a ::b ::c ::d ::e ::f ::g ::h ::i ::j ::k ::l ::y):=by
 obtain ⟨h1,h2,h3,h4,h5,h6,h7,h8,h9,h10,h11,h12,_⟩:=ciL (st:=st) (L:=L) p;exact ⟨h1,h2,h3,h4,h5,h6,h7,h8,h9,h10,h11,h12,q⟩
theorem zAD(p:ziv [a,b,c,d,e,f,g,h,i,j,k,l]=true)(q:zBg ρ x y):zBg ρ (a ::b ::c ::d ::e ::f ::g ::h ::i ::j ::k ::l ::x) (a ::b ::c ::d ::e ::f ::g ::h ::i ::j ::k ::l ::y):=by
 obtain ⟨h1,h2,h3,h4,h5,h6,h7,h8,h9,h10,h11,h12,_⟩:=zwe (ρ:=ρ) p;exact ⟨h1,h2,h3,h4,h5,h6,h7,h8,h9,h10,h11,h12,q⟩
end
section
variable {P : Program} {n nb0 : Nat} {env env0 : Ev} {st st0 : St}
theorem zy(L:zgC)(h1:zln st L env0 env:=by repeat' (first |exact True.intro |exact cn |exact .msl rfl |exact .mpt rfl |exact ci rfl |exact .nil |exact zgo fun _=>rfl |refine cv rfl ?_ ?_ |exact zkg rfl rfl fun _=>rfl |refine zm5 rfl rfl ?_ |exact ci (zlE fun _=>rfl) |exact .mmp rfl |refine zBl rfl ?_ |refine zfU ?_ |refine zoa ?_ |refine ⟨_,rfl,?_⟩ |refine And.intro ?_ ?_ |refine zsg ?_ |refine ztP ?_ |exact rfl))(h2:zmV L=true:=by exact rfl)(h3:zjy st L L st0:=by repeat' (first |exact True.intro |exact cn |exact .msl rfl |exact .mpt rfl |exact ci rfl |exact .nil |exact zgo fun _=>rfl |refine cv rfl ?_ ?_ |exact zkg rfl rfl fun _=>rfl |refine zm5 rfl rfl ?_ |exact ci (zlE fun _=>rfl) |exact .mmp rfl |refine zBl rfl ?_ |refine zfU ?_ |refine zoa ?_ |refine ⟨_,rfl,?_⟩ |refine And.intro ?_ ?_ |refine zsg ?_ |refine ztP ?_ |exact rfl))(h4:zzL nb0 L=true:=by exact rfl)(h5:nb0≤st0.length:=by exact QA rfl):Can nb0 env0 st0 env st:=⟨L,h1,h2,h3,h4,h5⟩
theorem zbc{av0 av:AV}(L:zgC)(h1:Rs st L av0 av:=by repeat' (first |exact True.intro |exact cn |exact .msl rfl |exact .mpt rfl |exact ci rfl |exact .nil |exact zgo fun _=>rfl |refine cv rfl ?_ ?_ |exact zkg rfl rfl fun _=>rfl |refine zm5 rfl rfl ?_ |exact ci (zlE fun _=>rfl) |exact .mmp rfl |refine zBl rfl ?_ |refine zfU ?_ |refine zoa ?_ |refine ⟨_,rfl,?_⟩ |refine And.intro ?_ ?_ |refine zsg ?_ |refine ztP ?_ |exact rfl))(h2:zmV L=true:=by exact rfl)(h3:zjy st L L st0:=by repeat' (first |exact True.intro |exact cn |exact .msl rfl |exact .mpt rfl |exact ci rfl |exact .nil |exact zgo fun _=>rfl |refine cv rfl ?_ ?_ |exact zkg rfl rfl fun _=>rfl |refine zm5 rfl rfl ?_ |exact ci (zlE fun _=>rfl) |exact .mmp rfl |refine zBl rfl ?_ |refine zfU ?_ |refine zoa ?_ |refine ⟨_,rfl,?_⟩ |refine And.intro ?_ ?_ |refine zsg ?_ |refine ztP ?_ |exact rfl))(h4:zzL nb0 L=true:=by exact rfl)(h5:nb0≤st0.length:=by exact QA rfl):zE3 nb0 av0 st0 av st:=⟨L,h1,h2,h3,h4,h5⟩
end
section
variable {P : Program} {env : Ev} {st : St} {d : Nat} {ty : TypeId} {pos : String} {aft : Array Edge} {gu : Option (Nat × Bool)} {K : Ev → St → Prop}
theorem sx(L:List Nat){c:Call}{g:FuncId}{args args0:List AV}{bs0 bs1:List SB}{av:AV}(h:SC P g args0 bs0 av bs1)(k:K ((d,rn (tau L st.length) av)::env) (zGe L st bs1))
  (hc:zhF (.call c)=true:=by exact rfl) (hg:zo2 env (.call c)=some (g,args):=by exact rfl) (hnd:zuS L=true:=by exact rfl) (hlt:zyX st.length L=true:=by exact rfl)
  (ha:zBg (fun i=>L[i]?) args0 args:=by repeat' (first |exact True.intro |exact .msl rfl |exact .mpt rfl |exact rnI rfl |exact mkI fun _=>rfl |refine zAD rfl ?_ |exact zwe rfl |refine ⟨_,rfl,?_⟩ |refine And.intro ?_ ?_ |exact rfl)) (hs:InB (fun i=>L[i]?) st L bs0:=by repeat' (first |exact True.intro |exact .msl rfl |exact .mpt rfl |exact rnI rfl |exact mkI fun _=>rfl |refine zAD rfl ?_ |exact zwe rfl |refine ⟨_,rfl,?_⟩ |refine And.intro ?_ ?_ |exact rfl)):SOp P ⟨some d,.call c,ty,pos,aft,gu⟩ env st K:=sc L h hc hg hnd hlt ha hs k
end
theorem nz{b:Bool}{q:Prop}(h:b=false:=by exact rfl):b=true→q:=fun e=>by rw [h] at e;cases e
theorem nw{p q:Prop}{b:Bool}(h:b=false:=by exact rfl):p→b=true→q:=fun _ e=>by rw [h] at e;cases e
theorem nv{p q:Prop}{b:Bool}(h:b=true:=by exact rfl):b=false→p→q:=fun e=>by rw [h] at e;cases e
section
variable {P : Program} {all : List Oper} {env0 F env : Ev} {st : St} {ss p en : List Nat} {K : Ev → St → Prop}
theorem pb{G:Prop}{i t:Nat}{o:Oper}{v:AV}(ho:all[i]?=some o)(h:SOp P o (sel F (ea all env0 i) (zff all o.after.toList)) st fun env' st'=>env'=(t,v)::sel F (ea all env0 i) (zff all o.after.toList)∧st'=st)
  (hd:o.dst=some t:=by exact rfl) (hg:o.guard=none:=by exact rfl) (hv:look F t=some v:=by exact rfl):G→zi6 P all env0 F st i:=fun _=>pa ho hd hg hv h
theorem pe{i:Nat}{b:Bool}(h:b=true→zi6 P all env0 F st i:=by (first |exact nz |(refine fun _=>pa rfl rfl rfl rfl ?_;(first |exact mv rfl ⟨rfl,rfl⟩ |exact fa ti rfl rfl rfl ⟨rfl,rfl⟩ |exact ld ti rfl rfl ⟨rfl,rfl⟩ |exact nc rfl rfl ⟨rfl,rfl⟩ |exact asg rfl ⟨rfl,rfl⟩ |exact ex rfl rfl ⟨rfl,rfl⟩ |exact nt rfl ⟨rfl,rfl⟩ |exact pk rfl rfl ⟨rfl,rfl⟩ |exact pkb rfl (by assumption) rfl ⟨rfl,rfl⟩ |exact lss ti rfl rfl ⟨rfl,rfl⟩ |exact leq ti rfl rfl ⟨rfl,rfl⟩ |exact gtr ti rfl rfl ⟨rfl,rfl⟩ |exact geq ti rfl rfl ⟨rfl,rfl⟩ |exact eql ti rfl rfl ⟨rfl,rfl⟩ |exact neq ti rfl rfl ⟨rfl,rfl⟩ |exact add ti rfl rfl ⟨rfl,rfl⟩ |exact seq ti rfl rfl ⟨rfl,rfl⟩ |exact sne ti rfl rfl ⟨rfl,rfl⟩)) |exact fun _=>pas rfl rfl rfl rfl rfl rfl |exact fun _=>pas rfl rfl rfl rfl (by assumption) rfl |exact fun _=>pau rfl rfl rfl rfl rfl |(refine fun _=>pag rfl rfl rfl rfl rfl rfl ?_;(first |exact mv rfl ⟨rfl,rfl⟩ |exact fa ti rfl rfl rfl ⟨rfl,rfl⟩ |exact ld ti rfl rfl ⟨rfl,rfl⟩ |exact nc rfl rfl ⟨rfl,rfl⟩ |exact asg rfl ⟨rfl,rfl⟩ |exact ex rfl rfl ⟨rfl,rfl⟩ |exact nt rfl ⟨rfl,rfl⟩ |exact pk rfl rfl ⟨rfl,rfl⟩ |exact pkb rfl (by assumption) rfl ⟨rfl,rfl⟩ |exact lss ti rfl rfl ⟨rfl,rfl⟩ |exact leq ti rfl rfl ⟨rfl,rfl⟩ |exact gtr ti rfl rfl ⟨rfl,rfl⟩ |exact geq ti rfl rfl ⟨rfl,rfl⟩ |exact eql ti rfl rfl ⟨rfl,rfl⟩ |exact neq ti rfl rfl ⟨rfl,rfl⟩ |exact add ti rfl rfl ⟨rfl,rfl⟩ |exact seq ti rfl rfl ⟨rfl,rfl⟩ |exact sne ti rfl rfl ⟨rfl,rfl⟩)) |(refine fun _=>pag rfl rfl rfl rfl (by assumption) rfl ?_;(first |exact mv rfl ⟨rfl,rfl⟩ |exact fa ti rfl rfl rfl ⟨rfl,rfl⟩ |exact ld ti rfl rfl ⟨rfl,rfl⟩ |exact nc rfl rfl ⟨rfl,rfl⟩ |exact asg rfl ⟨rfl,rfl⟩ |exact ex rfl rfl ⟨rfl,rfl⟩ |exact nt rfl ⟨rfl,rfl⟩ |exact pk rfl rfl ⟨rfl,rfl⟩ |exact pkb rfl (by assumption) rfl ⟨rfl,rfl⟩ |exact lss ti rfl rfl ⟨rfl,rfl⟩ |exact leq ti rfl rfl ⟨rfl,rfl⟩ |exact gtr ti rfl rfl ⟨rfl,rfl⟩ |exact geq ti rfl rfl ⟨rfl,rfl⟩ |exact eql ti rfl rfl ⟨rfl,rfl⟩ |exact neq ti rfl rfl ⟨rfl,rfl⟩ |exact add ti rfl rfl ⟨rfl,rfl⟩ |exact seq ti rfl rfl ⟨rfl,rfl⟩ |exact sne ti rfl rfl ⟨rfl,rfl⟩)))):b=true→zi6 P all env0 F st i:=h
theorem zj0{n:Nat}(h1:zvl P all env0 F st p en)(h4:zt3 P all ss env0 K n p en F st ss)(h2:zhS all ss p en=true:=by kernel_rfl)(h3:zlo p ss=false:=by exact rfl):DT P all ss env0 K (n+1) p en F st:=dtS h1 h2 h3 h4
theorem zvA(h1:zvl P all env0 F st p en)(h4:K (F++zo9 (zwO all) env0) st)(h2:zhS all ss p en=true:=by kernel_rfl)(h3:zlo p ss=true:=by exact rfl):DT P all ss env0 K 0 p en F st:=dt0 h1 h2 h3 h4
theorem zHt{n:Nat}(h4:zt3 P all ss env0 K n p en F st ss)(h1:zvl P all env0 F st p en:=by repeat' (first |exact True.intro |exact nz |(refine fun _=>pa rfl rfl rfl rfl ?_;(first |exact mv rfl ⟨rfl,rfl⟩ |exact fa ti rfl rfl rfl ⟨rfl,rfl⟩ |exact ld ti rfl rfl ⟨rfl,rfl⟩ |exact nc rfl rfl ⟨rfl,rfl⟩ |exact asg rfl ⟨rfl,rfl⟩ |exact ex rfl rfl ⟨rfl,rfl⟩ |exact nt rfl ⟨rfl,rfl⟩ |exact pk rfl rfl ⟨rfl,rfl⟩ |exact pkb rfl (by assumption) rfl ⟨rfl,rfl⟩ |exact lss ti rfl rfl ⟨rfl,rfl⟩ |exact leq ti rfl rfl ⟨rfl,rfl⟩ |exact gtr ti rfl rfl ⟨rfl,rfl⟩ |exact geq ti rfl rfl ⟨rfl,rfl⟩ |exact eql ti rfl rfl ⟨rfl,rfl⟩ |exact neq ti rfl rfl ⟨rfl,rfl⟩ |exact add ti rfl rfl ⟨rfl,rfl⟩ |exact seq ti rfl rfl ⟨rfl,rfl⟩ |exact sne ti rfl rfl ⟨rfl,rfl⟩)) |exact fun _=>pas rfl rfl rfl rfl rfl rfl |exact fun _=>pas rfl rfl rfl rfl (by assumption) rfl |exact fun _=>pau rfl rfl rfl rfl rfl |(refine fun _=>pag rfl rfl rfl rfl rfl rfl ?_;(first |exact mv rfl ⟨rfl,rfl⟩ |exact fa ti rfl rfl rfl ⟨rfl,rfl⟩ |exact ld ti rfl rfl ⟨rfl,rfl⟩ |exact nc rfl rfl ⟨rfl,rfl⟩ |exact asg rfl ⟨rfl,rfl⟩ |exact ex rfl rfl ⟨rfl,rfl⟩ |exact nt rfl ⟨rfl,rfl⟩ |exact pk rfl rfl ⟨rfl,rfl⟩ |exact pkb rfl (by assumption) rfl ⟨rfl,rfl⟩ |exact lss ti rfl rfl ⟨rfl,rfl⟩ |exact leq ti rfl rfl ⟨rfl,rfl⟩ |exact gtr ti rfl rfl ⟨rfl,rfl⟩ |exact geq ti rfl rfl ⟨rfl,rfl⟩ |exact eql ti rfl rfl ⟨rfl,rfl⟩ |exact neq ti rfl rfl ⟨rfl,rfl⟩ |exact add ti rfl rfl ⟨rfl,rfl⟩ |exact seq ti rfl rfl ⟨rfl,rfl⟩ |exact sne ti rfl rfl ⟨rfl,rfl⟩)) |(refine fun _=>pag rfl rfl rfl rfl (by assumption) rfl ?_;(first |exact mv rfl ⟨rfl,rfl⟩ |exact fa ti rfl rfl rfl ⟨rfl,rfl⟩ |exact ld ti rfl rfl ⟨rfl,rfl⟩ |exact nc rfl rfl ⟨rfl,rfl⟩ |exact asg rfl ⟨rfl,rfl⟩ |exact ex rfl rfl ⟨rfl,rfl⟩ |exact nt rfl ⟨rfl,rfl⟩ |exact pk rfl rfl ⟨rfl,rfl⟩ |exact pkb rfl (by assumption) rfl ⟨rfl,rfl⟩ |exact lss ti rfl rfl ⟨rfl,rfl⟩ |exact leq ti rfl rfl ⟨rfl,rfl⟩ |exact gtr ti rfl rfl ⟨rfl,rfl⟩ |exact geq ti rfl rfl ⟨rfl,rfl⟩ |exact eql ti rfl rfl ⟨rfl,rfl⟩ |exact neq ti rfl rfl ⟨rfl,rfl⟩ |exact add ti rfl rfl ⟨rfl,rfl⟩ |exact seq ti rfl rfl ⟨rfl,rfl⟩ |exact sne ti rfl rfl ⟨rfl,rfl⟩)) |refine And.intro ?_ ?_))(h2:zhS all ss p en=true:=by kernel_rfl)(h3:zlo p ss=false:=by exact rfl):DT P all ss env0 K (n+1) p en F st:=dtS h1 h2 h3 h4
theorem zvz(h4:K (F++zo9 (zwO all) env0) st)(h1:zvl P all env0 F st p en:=by repeat' (first |exact True.intro |exact nz |(refine fun _=>pa rfl rfl rfl rfl ?_;(first |exact mv rfl ⟨rfl,rfl⟩ |exact fa ti rfl rfl rfl ⟨rfl,rfl⟩ |exact ld ti rfl rfl ⟨rfl,rfl⟩ |exact nc rfl rfl ⟨rfl,rfl⟩ |exact asg rfl ⟨rfl,rfl⟩ |exact ex rfl rfl ⟨rfl,rfl⟩ |exact nt rfl ⟨rfl,rfl⟩ |exact pk rfl rfl ⟨rfl,rfl⟩ |exact pkb rfl (by assumption) rfl ⟨rfl,rfl⟩ |exact lss ti rfl rfl ⟨rfl,rfl⟩ |exact leq ti rfl rfl ⟨rfl,rfl⟩ |exact gtr ti rfl rfl ⟨rfl,rfl⟩ |exact geq ti rfl rfl ⟨rfl,rfl⟩ |exact eql ti rfl rfl ⟨rfl,rfl⟩ |exact neq ti rfl rfl ⟨rfl,rfl⟩ |exact add ti rfl rfl ⟨rfl,rfl⟩ |exact seq ti rfl rfl ⟨rfl,rfl⟩ |exact sne ti rfl rfl ⟨rfl,rfl⟩)) |exact fun _=>pas rfl rfl rfl rfl rfl rfl |exact fun _=>pas rfl rfl rfl rfl (by assumption) rfl |exact fun _=>pau rfl rfl rfl rfl rfl |(refine fun _=>pag rfl rfl rfl rfl rfl rfl ?_;(first |exact mv rfl ⟨rfl,rfl⟩ |exact fa ti rfl rfl rfl ⟨rfl,rfl⟩ |exact ld ti rfl rfl ⟨rfl,rfl⟩ |exact nc rfl rfl ⟨rfl,rfl⟩ |exact asg rfl ⟨rfl,rfl⟩ |exact ex rfl rfl ⟨rfl,rfl⟩ |exact nt rfl ⟨rfl,rfl⟩ |exact pk rfl rfl ⟨rfl,rfl⟩ |exact pkb rfl (by assumption) rfl ⟨rfl,rfl⟩ |exact lss ti rfl rfl ⟨rfl,rfl⟩ |exact leq ti rfl rfl ⟨rfl,rfl⟩ |exact gtr ti rfl rfl ⟨rfl,rfl⟩ |exact geq ti rfl rfl ⟨rfl,rfl⟩ |exact eql ti rfl rfl ⟨rfl,rfl⟩ |exact neq ti rfl rfl ⟨rfl,rfl⟩ |exact add ti rfl rfl ⟨rfl,rfl⟩ |exact seq ti rfl rfl ⟨rfl,rfl⟩ |exact sne ti rfl rfl ⟨rfl,rfl⟩)) |(refine fun _=>pag rfl rfl rfl rfl (by assumption) rfl ?_;(first |exact mv rfl ⟨rfl,rfl⟩ |exact fa ti rfl rfl rfl ⟨rfl,rfl⟩ |exact ld ti rfl rfl ⟨rfl,rfl⟩ |exact nc rfl rfl ⟨rfl,rfl⟩ |exact asg rfl ⟨rfl,rfl⟩ |exact ex rfl rfl ⟨rfl,rfl⟩ |exact nt rfl ⟨rfl,rfl⟩ |exact pk rfl rfl ⟨rfl,rfl⟩ |exact pkb rfl (by assumption) rfl ⟨rfl,rfl⟩ |exact lss ti rfl rfl ⟨rfl,rfl⟩ |exact leq ti rfl rfl ⟨rfl,rfl⟩ |exact gtr ti rfl rfl ⟨rfl,rfl⟩ |exact geq ti rfl rfl ⟨rfl,rfl⟩ |exact eql ti rfl rfl ⟨rfl,rfl⟩ |exact neq ti rfl rfl ⟨rfl,rfl⟩ |exact add ti rfl rfl ⟨rfl,rfl⟩ |exact seq ti rfl rfl ⟨rfl,rfl⟩ |exact sne ti rfl rfl ⟨rfl,rfl⟩)) |refine And.intro ?_ ?_))(h2:zhS all ss p en=true:=by kernel_rfl)(h3:zlo p ss=true:=by exact rfl):DT P all ss env0 K 0 p en F st:=dt0 h1 h2 h3 h4
end
theorem kz{α:Sort _}{a b:α}(h:a=b:=by kernel_rfl):a=b:=h
theorem rdA{P:Program}{n nb0:Nat}{Q:Exit→Ev→St→Prop}{env:Ev}{st:St}{id:Nat}{ops:Array Oper}{y:Code}(E:Ev)(S:St)(ss en:List Nat)(F:Ev)(k:Nat)
  (h:DT P ops.toList ss env (fun env st=>Can nb0 E S env st) k [] en F st) (hy:SW P n nb0 y Q E S) (hm:P.follows .mixedOrders=true:=by kernel_rfl) (hok:zs1 n ops.toList=true:=by kernel_rfl) (hss:zsb ops.size ss=true:=by exact rfl) (hks:zjz ops.toList en (zdM F)=true:=by kernel_rfl):
  SW P n nb0 (.seq (.region id ops true) y) Q env st:=rd E S ss en F k hm hok hss hks h hy
theorem zpG{P:Program}{n nb0:Nat}{Q:Exit→Ev→St→Prop}{env:Ev}{st:St}{id:Nat}{ops:Array Oper}(E:Ev)(S:St)(ss en:List Nat)(F:Ev)(k:Nat)
  (h:DT P ops.toList ss env (fun env st=>Can nb0 E S env st) k [] en F st) (hy:Q .normal E S) (hm:P.follows .mixedOrders=true:=by kernel_rfl) (hok:zs1 n ops.toList=true:=by kernel_rfl) (hss:zsb ops.size ss=true:=by exact rfl) (hks:zjz ops.toList en (zdM F)=true:=by kernel_rfl):
  SW P n nb0 (.region id ops true) Q env st:=rdL E S ss en F k hm hok hss hks h hy

end
end Go.Proofs.YthmnlfenkhmmhaaGreat
