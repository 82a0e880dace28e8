/- CodeAll holds. Part 2 of 9. -/
import Derived.Test.YthmnlfenkhmmhaaGreatTx1
namespace Go.Proofs.YthmnlfenkhmmhaaGreat
noncomputable section
open List (length map)
open IntKind (i64)
open Go.Proofs.Tryz
set_option linter.unusedSimpArgs false
set_option linter.unusedVariables false
set_option linter.unusedSectionVars false
variable {α β:Type}{av:AV}{K:AV->St->Prop}{Fw:Act->World->Prop}{VU Fa:Array Edge}{VS:Array Oper}{V0 x c:Bool}{VN env:Ev}{K':Ev->St->Prop}{Q:Exit->Act->World->Prop}{f:FuncId}{els:List (Vt)}{args:Vt}{l1':List Oper}{l:List α}{j n:Nat}{τ:Nat->Nat}{o:Oper}{gp:Option (Nat×Bool)}{d:Option Tmp}{m:Option α}{P:Program}{st:St}
inductive Rn(ρ:Nat->Option Nat):AV->AV->Prop
 |any (x:_):Rn ρ .any x
 |imm {x:_} (h:LI x):Rn ρ x x
 |nilI {k:Nat}:Rn ρ (.isl k []) (.lit (.slice none 0 0))
 |nil0 {l l':Nat} (h:ρ l=some l'):Rn ρ (.msl l 0 0) (.lit (.slice none 0 0))
 |msl {l l' i n:Nat} (h:ρ l=some l'):Rn ρ (.msl l i n) (.msl l' i n)
 |mpt {l l' i j:Nat} (h:ρ l=some l'):Rn ρ (.mpt l i j) (.mpt l' i j)
 |mmp {l l':Nat} (h:ρ l=some l'):Rn ρ (.mmp l) (.mmp l')
 |agg {cs V2:Vt} (hl:cs.length=V2.length) (hr:∀i (h:i<cs.length) (h':i<V2.length),Rn ρ cs[i] V2[i]):Rn ρ (.agg cs) (.agg V2)
 |tup {cs V2:Vt} (hl:cs.length=V2.length) (hr:∀i (h:i<cs.length) (h':i<V2.length),Rn ρ cs[i] V2[i]):Rn ρ (.tup cs) (.tup V2)
 |fn {f:Fn} {cs V2 ds FN:Vt} (hl:cs.length=V2.length) (hr:∀i (h:i<cs.length) (h':i<V2.length),Rn ρ cs[i] V2[i])
   (FU:ds.length=FN.length) (hr':∀i (h:i<ds.length) (h':i<FN.length),Rn ρ ds[i] FN[i]):Rn ρ (.fn f cs ds) (.fn f V2 FN)
theorem Rn.v{ρ A m m' nb Fe}{w:World}(hm:∀l l',ρ l=some l'->m' l=m l'/\l<Fe){Fv av:AV}(h:Rn ρ Fv av):∀{v},V A m nb w av v->V A m' Fe w Fv v:=by
 induction h with
 |any x=>exact λ{v} _=>.imm (.any v)
 |imm h=>exact λ{v} hv=>.imm (h.vi hv)
 |nilI=>intro v hv;rw[hv.lit_inv];exact .imm (.inil _ _ _)
 |nil0 h =>
  intro v hv;rw[hv.lit_inv];exact .msl _ _ _ _ _ _ (hm _ _ h).2 λb hb=>⟨rfl,Qg _,.inl rfl⟩
 |msl h =>
  intro v hv;obtain⟨hl,a,n',cap,rfl,hb⟩:=hv.msl_inv;obtain⟨h1,h2⟩:=hm _ _ h;exact .msl _ _ _ _ _ _ h2 λb hb'=>hb b (h1▸hb')
 |mpt h =>
  intro v hv;obtain⟨hl,a,rfl,hb⟩:=hv.mpt_inv;obtain⟨h1,h2⟩:=hm _ _ h;exact .mpt _ _ _ _ h2 λb hb'=>hb b (h1▸hb')
 |mmp h =>
  intro v hv;obtain⟨hl,a,rfl,hb⟩:=hv.mmp_inv;obtain⟨h1,h2⟩:=hm _ _ h;exact .mmp _ _ h2 λb hb'=>hb b (h1▸hb')
 |agg hl hr ih =>
  intro v hv;obtain⟨a,rfl,h1,h2⟩:=hv.agg_inv;exact .agg _ _ YA λi hi=>ih i hi YA (h2 i YA)
 |tup hl hr ih =>
  intro v hv;obtain⟨a,rfl,h1,h2⟩:=hv.tup_inv;exact .tup _ _ YA λi hi=>ih i hi YA (h2 i YA)
 |fn hl hr FU hr' ih ih' =>
  intro v hv;obtain⟨a,b,rfl,⟨h1,h2⟩,⟨h3,h4⟩⟩:=hv.fn_inv;exact .fn _ _ _ _ _ YA (λi hi=>ih i hi YA (h2 i YA)) YA λi hi=>ih' i hi YA (h4 i YA)
def Kr(ρ:Nat->Option Nat)(VT els:List (Vt)):Prop:=VT.length=els.length/\∀i (h:i<VT.length) (h':i<els.length),VT[i].length=els[i].length/\∀j (h1:j<VT[i].length) (h2:j<els[i].length),Rn ρ VT[i][j] els[i][j]
structure RI(ρ:Nat->Option Nat)(VJ st:St):Prop where
 live:∀l l',ρ l=some l'->∃k VT els,VJ[l]?=some (some (k,VT))/\st[l']?=some (some (k,els))/\Kr ρ VT els
 all:∀l k VT,VJ[l]?=some (some (k,VT))->∃l',ρ l=some l'
 inj:∀l1 l2 x,ρ l1=some x->ρ l2=some x->l1=l2
theorem RI.lt{ρ VJ st}(h:RI ρ VJ st){l l'}(hl:ρ l=some l'):l<VJ.length/\l'<st.length:=by obtain⟨k,VT,els,h1,h2,_⟩:=h.live l l' hl;exact⟨(Qb.1 h1).1,(Qb.1 h2).1⟩
theorem R.rn{ρ A m w st VJ}(hR:R A m w st)(h:RI ρ VJ st):R A (λl=>(ρ l).bind m) w VJ:=by
 have hmm:∀l b,(ρ l).bind m=some b->∃l',ρ l=some l'/\m l'=some b:=λl b hb=>by
  cases hl:ρ l with
  |none=>rw[hl]at hb;cases hb
  |some l'=>rw[hl]at hb;exact⟨l',rfl,hb⟩
 refine⟨hR.aLow,λB l b hA hb hh=>?_,λl1 l2 b1 b2 h1 h2 hh1 hh2 he=>?_,λl b hb=>?_,λl k VT he=>?_⟩;.obtain⟨l',_,h2⟩:=hmm l b hb;exact hR.aOwn B l' b hA h2 hh
 .obtain⟨x1,k1,k2⟩:=hmm l1 b1 h1;obtain⟨x2,k3,k4⟩:=hmm l2 b2 h2;have:=hR.inj x1 x2 b1 b2 k2 k4 hh1 hh2 he;subst this;exact h.inj l1 l2 x1 k1 k3
 .obtain⟨l',h1,h2⟩:=hmm l b hb;obtain⟨k,VT,els,h3,h4,_⟩:=h.live l l' h1;exact⟨VT,by rw[h3];rw[(hR.at h2 h4).1]⟩
 obtain⟨l',h1⟩:=h.all l k VT he;obtain⟨k',els0',els,h3,h4,h5⟩:=h.live l l' h1;rw[he]at h3;cases h3;obtain⟨b,h6,h7,h8,h9⟩:=hR.blk l' k els h4;refine⟨b,by rw[h1];exact h6,h7,λhh=>?_,λhh=>?_⟩;.exact(h8 hh).rel h5.1 λi hi VZ=>⟨(h5.2 i hi VZ).1,λj hj hj' v hv=>((h5.2 i hi VZ).2 j hj hj').v (λl l' hl=>⟨by rw[hl];rfl,(h.lt hl).1⟩) hv⟩
 have:=h9 hh;subst this;exact Qf h5.1
theorem Xs.rn{ρ A m nb0 w A' m' Fe w' VJ VO}(h:RI ρ VJ VO)(hS:Xs A m nb0 w A' m' Fe w')(hid:∀l l',ρ l=some l'->l<nb0->l'=l)(hn:nb0<=VJ.length):Xs A m nb0 w A' (λl=>(ρ l).bind m') VJ.length w':=by
 refine⟨hn,hS.size,hS.aSub,hS.aNew,λl hl=>?_,λl b hb hh=>?_,hS.heap,hS.os,hS.tape,hS.output⟩
 .cases hr:ρ l with
  |none=>exact .inr rfl
  |some l' =>
   have:=hid l l' hr hl;subst this;exact hS.mOld l' hl
 cases hr:ρ l with
 |none=>simp[hr]at hb
 |some l'=>simp only[hr,Qa]at hb;exact hS.mNew l' b hb hh
def C2(ρ:Nat->Option Nat):Ev->Ev->Prop
 |[],_=>True
 |(t,v0)::r,env=>(∃v,look env t=some v/\Rn ρ v0 v)/\C2 ρ r env
theorem C2.get{ρ}:∀{VC env:Ev},C2 ρ VC env->∀t v0,look VC t=some v0->∃v,look env t=some v/\Rn ρ v0 v
 |[],_,_,t,v0,h=>by cases h
 |(k,x)::r,env,h,t,v0,hl=>by
  simp only[look]at hl;split at hl;.rename_i e;subst e;cases hl;exact h.1
  exact C2.get h.2 t v0 hl
mutual
def rn(τ:Nat->Nat):AV->AV
 |.msl l i n=>.msl (τ l:_) i n
 |.mpt l i j=>.mpt (τ l:_) i j
 |.agg cs=>.agg (rnL τ cs:_)
 |.tup cs=>.tup (rnL τ cs:_)
 |.fn f cs ds=>.fn f (rnL τ cs:_) (rnL τ ds:_)
 |.any=>.any
 |.lit v=>.lit v
 |.isl k els=>.isl k els
 |.ipt k els i j=>.ipt k els i j
 |.imp els=>.imp els
 |.mmp l=>.mmp (τ l:_)
def rnL(τ:Nat->Nat):Vt->Vt
 |[]=>[]
 |x::l=>rn τ x::rnL τ l
end
theorem Ke(τ:Nat->Nat):∀l,rnL τ l=l.map (rn τ)
 |[]=>rfl
 |x::l=>by rw[rnL,Yq,Ke τ l]
theorem qd{A m m' nb Fe}{w:World}(hm:∀l,l<nb->m' (τ l)=m l/\τ l<Fe){v:Value}(h:V A m nb w av v):V A m' Fe w (rn τ av) v:=by
 have immv:∀{av v},VI A w av v->V A m' Fe w (rn τ av) v:=λ{av v} h=>by
  induction h with
  |any v=>exact .imm (.any v)
  |lit v=>exact .imm (.lit v)
  |isl k els B o cap vs hA Fd hk hc hv _=>exact .imm (.isl k els B o cap vs hA Fd hk hc hv)
  |inil k a cap=>exact .imm (.inil k a cap)
  |ipt k els i j B o vs hA hk hc hv _=>exact .imm (.ipt k els i j B o vs hA hk hc hv)
  |imp els r es clock hA hh hs hk hv _=>exact .imm (.imp els r es clock hA hh hs hk hv)
  |agg cs a hs _ ih=>rw[rn,Ke];exact .agg _ _ (by simpa using hs) λi hi=>by simpa using ih i (by simpa using hi)
  |tup cs a hs _ ih=>rw[rn,Ke];exact .tup _ _ (by simpa using hs) λi hi=>by simpa using ih i (by simpa using hi)
  |fn f cs ds a b hs _ FP _ ih ih'=>rw[rn,Ke,Ke];exact .fn _ _ _ _ _ (by simpa using hs) (λi hi=>by simpa using ih i (by simpa using hi)) (by simpa using FP) λi hi=>by simpa using ih' i (by simpa using hi)
 induction h with
 |imm h=>exact immv h
 |msl l i n a n' cap hl h=>exact .msl _ _ _ _ _ _ (hm l hl).2 λb hb=>h b ((hm l hl).1▸hb)
 |mpt l i j a hl h=>exact .mpt _ _ _ _ (hm l hl).2 λb hb=>h b ((hm l hl).1▸hb)
 |mmp l a hl h=>exact .mmp _ _ (hm l hl).2 λb hb=>h b ((hm l hl).1▸hb)
 |agg cs a hs _ ih=>rw[rn,Ke];exact .agg _ _ (by simpa using hs) λi hi=>by simpa using ih i (by simpa using hi)
 |tup cs a hs _ ih=>rw[rn,Ke];exact .tup _ _ (by simpa using hs) λi hi=>by simpa using ih i (by simpa using hi)
 |fn f cs ds a b hs _ FP _ ih ih'=>rw[rn,Ke,Ke];exact .fn _ _ _ _ _ (by simpa using hs) (λi hi=>by simpa using ih i (by simpa using hi)) (by simpa using FP) λi hi=>by simpa using ih' i (by simpa using hi)
def Hv(τ:Nat->Nat)(els:List (Vt)):List (Vt):=els.map (rnL τ)
def Gq(τ:Nat->Nat):Option (Nat×List (Vt))->Option (Nat×List (Vt))
 |some (k,els)=>some (k,Hv τ els)
 |none=>none
def LR(L:List Nat)(nb:Nat)(i:Nat):Nat:=
 match L[i]? with
 |some l=>l
 |none=>nb+(i-L.length)
def GX(τ:Nat->Nat):St->List Nat->St->St
 |st,l::L,b::bs=>GX τ (st.set l (Gq τ b)) L bs
 |st,_,_=>st
def UB(L:List Nat)(st VO:St):St:=GX (LR L st.length) st L (VO.take L.length)++(VO.drop L.length).map (Gq (LR L st.length))
theorem EW(τ:Nat->Nat):∀(L:List Nat) (st bs:St),(GX τ st L bs).length=st.length
 |[],_,bs=>by cases bs<;>rfl
 |l::L,st,[]=>rfl
 |l::L,st,b::bs=>by rw[GX,EW τ L];simp
theorem uD(τ:Nat->Nat):∀(L:List Nat) (st bs:St) (x:Nat),L.Nodup->L.length=bs.length->(∀l∈L,l<st.length)->
  (x∉L->(GX τ st L bs)[x]?=st[x]?)/\∀i:Nat,L[i]?=some x->(GX τ st L bs)[x]?=(bs[i]?).map (Gq τ)
 |[],st,bs,x,_,_,_=>⟨λ_=>by cases bs<;>rfl,λi h=>by simp at h⟩
 |l::L,st,[],x,_,h,_=>by simp at h
 |l::L,st,b::bs,x,hn,hl,hlt=>by
  obtain⟨hn1,hn2⟩:=Jh.1 hn;obtain⟨h1,h2⟩:=uD τ L (st.set l (Gq τ b)) bs x hn2 (by simpa using hl) (λy hy=>by simpa using hlt y (by simp[hy]));refine⟨λhx=>?_,λi hi=>?_⟩;.simp at hx;rw[GX,h1 hx.2,QH (Ne.symm hx.1)]
  cases i with
  |zero =>
   simp at hi;subst hi;rw[GX,h1 hn1,QM (hlt l YC)];rfl
  |succ i=>rw[GX];simpa using h2 i (by simpa using hi)
theorem zA7{Fh:Vt}{VJ:St}{K0:AV->St->Prop}(h:US P f Fh VJ K0)(L:List Nat)(hL:L.length=VJ.length)(hnd:L.Nodup)(hlt:∀l∈L,l<st.length)(ha:Fh.length=args.length)(hargs:∀i (h:i<Fh.length) (h':i<args.length),Rn (λi=>L[i]?) Fh[i] args[i])(hs:RI (λi=>L[i]?) VJ st)(hk:∀av VO,K0 av VO->K (rn (LR L st.length) av) (UB L st VO)):US P f args st K:=by
 refine⟨h.1,λA m w VX hR hv=>?_⟩;have hR0:=hR.rn hs;refine(h.2 A _ w VX hR0 ⟨by rw[ha];exact hv.1,λi hi=>(hargs i hi YA).v (λl l' hl=>⟨by rw[hl];rfl,(hs.lt hl).1⟩) (hv.2 i YA)⟩).mono λe w' ⟨v,A',m',VO,av,he,hR',hS,Fg,hK⟩=>?_;have hS0:=hS.nbLe
 have hLst:L.length<=VO.length:=YA
 classical
 have hLlt:∀i l,L[i]?=some l->l<st.length:=λi l h=>hlt l (Qc h);obtain⟨μ,hμ⟩:∃μ:BM,μ=λl=>if h:∃i:Nat,L[i]?=some l then m' h.choose else if l<st.length then m l else m' (L.length+(l-st.length)):=⟨_,rfl⟩
 have μ1:∀i l,L[i]?=some l->μ l=m' i:=λi l h=>by
  have hex:∃i:Nat,L[i]?=some l:=⟨i,h⟩;rw[hμ];simp only[dif_pos hex];rw[hs.inj hex.choose i l hex.choose_spec h]
 have μ2:∀l,(∀i,L[i]?≠some l)->l<st.length->μ l=m l:=λl h hl=>by
  have hex:¬∃i:Nat,L[i]?=some l:=λ⟨i,hi⟩=>h i hi;rw[hμ];simp only[dif_neg hex,YK hl]
 have μ3:∀l,st.length<=l->μ l=m' (L.length+(l-st.length)):=λl hl=>by
  have hex:¬∃i:Nat,L[i]?=some l:=λ⟨i,hi⟩=>by have:=hLlt i l hi;omega
  rw[hμ];simp only[dif_neg hex,YM (YA:¬l<st.length)]
 have τ1:∀i l,L[i]?=some l->LR L st.length i=l:=λi l h=>by simp[LR,h]
 have τ2:∀i,L.length<=i->LR L st.length i=st.length+(i-L.length):=λi h=>by simp[LR,Jj h]
 have VR:(UB L st VO).length=st.length+(VO.length-L.length):=by simp[UB,EW]
 have hbs:L.length=(VO.take L.length).length:=by simp;omega
 have U1:∀i l,L[i]?=some l->(UB L st VO)[l]?=(VO[i]?).map (Gq (LR L st.length)):=λi l h=>by
  have hi:i<L.length:=(Qb.1 h).1;unfold UB;rw[Qs (by rw[EW];exact hLlt i l h),(uD _ L st _ l hnd hbs hlt).2 i h,JC,YK hi]
 have U2:∀l,(∀i,L[i]?≠some l)->l<st.length->(UB L st VO)[l]?=st[l]?:=λl h hl=>by
  unfold UB;rw[Qs (by rw[EW];exact hl),(uD _ L st _ l hnd hbs hlt).1 λhm=>?_];obtain⟨i,hi⟩:=List.getElem?_of_mem hm;exact h i hi
 have U3:∀l,st.length<=l->(UB L st VO)[l]?=(VO[L.length+(l-st.length)]?).map (Gq (LR L st.length)):=λl hl=>by
  unfold UB;rw[Qt (by rw[EW];exact hl),EW,Jn,JD]
 have hmτ:∀i,i<VO.length->μ (LR L st.length i)=m' i/\LR L st.length i<(UB L st VO).length:=λi hi=>by
  rw[VR];by_cases h1:i<L.length;.have h2:=Qe h1;rw[τ1 i _ h2];exact⟨μ1 i _ h2,by have:=hLlt i _ h2;omega⟩
  rw[τ2 i YA];refine⟨by rw[μ3 _ YA];congr 1;omega,YA⟩
 have from_:∀l,l<(UB L st VO).length->(∃i,i<VO.length/\LR L st.length i=l/\μ l=m' i/\(UB L st VO)[l]?=(VO[i]?).map (Gq (LR L st.length)))\/
   ((∀i:Nat,L[i]?≠some l)/\l<st.length/\μ l=m l/\(UB L st VO)[l]?=st[l]?):=λl hl=>by
  by_cases h1:∃i:Nat,L[i]?=some l;.obtain⟨i,hi⟩:=h1;have:i<L.length:=(Qb.1 hi).1;exact .inl ⟨i,YA,τ1 i l hi,μ1 i l hi,U1 i l hi⟩
  have h1':∀i:Nat,L[i]?≠some l:=λi hi=>h1 ⟨i,hi⟩;by_cases h2:l<st.length
  .exact .inr ⟨h1',h2,μ2 l h1' h2,U2 l h1' h2⟩
  refine .inl ⟨L.length+(l-st.length),YA,?_,μ3 l YA,U3 l YA⟩;rw[τ2 _ YA];omega
 have μlt:∀l b,μ l=some b->l<(UB L st VO).length:=λl b h=>by
  rw[VR];by_cases h2:l<st.length;.omega
  rw[μ3 l YA]at h;have:=hR'.lt h;omega
 have hown0:∀(i:Nat) (b:LT),(L[i]?).bind m=some b->∃l,L[i]?=some l/\m l=some b:=λi b h=>by
  cases hl:L[i]? with
  |none=>rw[hl]at h;cases h
  |some l=>rw[hl]at h;exact⟨l,rfl,h⟩
 have hSB:Xs A m st.length w A' μ (UB L st VO).length w':=by
  refine⟨YA,hS.size,hS.aSub,λB hB=>(hS.aNew B hB).imp id λh=>h.imp id λ⟨l0,b0,h4,h5,h6⟩=>(let ⟨x,_,h8⟩:=hown0 l0 b0 h4;⟨x,b0,h8,h5,h6⟩),λl hl=>?_,λl b hb hh=>?_,λB hB ho=>hS.heap B hB λi b hb hh=>?_,hS.os,hS.tape,hS.output⟩
  .by_cases h1:∃i:Nat,L[i]?=some l
   .obtain⟨i,hi⟩:=h1
    have VZ:i<VJ.length:=by rw[<-hL];exact(Qb.1 hi).1
    rw[μ1 i l hi];have:=hS.mOld i VZ;rw[hi]at this;exact this
   exact .inl (μ2 l (λi hi=>h1 ⟨i,hi⟩) hl)
  .rcases from_ l (μlt l b hb)with ⟨i,_,_,h3,_⟩|⟨_,_,h3,_⟩
   .rw[h3]at hb
    rcases hS.mNew i b hb hh with h4|⟨l0,b0,h4,h5,h6⟩
    .exact .inl h4
    obtain⟨x,_,h7⟩:=hown0 l0 b0 h4;exact .inr ⟨x,b0,h7,h5,h6⟩
   rw[h3]at hb;exact .inr ⟨l,b,hb,hh,rfl⟩
  obtain⟨x,_,h7⟩:=hown0 i b hb;exact ho x b h7 hh
 have hfr:∀(l:Nat) (b:LT),(∀i:Nat,L[i]?≠some l)->m l=some b->b.has=true->∀(i:Nat) (b':LT),m' i=some b'->b'.has=true->b'.B≠b.B:=λl b hnl hb hh i b' hb' hh' he=>by
  rcases hS.mNew i b' hb' hh' with h4|⟨l0,b0,h4,h5,h6⟩
  .have:=hR.low hb hh;omega
  obtain⟨x,h7,h8⟩:=hown0 l0 b0 h4;have:=hR.inj x l b0 b h8 hb h5 hh (h6.trans he);subst this;exact hnl l0 h7
 have hrows:∀{els:List (Vt)} {i:Nat} (hi:i<(Hv (LR L st.length) els).length) (VZ:i<els.length),(Hv (LR L st.length) els)[i]=els[i].map (rn (LR L st.length)):=λhi VZ=>by
  simp[Hv,Ke]
 refine⟨v,A',μ,UB L st VO,rn (LR L st.length) av,he,⟨hR'.aLow,λB l b hA hb hh=>?_,λl1 l2 b1 b2 h1 h2 hh1 hh2 hBB=>?_,λl b hb=>?_,λl k els hel=>?_⟩,hSB,qd hmτ Fg,hk av VO hK⟩
 .rcases from_ l (μlt l b hb)with ⟨i,_,_,h3,_⟩|⟨_,_,h3,_⟩
  .rw[h3]at hb;exact hR'.aOwn B i b hA hb hh
  rw[h3]at hb;rename_i hnl _ _
  rcases hS.aNew B hA with h4|h4|⟨l0,b0,h4,h5,h6⟩
  .exact hR.aOwn B l b h4 hb hh
  .have:=hR.low hb hh;omega
  obtain⟨x,h7,h8⟩:=hown0 l0 b0 h4;intro he;have:=hR.inj x l b0 b h8 hb h5 hh (h6.trans he.symm);subst this;exact hnl l0 h7
 .rcases from_ l1 (μlt l1 b1 h1)with ⟨i1,_,e1,h3,_⟩|⟨n1,_,h3,_⟩<;>rcases from_ l2 (μlt l2 b2 h2)with ⟨i2,_,e2,h4,_⟩|⟨n2,_,h4,_⟩<;>rw[h3]at h1<;>rw[h4]at h2
  .rw[<-e1,<-e2,hR'.inj i1 i2 b1 b2 h1 h2 hh1 hh2 hBB]
  .exact absurd hBB (hfr l2 b2 n2 h2 hh2 i1 b1 h1 hh1)
  .exact absurd hBB.symm (hfr l1 b1 n1 h1 hh1 i2 b2 h2 hh2)
  exact hR.inj l1 l2 b1 b2 h1 h2 hh1 hh2 hBB
 .rcases from_ l (μlt l b hb)with ⟨i,_,_,h3,h4⟩|⟨_,_,h3,h4⟩
  .rw[h3]at hb;obtain⟨els,he'⟩:=hR'.live i b hb;exact⟨Hv (LR L st.length) els,by rw[h4,he'];rfl⟩
  rw[h3]at hb;obtain⟨els,he'⟩:=hR.live l b hb;exact⟨els,by rw[h4];exact he'⟩
 rcases from_ l (Qb.1 hel).1 with ⟨i,_,_,h3,h4⟩|⟨hn1,_,h3,h4⟩
 .rw[h4]at hel
  cases hi:VO[i]? with
  |none=>rw[hi]at hel;cases hel
  |some bl =>
   rw[hi]at hel
   cases bl with
   |none=>simp[Gq]at hel
   |some kb =>
    obtain⟨k',VM⟩:=kb;simp[Gq]at hel;obtain⟨rfl,rfl⟩:=hel;obtain⟨b,h5,h6,h7,h8⟩:=hR'.blk i k' VM hi;refine⟨b,by rw[h3];exact h5,h6,λhh=>?_,λhh=>by rw[h8 hh];rfl⟩;refine(h7 hh).rel (by simp[Hv]) λq hq hq'=>⟨by rw[hrows hq hq'];simp,λj hj hj' v hv=>?_⟩
    have:(Hv (LR L st.length) VM)[q][j]=rn (LR L st.length) VM[q][j]:=by simp[Hv,Ke]
    rw[this];exact qd hmτ hv
 rw[h4]at hel;obtain⟨b,h5,h6,h7,h8⟩:=hR.blk l k els hel;refine⟨b,by rw[h3];exact h5,h6,λhh=>(h7 hh).keep hS.size (hS.heap _ (h7 hh).low λi b' hb' hh'=>?_) λav v hv=>hv.step hR hSB,h8⟩;obtain⟨x,h9,h10⟩:=hown0 i b' hb';intro he';have:=hR.inj x l b' b h10 h5 hh' hh he';subst this;exact hn1 i h9
theorem oK(f:α->β)(l:List α):(l.map f).take l.length=l.map f:=JF YC
def WV(L:List (Option Nat))(l:Nat):Option Nat:=(L[l]?).bind id
def Hs(ρ:Nat->Option Nat):List (Option Nat)->St->St->Prop
 |[],[],_=>True
 |none::L,none::s0,st=>Hs ρ L s0 st
 |some l'::L,some (k,VT)::s0,st=>(∃els,st[l']?=some (some (k,els))/\Kr ρ VT els)/\Hs ρ L s0 st
 |_,_,_=>False
theorem Hs.len{ρ}:∀{L:List (Option Nat)} {s0 st:St},Hs ρ L s0 st->L.length=s0.length
 |[],[],_,_=>rfl
 |[],_::_,_,h=>h.elim
 |none::L,[],_,h=>h.elim
 |some _::L,[],_,h=>h.elim
 |none::L,none::s0,st,h=>by simpa using Hs.len (L:=L) (s0:=s0) (st:=st) h
 |none::L,some _::s0,st,h=>h.elim
 |some _::L,none::s0,st,h=>h.elim
 |some l'::L,some (k,e)::s0,st,h=>by simpa using Hs.len h.2
theorem Hs.get{ρ}:∀{L:List (Option Nat)} {s0 st:St},Hs ρ L s0 st->∀l,(∀l',WV L l=some l'->∃k VT els,s0[l]?=some (some (k,VT))/\st[l']?=some (some (k,els))/\Kr ρ VT els)/\
  ∀k VT,s0[l]?=some (some (k,VT))->∃l',WV L l=some l'
 |[],[],_,_,l=>⟨λl' h=>by simp[WV]at h,λk e h=>by simp at h⟩
 |[],_::_,_,h,_=>h.elim
 |none::L,[],_,h,_=>h.elim
 |some _::L,[],_,h,_=>h.elim
 |none::L,some _::s0,st,h,_=>h.elim
 |some _::L,none::s0,st,h,_=>h.elim
 |none::L,none::s0,st,h,l=>by
  cases l with
  |zero=>exact⟨λl' h'=>by simp[WV]at h',λk e h'=>by simp at h'⟩
  |succ l=>simpa[WV]using Hs.get (L:=L) (s0:=s0) (st:=st) h l
 |some x::L,some (k,e)::s0,st,h,l=>by
  cases l with
  |zero =>
   obtain⟨els,h1,h2⟩:=h.1;refine⟨λl' h'=>?_,λk' e' h'=>⟨x,by simp[WV]⟩⟩;simp[WV]at h';subst h';exact⟨k,e,els,YC,h1,h2⟩
  |succ l=>simpa[WV]using Hs.get h.2 l
theorem Kr.same{ρ}(h:∀r∈els,∀x∈r,LI x):Kr ρ els els:=⟨rfl,λi hi _=>⟨rfl,λj hj _=>.imm (h _ (Qj hi) _ (Qj hj))⟩⟩
theorem Kr.bytes{ρ}(bs:List UInt8):Kr ρ (bs.map Zw) (bs.map Zw):=
 Kr.same λr hr x hx=>by
  obtain⟨b,_,rfl⟩:=QP.1 hr;simp[Zw]at hx;subst hx;exact .lit _
theorem Kr.nil{ρ}:Kr ρ [] []:=⟨rfl,λi hi=>by simp at hi⟩
theorem Kr.one{ρ}{r r':Vt}(hl:r.length=r'.length)(h:∀j (h1:j<r.length) (h2:j<r'.length),Rn ρ r[j] r'[j]):Kr ρ [r] [r']:=
 ⟨rfl,λi hi _=>by
  have:i=0:=by simp at hi;exact hi
  subst this
  exact⟨hl,h⟩⟩
inductive KH:AV->Prop
 |any:KH .any
 |lit (v):KH (.lit v)
 |agg (cs) (h:∀x∈cs,KH x):KH (.agg cs)
 |tup (cs) (h:∀x∈cs,KH x):KH (.tup cs)
theorem KH.vi{A A':Nat->Prop}{w w':World}(hp:KH av):∀{v},VI A w av v->VI A' w' av v:=by
 induction hp with
 |any=>exact λ{v} _=>.any v
 |lit x=>intro v h;cases h;exact .lit _
 |agg cs _ ih=>intro v h;cases h with|agg _ a hs hv=>exact .agg _ _ hs λi hi=>ih _ (Qj hi) (hv i hi)
 |tup cs _ ih=>intro v h;cases h with|tup _ a hs hv=>exact .tup _ _ hs λi hi=>ih _ (Qj hi) (hv i hi)
theorem zA8{V6:Vt}{r:AV}(h:Xn P f V6 r)(hp:KH r)(hs:OP st args V6)(hk:K r st):US P f args st K:=by refine⟨h.1,λA m w VX hR hv=>(h.2 (λB=>B<w.heap.size) w VX (λB hB=>hB) ⟨by rw[<-hs.get.1];exact hv.1,λi VZ=>(hs.get.2 i (by rw[hs.get.1];exact VZ) VZ).vi hR hR.aLow (λ_ _ hb hh=>hR.low hb hh) (hv.2 i (by rw[hs.get.1];exact VZ))⟩).mono λe w' ⟨v,he,hg,hvi⟩=>?_⟩;obtain⟨h1,h2⟩:=hR.grow' hg;exact⟨v,A,m,st,_,he,h1,h2,.imm (hp.vi hvi),hk⟩
def UN(P:Program)(op:Op)(env:Ev)(st:St)(K:AV->St->Prop):Prop:=
 match ZW op with
 |true =>
  match KG env op with
  |some (g,args)=>US P g args st K
  |none=>False
 |false =>
  match Lh P env st op with
  |some (av,VO)=>K av VO
  |none=>False
theorem yh{A m w st n env a}(hR:R A m w st)(hE:Ly A m st.length w n env a)(h:UN P o.op env st K)(hk:∀v w' A' m' VO av,R A' m' w' VO->Xs A m st.length w A' m' VO.length w'->V A' m' VO.length w' av v->K av VO->Fw (a.put o.dst v) w'):o.wp P a w Fw Q:=by
 unfold UN at h;unfold Oper.wp;split at h
 .rename_i hic;clear hic;split at h
  case h_2=>exact h.elim
  rename_i g args hc;have hs:=h;clear h;obtain⟨dst,op,ty,pos,after,guard⟩:=o;simp only at hc hs;unfold KG at hc;split at hc
  .rename_i c;split at hc
   .rename_i f hf;split at hc
    .rename_i g' first Fu V6 hfv hargs
     cases hc;have h1:=XD hE hfv;obtain⟨p,q,e,hp,hq⟩:=h1.fn_inv;have hargs':=Ps hE hargs;obtain⟨callee,cargs,cat⟩:=c;simp only at hf hargs hargs';subst hf
     have e2:(cargs.toList.map a.eval).toArray=cargs.map a.eval:=by apply Array.ext';simp
     rw[e2]at hargs'
     have hrun:(execOp a.eval { dst:=dst,op:=.call { callee:=.value f,args:=cargs,argTypes:=cat},type:=ty,pos:=pos,after:=after,guard:=guard}).run P w=.ok (.enter g (p++cargs.map a.eval++q)) w:=by
      have hce:=eD hs.1 (p++cargs.map a.eval++q) w;simp only[execOp,resolve,e,Deferred.ofValue,Sem.run_bind,Sem.run_pure,Result.andThen_ok,invoke];exact hce
     rw[hrun];simp only[Oper.upon];refine(hs.2 A m w _ hR ((hp.append hargs').append hq)).mono λe w' ⟨v,A',m',VO,av,h1,h2,h3,h4,h5⟩=>?_;subst h1;exact hk _ _ _ _ _ _ h2 h3 h4 h5
    cases hc
   cases hc
  cases hc
 split at h
 case h_2=>exact h.elim
 rename_i av VO ha;have hK:=h;obtain⟨nx,v,w',m',h1,h2,h3,h4,h5⟩:=bC hR hE ha;rw[h1]
 rcases h2 with rfl|⟨rfl,rfl⟩
 .exact hk _ _ _ _ _ _ h3 h4 h5 hK
 exact hk _ _ _ _ _ _ h3 h4 h5 hK
def Zj(all:List Oper)(j:Nat):Option Tmp:=(all[j]?).bind (·.dst)
def K7:List Oper->List Tmp
 |[]=>[]
 |o::os=>match o.dst with|some t=>t::K7 os|none=>K7 os
def RB(t:Tmp):List Tmp->Bool
 |[]=>false
 |x::l=>if x=t then true else RB t l
theorem xP{t:Tmp}:∀{l:List Tmp},RB t l=true↔t∈l
 |[]=>by simp[RB]
 |x::l=>by
  unfold RB;split;.rename_i h;simp[h]
  rename_i h;simp[xP (l:=l),Ne.symm h]
def KJ(ds:List Tmp):Ev->Ev
 |[]=>[]
 |(k,v)::e=>match RB k ds with|true=>KJ ds e|false=>(k,v)::KJ ds e
structure COp where
 op:Op
 deps:List Tmp
 guard:Option (Option Tmp×Bool)
 dst:Option Tmp
def Zs(all:List Oper):List Edge->List Tmp
 |[]=>[]
 |e::es=>match Region.binds .any e,Zj all e.on with|true,some t=>t::Zs all es|_,_=>Zs all es
def G1(all:List Oper):Option (Nat×Bool)->Option (Option Tmp×Bool)
 |none=>none
 |some (j,w)=>some (Zj all j,w)
def LL(G:Ev)(VC:Ev):List Tmp->Ev
 |[]=>VC
 |t::ts=>match look G t with|some v=>(t,v)::LL G VC ts|none=>LL G VC ts
def Gx(env:Ev):Option (Option Tmp×Bool)->Option Bool
 |none=>some true
 |some (none,_)=>none
 |some (some d,V0)=>
  match look env d with
  |some (.lit (.bool b))=>some (b==V0)
  |some (.lit (.tuple _))=>some false
  |_=>none
theorem ul(all:List Oper)(env:Ev)(o:Oper):ZQ all env o=Gx env (G1 all o.guard):=by
 unfold ZQ G1
 cases o.guard with
 |none=>rfl
 |some g =>
  obtain⟨j,w⟩:=g;simp only[Zj];cases(all[j]?).bind (·.dst)<;>rfl
def W1(P:Program)(all:List Oper)(VC:Ev)(st:St)(G:Ev)(o:Oper)(v:AV):Prop:=
 match Gx (LL G VC (Zs all o.after.toList)) (G1 all o.guard)with
 |some true=>UN P o.op (LL G VC (Zs all o.after.toList)) st (λav VO=>av=v/\VO=st)
 |some false=>v=.lit undef
 |none=>False
theorem kj{t u:Tmp}{v x:AV}{e:Ev}(h:look ((t,v)::e) u=some x):(t=u/\v=x)\/look e u=some x:=by
 simp only[look]at h;split at h;.rename_i e;exact .inl ⟨e.symm▸rfl,Option.some.inj h⟩
 exact .inr h
theorem xS{G VC:Ev}{u:Tmp}{x:AV}:∀{ts:List Tmp},look (LL G VC ts) u=some x->look VC u=some x\/(u∈ts/\look G u=some x)
 |[],h=>.inl h
 |t::ts,h=>by
  unfold LL at h;split at h
  .rename_i v hv
   rcases kj h with ⟨rfl,rfl⟩|h1
   .exact .inr ⟨YC,hv⟩
   exact(xS h1).imp id λh2=>⟨by simp[h2.1],h2.2⟩
  exact(xS h).imp id λh2=>⟨by simp[h2.1],h2.2⟩
theorem xT{u:Tmp}{x:AV}{e:Ev}:∀{G:Ev},look (G++e) u=some x->look e u=some x\/look G u=some x
 |[],h=>.inl h
 |(t,v)::G,h=>by
  rcases kj h with ⟨rfl,rfl⟩|h1
  .exact .inr (by simp[look])
  rcases xT h1 with h2|h2
  .exact .inl h2
  by_cases ht:t=u;.subst ht;refine .inr ?_;simp only[J5,look,YQ]at h;simpa[look]using h
  exact .inr (by simp only[look,YM ht];exact h2)
theorem xF{all:List Oper}{t:Tmp}:∀{es:List Edge},t∈Zs all es->∃e∈es,Region.binds .any e=true/\Zj all e.on=some t
 |[],h=>by simp[Zs]at h
 |e::es,h=>by
  unfold Zs at h;split at h
  .rename_i h1 h2
   rcases Qu.1 h with rfl|h3
   .exact⟨e,YC,h1,h2⟩
   obtain⟨e',h4,h5⟩:=xF h3;exact⟨e',by simp[h4],h5⟩
  obtain⟨e',h4,h5⟩:=xF h;exact⟨e',by simp[h4],h5⟩
theorem fx{t:Tmp}:∀{os:List Oper} {i:Nat},Zj os i=some t->t∈K7 os
 |[],i,h=>by simp[Zj]at h
 |o::os,i,h=>by
  unfold K7
  cases i with
  |zero =>
   have:o.dst=some t:=by simpa[Zj]using h
   rw[this];simp
  |succ i =>
   have:=fx (os:=os) (i:=i) (by simpa[Zj]using h);split;.simp[this]
   exact this
def H3(n:Nat)(all:List Oper):Bool:=
 (List.range all.length).all λi =>
  match all[i]? with
  |none=>true
  |some o=>o.dst.all (·<n)&&o.after.toList.all (λe=>!Region.binds .any e||decide (e.on<i)) &&
   (List.range i).all λj=>match o.dst,Zj all j with|some t,some u=>t !=u|_,_=>true
theorem zCU{all:List Oper}(h:H3 n all=true):(∀(i:Nat) o,all[i]?=some o->o.dst.all (·<n)=true/\∀e∈o.after.toList,Region.binds .any e=true->e.on<i)/\∀i j t,Zj all i=some t->Zj all j=some t->i=j:=by
 have key:∀(i:Nat) o,all[i]?=some o->o.dst.all (·<n)=true/\(∀e∈o.after.toList,Region.binds .any e=true->e.on<i)/\∀j,j<i->∀t,o.dst=some t->Zj all j≠some t:=λi o ho=>by
  have hi:i<all.length:=(Qb.1 ho).1;have:=(Qr.1 h) i (Jz.2 hi);rw[ho]at this;simp only[Qd]at this;obtain⟨⟨h1,h2⟩,h3⟩:=this;refine⟨h1,λe he hb=>?_,λj hj t ht hjt=>?_⟩;.have:=(Qr.1 h2) e he;rw[hb]at this;simpa using this
  have:=(Qr.1 h3) j (Jz.2 hj);rw[ht,hjt]at this;simp at this
 refine⟨λi o ho=>⟨(key i o ho).1,(key i o ho).2.1⟩,λi j t hi hj=>?_⟩
 have hex:∀i,Zj all i=some t->∃o,all[i]?=some o/\o.dst=some t:=λi h=>by
  unfold Zj at h
  cases ho:all[i]? with
  |none=>rw[ho]at h;cases h
  |some o=>rw[ho]at h;exact⟨o,rfl,h⟩
 obtain⟨oi,h1,h2⟩:=hex i hi;obtain⟨oj,h3,h4⟩:=hex j hj
 rcases Nat.lt_trichotomy i j with hlt|heq|hgt
 .exact absurd hi ((key j oj h3).2.2 i hlt t h4)
 .exact heq
 exact absurd hj ((key i oi h1).2.2 j hgt t h2)
theorem xl{A m nb w n env a}(V8:a.tmps.size=n)(hdf:a.defers=[])(h:∀t v,look env t=some v->t<n/\V A m nb w v (a.tmps.getD t undef)):Ly A m nb w n env a:=⟨V8,h,hdf⟩
theorem Pb{ds:List Tmp}{t:Tmp}:∀{e:Ev},(t∈ds->look (KJ ds e) t=none)/\∀v,look (KJ ds e) t=some v->look e t=some v
 |[]=>⟨λ_=>rfl,λv h=>h⟩
 |p::e=>by
  obtain⟨h1,h2⟩:=Pb (ds:=ds) (t:=t) (e:=e);obtain⟨s,x⟩:=p;unfold KJ;split
  .rename_i hm;refine⟨h1,λv h=>?_⟩;simp only[look];split
   .rename_i ets
    have:t∈ds:=by rw[<-ets];exact xP.1 hm
    rw[h1 this]at h;cases h
   exact h2 v h
  rename_i hm;refine⟨λht=>?_,λv h=>?_⟩
  .simp only[look];split;.rename_i ets;rw[<-ets]at ht;rw[xP.2 ht]at hm;cases hm
   exact h1 ht
  simp only[look]at h ⊢;split;.rename_i ets;rw[YK ets]at h;exact h
  rename_i ets;rw[YM ets]at h;exact h2 v h
theorem bs{k:α->Option β}{r:β}(h:(m.bind k)=some r):∃x,m=some x/\k x=some r:=by
 cases m with
 |none=>cases h
 |some x=>exact⟨x,rfl,h⟩
theorem sm{α:Type}{x y:α}(h:some x=some y):x=y:=Option.some.inj h
theorem bT{x y r:α}(hc:c=true)(h:cond c x y=r):x=r:=by rw[hc]at h;exact h
theorem bF{x y r:α}(hc:c=false)(h:cond c x y=r):y=r:=by rw[hc]at h;exact h
section
variable {X Y:Type}
def Z2(body:X->Option (Sum X Y)):Nat->X->Option Y
 |0,_=>none
 |n+1,x =>
  match body x with
  |some (.inl x')=>Z2 body n x'
  |some (.inr y)=>some y
  |none=>none
open Classical in
def CV(body:X->Option (Sum X Y))(x:X):Option Y:=if h:∃n y,Z2 body n x=some y then some h.choose_spec.choose else none
def zk(body:X->Option (Sum X Y))(x:X):Option Y:=
 match Z2 body 3000 x with
 |some y=>some y
 |none=>CV body x
theorem uw{body:X->Option (Sum X Y)}:∀{n k:Nat} {x:X} {y:Y},Z2 body n x=some y->n<=k->Z2 body k x=some y
 |0,_,_,_,h,_=>by cases h
 |n+1,0,_,_,_,hk=>YA
 |n+1,k+1,x,y,h,hk=>by
  unfold Z2 at h ⊢;split at h;.rename_i x' hx;exact uw h YA
  .rename_i z hx;exact h
  cases h
theorem xR{body:X->Option (Sum X Y)}{x:X}{y:Y}(h:Z2 body n x=some y):zk body x=some y:=by
 have key:∀n k y z,Z2 body n x=some y->Z2 body k x=some z->y=z:=λn k y z h1 h2 =>
  sm ((uw h1 (Nat.le_max_left n k)).symm.trans (uw h2 (Nat.le_max_right n k)))
 unfold zk
 cases h0:Z2 body 3000 x with
 |some z=>exact congrArg some (key _ _ _ _ h0 h)
 |none =>
  have hex:∃n y,Z2 body n x=some y:=⟨n,y,h⟩;show CV body x=some y;unfold CV;rw[dif_pos hex];exact congrArg some (key _ _ _ _ hex.choose_spec.choose_spec h)
theorem Eg{body:X->Option (Sum X Y)}{x:X}{y:Y}(h:zk body x=some y):∃n,Z2 body n x=some y:=by
 unfold zk at h;split at h;.rename_i z h0;cases h;exact⟨_,h0⟩
 unfold CV at h;split at h;.rename_i hex;cases h;exact⟨_,hex.choose_spec.choose_spec⟩
 cases h
theorem zH(body:X->Option (Sum X Y))(x:X):zk body x=(body x).bind (Sum.elim (zk body) some):=by
 cases hb:body x with
 |none =>
  cases h:zk body x with
  |none=>rfl
  |some y =>
   obtain⟨n,hn⟩:=Eg h
   cases n with
   |zero=>cases hn
   |succ n=>unfold Z2 at hn;rw[hb]at hn;cases hn
 |some r =>
  cases r with
  |inr y=>exact xR (n:=1) (by unfold Z2;rw[hb])
  |inl x' =>
   show zk body x=zk body x'
   cases h:zk body x' with
   |some y =>
    obtain⟨n,hn⟩:=Eg h;exact xR (n:=n+1) (by unfold Z2;rw[hb];exact hn)
   |none =>
    cases h2:zk body x with
    |none=>rfl
    |some y =>
     obtain⟨n,hn⟩:=Eg h2
     cases n with
     |zero=>cases hn
     |succ n =>
      unfold Z2 at hn;rw[hb]at hn;rw[xR hn]at h;cases h
end
def zE{B R R':Type}(o:Sum B R)(k:B->Option R')(f:R->Option R'):Option R':=
 match o with
 |.inl b=>k b
 |.inr r=>f r
abbrev B(l:List UInt8):ByteArray:=⟨⟨l⟩⟩
def idx(l:List α)(i:Int):Option α:=if 0<=i then l[i.toNat]? else none
theorem zT{i:Int}{x:α}(h:idx l i=some x):0<=i/\i.toNat<l.length/\l[i.toNat]?=some x:=by
 unfold idx at h;split at h;.rename_i h0;exact⟨h0,(Qb.1 h).1,h⟩
 cases h
def XR(l:List α)(lo hi:Int):Option (List α):=if 0<=lo/\lo<=hi/\hi<=l.length then some ((l.drop lo.toNat).take (hi.toNat-lo.toNat))else none
def Xu(w:Nat)(l x:List α):Option (List α):=if(l.length+x.length)*w<=140737488355328/\l.length+x.length<=9223372036854775807 then some (l++x)else none
theorem bB{w:Nat}{x r:List α}(h:Xu w l x=some r):r=l++x/\(l.length+x.length)*w<=140737488355328/\l.length+x.length<=9223372036854775807:=by
 unfold Xu at h;split at h;.rename_i h1;cases h;exact⟨rfl,h1⟩
 cases h
def Ze(l x:List UInt8):Option (List UInt8):=if l.length+x.length<=9223372036854775807 then some (l++x)else none
def r9(k:IntKind)(a b:Int):Option Int:=if b=0 then none else some (k.wrap (a.tdiv b))
def RD(a b:Int):Option Int:=if b=0 then none else some (a.tmod b)
def rG(k:IntKind)(a b:Int):Option Int:=if b<0 then none else some (k.wrap (a*2 ^ (min b.toNat k.bits)))
def rF(k:IntKind)(a b:Int):Option Int:=if b<0 then none else some (a.fdiv (2 ^ (min b.toNat k.bits)))
def SR(P:Program)(n nb0:Nat)(all l1 l2:List Oper)(K:Ev->St->Prop)(env:Ev)(st:St):Prop:=
 ∀(VS:Array Oper) (i:Nat),VS.toList=all->all.drop i=l1++l2->all.all (λo=>o.dst.all (·<n))=true->∀A m w a,nb0<=st.length->R A m w st->Ly A m st.length w n env a->
  ∀Q:Exit->Act->World->Prop,(∀a' w',KN A m nb0 w n K a' w'->wpOps P VS Q (List.range' (i+l1.length) l2.length) a' w')->wpOps P VS Q (List.range' i (l1.length+l2.length)) a w
section
variable {nb0:Nat} {all l1 l2:List Oper} {K:Ev->St->Prop}
theorem zx(h:K env st):SR P n nb0 all [] l2 K env st:=λVS i ho hd hn A m w a h0 hR hE Q hQ=>by
 have:=hQ a w ⟨A,m,env,st,hR,hE,Xs.refl0 _ _ _ _ h0,h⟩;simpa using this
theorem rS(h:SR P n nb0 all l1 (l1'++l2) (λenv st=>SR P n nb0 all l1' l2 K env st) env st):SR P n nb0 all (l1++l1') l2 K env st:=λVS i ho hd hn A m w a h0 hR hE Q hQ=>by
 rw[Q4]at hd
 have h1:=h VS i ho hd hn A m w a h0 hR hE Q λa' w' ⟨A',m',e',s',k1,k2,k3,k4⟩=>by
  have h2:=k4 VS (i+l1.length) ho (by rw[<-List.drop_drop,hd,List.drop_left]) hn A' m' w' a' k3.nbLe k1 k2 Q λa2 w2 h3=>by
   have:=hQ a2 w2 (h3.trans k3)
   rwa [Qx,<-QW]at this
  rwa [Qx]
 rw[Qx]at h1
 rwa [Qx,QW]
theorem Sc(k:Nat)(h:SR P n nb0 all (l1.take k) (l1.drop k++l2) (λenv st=>SR P n nb0 all (l1.drop k) l2 K env st) env st):SR P n nb0 all l1 l2 K env st:=by
 have:=rS h
 rwa [List.take_append_drop]at this
theorem C5(h:SR P n nb0 all l1 l2 K env st)(hk:∀env st,K env st->K' env st):SR P n nb0 all l1 l2 K' env st:=λVS i ho hd hn A m w a h0 hR hE Q hQ =>
 h VS i ho hd hn A m w a h0 hR hE Q λa' w' ⟨A',m',e',s',k1,k2,k3,k4⟩=>hQ a' w' ⟨A',m',e',s',k1,k2,k3,hk _ _ k4⟩
theorem D3(hs:∀t v,look VN t=some v->look env t=some v)(h:SR P n nb0 all l1 l2 K VN st):SR P n nb0 all l1 l2 K env st:=λVS i ho hd hn A m w a h0 hR hE Q hQ =>
 h VS i ho hd hn A m w a h0 hR (hE.less hs) Q hQ
theorem dh{i:Nat}(ho:VS.toList=all)(hd:all.drop i=o::l1++l2)(hn:all.all (λo=>o.dst.all (·<n))=true):VS[i]?=some o/\all.drop (i+1)=l1++l2/\o.dst.all (·<n)=true:=by
 have hi:VS[i]?=some o:=by
  have:VS.toList[i]?=some o:=by
   have h1:(VS.toList.drop i)[0]?=some o:=by rw[ho,hd];rfl
   simpa using h1
  simpa using this
 refine⟨hi,?_,?_⟩;.have:=congrArg List.tail hd;simpa[List.tail_drop]using this
 rw[Qr]at hn;refine hn o ?_;rw[<-ho];exact Qc (by simpa using hi:VS.toList[i]?=some o)
theorem Hl(hg:ZQ all env o=some true)(h:F8 P o env st λVN VO=>SR P n nb0 all l1 l2 K VN VO):SR P n nb0 all (o::l1) l2 K env st:=λVS i ho hd hn A m w a h0 hR hE Q hQ=>by
 obtain⟨hi,hd',hdo⟩:=dh ho hd hn
 have e:(o::l1).length+l2.length=(l1.length+l2.length)+1:=by simp;omega
 rw[e,J6];simp only[wpOps,hi];rw[Wk hE (ho.symm▸hg)];simp only[YQ];refine .inl (qk hR hE hdo h λa' w' ⟨A',m',VN,VO,h1,h2,h3,h4⟩=>?_);refine h4 VS (i+1) ho hd' hn A' m' w' a' (QK h0 h3.nbLe) h1 h2 Q λa2 w2 k=>?_;have:=hQ a2 w2 (k.trans (h3.weak h0))
 rwa [Qw,Yh l1.length 1,<-QW]at this
variable {op:Op} {ty:TypeId} {pos:String}
theorem u(h:F8 P ⟨d,op,ty,pos,VU,none⟩ env st λVN VO=>SR P n nb0 all l1 l2 K VN VO):SR P n nb0 all (⟨d,op,ty,pos,VU,none⟩::l1) l2 K env st:=Hl rfl h
theorem SJ{b:Bool}(hv:GR all j env=some (.lit (.bool b))):ZQ all env ⟨d,op,ty,pos,VU,some (j,V0)⟩=some (b==V0):=by
 unfold GR at hv;unfold ZQ;simp only
 cases hd:(all[j]?).bind (·.dst)with
 |none=>rw[hd]at hv;cases hv
 |some t =>
  rw[hd]at hv;simp only[Qa]at hv;simp only[hv]
theorem lJ(hv:GR all j env=some (.lit undef)):ZQ all env ⟨d,op,ty,pos,VU,some (j,V0)⟩=some false:=by
 unfold GR at hv;unfold ZQ;simp only
 cases hd:(all[j]?).bind (·.dst)with
 |none=>rw[hd]at hv;cases hv
 |some t =>
  rw[hd]at hv;simp only[Qa]at hv;simp only[hv,undef]
theorem g{b:Bool}(hv:GR all j env=some (.lit (.bool b)))(hb:b=V0)(h:F8 P ⟨d,op,ty,pos,VU,some (j,V0)⟩ env st λVN VO=>SR P n nb0 all l1 l2 K VN VO):SR P n nb0 all (⟨d,op,ty,pos,VU,some (j,V0)⟩::l1) l2 K env st:=Hl ((SJ hv).trans (by rw[hb];simp)) h
theorem yd(hg:ZQ all env o=some false)(h:SR P n nb0 all l1 l2 K (aput o.dst (.lit undef) env) st):SR P n nb0 all (o::l1) l2 K env st:=λVS i ho hd hn A m w a h0 hR hE Q hQ=>by
 obtain⟨hi,hd',hdo⟩:=dh ho hd hn
 have e:(o::l1).length+l2.length=(l1.length+l2.length)+1:=by simp;omega
 rw[e,J6];simp only[wpOps,hi];rw[Wk hE (ho.symm▸hg)];simp only[JE,YT];refine h VS (i+1) ho hd' hn A m w _ h0 hR (hE.aput hdo (.imm (.lit _))) Q λa2 w2 k=>?_;have:=hQ a2 w2 k
 rwa [Qw,Yh l1.length 1,<-QW]at this
def Xt(t:Nat):List Nat->Bool
 |[]=>false
 |x::l=>Nat.beq x t||Xt t l
def ZH(ds:List Nat):Ev->Bool
 |[]=>true
 |(t,_)::e=>(!Xt t ds)&&ZH ds e
def Kb:List Oper->List Nat
 |[]=>[]
 |o::r=>match o.dst with|some t=>t::Kb r|none=>Kb r
def Gt(env:Ev):List Oper->Ev
 |[]=>env
 |o::r=>Gt (aput o.dst (.lit undef) env) r
theorem G3{t:Nat}:∀{l:List Nat},Xt t l=true↔t∈l
 |[]=>by simp[Xt]
 |x::l=>by
  unfold Xt;rw[Qv,Nat.beq_eq,G3 (l:=l),Qu];exact⟨λh=>h.imp Eq.symm id,λh=>h.imp Eq.symm id⟩
theorem GJ{ds:List Nat}{t:Nat}{v:AV}:∀{e:Ev},ZH ds e=true->look e t=some v->t∉ds
 |[],_,h=>by cases h
 |(k,x)::e,hk,h=>by
  simp only[ZH,Qd,Qm]at hk;simp only[look]at h;split at h;.rename_i e';subst e';intro hm;rw[G3.2 hm]at hk;cases hk.1
  exact GJ hk.2 h
theorem ER{t:Nat}:∀{l:List Oper} {env:Ev},t∉Kb l->look (Gt env l) t=look env t
 |[],_,_=>rfl
 |o::r,env,h=>by
  unfold Gt;unfold Kb at h
  cases hd:o.dst with
  |none=>rw[hd]at h;exact ER h
  |some d =>
   rw[hd]at h;simp only[Qu,not_or]at h;have h2:=ER (l:=r) (env:=aput (some d) (.lit undef) env) h.2;rw[h2];have:d≠t:=λe=>h.1 e.symm;simp[aput,look,this]
def Hf(all:List Oper)(j:Nat)(V0:Bool)(Xc:List Nat):List Oper->Bool
 |[]=>true
 |o::r=>(match o.guard with
  |some (j',w')=>(Nat.beq j' j&&(w'==V0))||(match(all[j']?).bind (·.dst)with|some t=>Xt t Xc|none=>false)
  |none=>false)&&Hf all j V0 (match o.dst with|some t=>t::Xc|none=>Xc) r
theorem NK{j:Nat}{V0 b:Bool}{t:Nat}(ht:(all[j]?).bind (·.dst)=some t):∀(l:List Oper) {l1:List Oper} {env:Ev} {Xc:List Nat},Hf all j V0 Xc l=true->(∀x∈Xc,look env x=some (.lit undef))->t∉Kb l->t∉Xc->look env t=some (.lit (.bool b))->b=!V0->
  SR P n nb0 all l1 l2 K (Gt env l) st->SR P n nb0 all (l++l1) l2 K env st
 |[],_,_,_,_,_,_,_,_,_,h=>h
 |o::l,l1,env,Xc,ha,hs,hn,hts,hl,hb,h=>by
  unfold Hf at ha;obtain⟨d,op,ty,pos,VU,gu⟩:=o
  cases gu with
  |none=>simp at ha
  |some jw =>
   obtain⟨j',w'⟩:=jw;simp only[Qd,Qv]at ha;obtain⟨h1,h2⟩:=ha
   have hsk:ZQ all env ⟨d,op,ty,pos,VU,some (j',w')⟩=some false:=by
    rcases h1 with h1|h1
    .obtain⟨e1,e2⟩:=h1;have e1:=Qn e1;have e2:=beq_iff_eq.1 e2;subst e1 e2
     have hgv:GR all j' env=some (.lit (.bool b)):=by unfold GR;rw[ht];exact hl
     exact(SJ hgv).trans (by rw[hb];simp)
    split at h1
    .rename_i t' ht'
     have hgv:GR all j' env=some (.lit undef):=by unfold GR;rw[ht'];exact hs t' (G3.1 h1)
     exact lJ hgv
    cases h1
   refine yd hsk ?_;have hn':t∉Kb l:=λhm=>hn (by unfold Kb;cases d<;>simp[hm]);have hd:∀d',d=some d'->d'≠t:=λd' e e'=>hn (by subst e;simp[Kb,e']);refine NK ht l h2 (λx hx=>?_) hn' (λhm=>?_) ?_ hb h
   .cases d with
    |none=>exact hs x hx
    |some d =>
     rcases Qu.1 hx with rfl|hx
     .simp[aput,look]
     by_cases e:d=x;.simp[aput,look,e]
     simpa[aput,look,e]using hs x hx
   .cases d with
    |none=>exact hts hm
    |some d =>
     rcases Qu.1 hm with h5|h5
     .exact hd d rfl h5.symm
     exact hts h5
   cases d with
   |none=>exact hl
   |some d=>simpa[aput,look,hd d rfl]using hl
def GO(env:Ev)(st:St)(y:Operand)(x:Bool)(VN:Ev)(VO:St):Prop:=VO=st/\(∀t v,look env t=some v->look VN t=some v)/\ev VN y=some (.lit (.bool x))
theorem N6{ds:List Nat}{env:Ev}(hk:ZH ds env=true):∀(k:Nat) {VN:Ev},VN.drop k=env->(∀p∈VN.take k,Xt p.1 ds=true)->∀t v,look env t=some v->look VN t=some v
 |0,VN,h,_,t,v,hl=>by simp at h;rw[h];exact hl
 |k+1,[],h,_,t,v,hl=>by simp at h;rw[h]at hl;cases hl
 |k+1,(a,x)::e,h,hm,t,v,hl=>by
  have h1:=N6 hk k (VN:=e) (by simpa using h) (λp hp=>hm p (by simp[hp])) t v hl;have h2:a∈ds:=G3.1 (hm (a,x) YC);have h3:a≠t:=λe=>GJ hk hl (e▸h2);simpa[look,h3]using h1
def Bh(ds:List Nat):Nat->Ev->Bool
 |0,_=>true
 |_+1,[]=>true
 |k+1,(a,_)::e=>Xt a ds&&Bh ds k e
theorem Pw{ds:List Nat}:∀{k:Nat} {e:Ev},Bh ds k e=true->∀p∈e.take k,Xt p.1 ds=true
 |0,_,_,p,hp=>by simp at hp
 |k+1,[],_,p,hp=>by simp at hp
 |k+1,(a,x)::e,h,p,hp=>by
  simp only[Bh,Qd]at h;simp only[List.take_succ_cons,Qu]at hp
  rcases hp with rfl|hp
  .exact h.1
  exact Pw h.2 p hp
theorem eg{y:Operand}(ds:List Nat)(k:Nat)(h1:VN.drop k=env)(h2:ZH ds env=true)(h3:Bh ds k VN=true)(h4:ev VN y=some (.lit (.bool x))):GO env st y x VN st:=⟨rfl,N6 h2 k h1 (Pw h3),h4⟩
theorem XV(k:Nat){dp c:Nat}{y:Operand}{Fl:TypeId}{V3:String}{b:Bool}{l:List Oper}(hl:l1.drop k=⟨some dp,.pick (.tmp c) y (.const (.bool false)),Fl,V3,Fa,gp⟩::l)(hj:(all[j]?).bind (·.dst)=some c)(hc:look env c=some (.lit (.bool b)))(hg:Hf all j true [] (l1.take k)=true)(hk:ZH (Kb (l1.take k)) env=true)(FA:∀VN:Ev,(∀t v,look env t=some v->look VN t=some v)->ZQ all VN ⟨some dp,.pick (.tmp c) y (.const (.bool false)),Fl,V3,Fa,gp⟩=some true)(hT:b=true->SR P n nb0 all (l1.take k) (l1.drop k++l2) (GO env st y x) env st)(hF:b=false->x=false)(h:SR P n nb0 all l l2 K ((dp,.lit (.bool x))::env) st):SR P n nb0 all l1 l2 K env st:=by
 refine Sc k ?_;rw[hl]
 cases b with
 |true =>
  refine C5 (by rw[<-hl];exact hT rfl) ?_;rintro VN VO ⟨rfl,h2,h3⟩;refine Hl (FA VN h2) ?_;unfold F8;simp only[ZW,Lh];have:ev VN (.tmp c)=some (.lit (.bool true)):=h2 c _ hc;rw[this,h3];simp only[QS,aput];refine D3 (λt v ht=>?_) h;simp only[look]at ht ⊢;split;.rename_i e;rw[YK e]at ht;exact ht
  .rename_i e;rw[YM e]at ht;exact h2 t v ht
 |false =>
  have V9:∀t v,look env t=some v->look (Gt env (l1.take k)) t=some v:=λt v ht=>by
   rw[ER (GJ hk ht)];exact ht
  have:=NK (P:=P) (n:=n) (nb0:=nb0) (l2:=l1.drop k++l2) (K:=λenv st=>SR P n nb0 all (l1.drop k) l2 K env st) (st:=st) (l1:=[]) hj (l1.take k) hg (λ_ h=>by cases h) (GJ hk hc) (λh=>by cases h) hc rfl ?_;.rw[Qy]at this;rwa [hl]at this
  apply zx;rw[hl];refine Hl (FA _ V9) ?_;unfold F8;simp only[ZW,Lh];have:ev (Gt env (l1.take k)) (.tmp c)=some (.lit (.bool false)):=V9 c _ hc;rw[this];simp only[ev,QS,aput];rw[hF rfl]at h;refine D3 (λt v ht=>?_) h;simp only[look]at ht ⊢;split;.rename_i e;rw[YK e]at ht;exact ht
  rename_i e;rw[YM e]at ht;exact V9 t v ht
theorem Uj(k:Nat){dp c:Nat}{y:Operand}{Fl:TypeId}{V3:String}{b:Bool}{l:List Oper}(hl:l1.drop k=⟨some dp,.pick (.tmp c) (.const (.bool true)) y,Fl,V3,Fa,gp⟩::l)(hj:(all[j]?).bind (·.dst)=some c)(hc:look env c=some (.lit (.bool b)))(hg:Hf all j false [] (l1.take k)=true)(hk:ZH (Kb (l1.take k)) env=true)(FA:∀VN:Ev,(∀t v,look env t=some v->look VN t=some v)->ZQ all VN ⟨some dp,.pick (.tmp c) (.const (.bool true)) y,Fl,V3,Fa,gp⟩=some true)(hF:b=false->SR P n nb0 all (l1.take k) (l1.drop k++l2) (GO env st y x) env st)(hT:b=true->x=true)(h:SR P n nb0 all l l2 K ((dp,.lit (.bool x))::env) st):SR P n nb0 all l1 l2 K env st:=by
 refine Sc k ?_;rw[hl]
 cases b with
 |false =>
  refine C5 (by rw[<-hl];exact hF rfl) ?_;rintro VN VO ⟨rfl,h2,h3⟩;refine Hl (FA VN h2) ?_;unfold F8;simp only[ZW,Lh];have:ev VN (.tmp c)=some (.lit (.bool false)):=h2 c _ hc;rw[this,h3];simp only[QS,aput];refine D3 (λt v ht=>?_) h;simp only[look]at ht ⊢;split;.rename_i e;rw[YK e]at ht;exact ht
  .rename_i e;rw[YM e]at ht;exact h2 t v ht
 |true =>
  have V9:∀t v,look env t=some v->look (Gt env (l1.take k)) t=some v:=λt v ht=>by
   rw[ER (GJ hk ht)];exact ht
  have:=NK (P:=P) (n:=n) (nb0:=nb0) (l2:=l1.drop k++l2) (K:=λenv st=>SR P n nb0 all (l1.drop k) l2 K env st) (st:=st) (l1:=[]) hj (l1.take k) hg (λ_ h=>by cases h) (GJ hk hc) (λh=>by cases h) hc rfl ?_;.rw[Qy]at this;rwa [hl]at this
  apply zx;rw[hl];refine Hl (FA _ V9) ?_;unfold F8;simp only[ZW,Lh];have:ev (Gt env (l1.take k)) (.tmp c)=some (.lit (.bool true)):=V9 c _ hc;rw[this];simp only[ev,QS,aput];rw[hT rfl]at h;refine D3 (λt v ht=>?_) h;simp only[look]at ht ⊢;split;.rename_i e;rw[YK e]at ht;exact ht
  rename_i e;rw[YM e]at ht;exact V9 t v ht
theorem Lr{o:Option Tmp}{op:Op}{ty:TypeId}{pos:String}:∀VN:Ev,(∀t v,look env t=some v->look VN t=some v)->ZQ all VN ⟨o,op,ty,pos,VU,none⟩=some true:=λ_ _=>rfl
theorem MA{o:Option Tmp}{op:Op}{ty:TypeId}{pos:String}{t:Nat}{b:Bool}(hj:(all[j]?).bind (·.dst)=some t)(hv:look env t=some (.lit (.bool b)))(hb:b=V0):
  ∀VN:Ev,(∀t v,look env t=some v->look VN t=some v)->ZQ all VN ⟨o,op,ty,pos,VU,some (j,V0)⟩=some true:=λVN h=>by
 have hgv:GR all j VN=some (.lit (.bool b)):=by unfold GR;rw[hj];exact h t _ hv
 exact(SJ hgv).trans (by rw[hb];simp)
theorem LY{y:Operand}{b v:Bool}(ds:List Nat)(k:Nat)(hb:b=true)(h1:VN.drop k=env)(h2:ZH ds env=true)(h3:Bh ds k VN=true)(h4:ev VN y=some (.lit (.bool v))):GO env st y (b&&v) VN st:=⟨rfl,N6 h2 k h1 (Pw h3),by rw[hb];exact h4⟩
theorem MC{y:Operand}{b v:Bool}(ds:List Nat)(k:Nat)(hb:b=false)(h1:VN.drop k=env)(h2:ZH ds env=true)(h3:Bh ds k VN=true)(h4:ev VN y=some (.lit (.bool v))):GO env st y (b||v) VN st:=⟨rfl,N6 h2 k h1 (Pw h3),by rw[hb];exact h4⟩
theorem Uu{b v:Bool}(hb:b=false):(b&&v)=false:=by rw[hb];rfl
theorem Mq{b v:Bool}(hb:b=true):(b||v)=true:=by rw[hb];rfl
theorem ye(k:Nat)(h:SR P n nb0 all l1 l2 K env (st.take k++List.replicate (st.length-k) none))(hk:Nat.ble k st.length=true):SR P n nb0 all l1 l2 K env st:=λVS i ho hd hn A m w a h0 hR hE Q hQ=>by
 have hk':=QE hk
 have VR:(st.take k++List.replicate (st.length-k) none).length=st.length:=by simp;omega
 let m':BM:=λl=>if l<k then m l else none
 have hm':∀l,l<st.length->m' l=m l\/m' l=none:=λl _=>by
  show(if l<k then m l else none)=m l\/(if l<k then m l else none)=none;split;.exact .inl rfl
  exact .inr rfl
 have hget:∀l b,m' l=some b->l<k/\m l=some b:=λl b h=>by
  change (if l<k then m l else none)=some b at h;split at h;.exact⟨YE,h⟩
  cases h
 have Fk:∀l,l<k->(st.take k++List.replicate (st.length-k) none)[l]?=st[l]?:=λl hl=>by
  rw[Qs (by simp;omega),JC,YK hl]
 have hst2:∀l,k<=l->∀x,(st.take k++List.replicate (st.length-k) none)[l]?=some x->x=none:=λl hl x h=>by
  rw[Qt (by simp;omega)]at h;exact Yr (Qc h)
 have hS:Xs A m st.length w A m' st.length w:=⟨Qg _,Qg _,λ_ h=>h,λ_ h=>.inl h,hm',λl b h hh=>.inr ⟨l,b,(hget l b h).2,hh,rfl⟩,λ_ _ _=>rfl,rfl,rfl,rfl⟩
 have hR':R A m' w (st.take k++List.replicate (st.length-k) none):=by
  refine⟨hR.aLow,λB l b hA h hh=>hR.aOwn B l b hA (hget l b h).2 hh,λl l' b b' h h'=>hR.inj l l' b b' (hget l b h).2 (hget l' b' h').2,λl b h=>?_,λl kk els he=>?_⟩;.obtain⟨h1,h2⟩:=hget l b h;rw[Fk l h1];exact hR.live l b h2
  by_cases hl:l<k;.rw[Fk l hl]at he;obtain⟨b,h1,h2,h3,h4⟩:=hR.blk l kk els he;refine⟨b,by show(if l<k then m l else none)=some b;rw[YK hl];exact h1,h2,λhh=>?_,h4⟩;rw[VR];exact(h3 hh).keep (Qg _) rfl λav v hv=>hv.step hR hS
  cases hst2 l YA _ he
 have hE':Ly A m' (st.take k++List.replicate (st.length-k) none).length w n env a:=by rw[VR];exact hE.step hR hS
 exact h VS i ho hd hn A m' w a (by rw[VR];exact h0) hR' hE' Q λa' w' k'=>hQ a' w' (k'.trans (hS.weak h0))
theorem qr(j:Nat)(h:SR P n nb0 all l1 l2 K env (st++List.replicate j none)):SR P n nb0 all l1 l2 K env st:=λVS i ho hd hn A m w a h0 hR hE Q hQ=>by
 have VR:(st++List.replicate j none).length=st.length+j:=YC
 have hm0:∀l b,m l=some b->l<st.length:=λl b h=>hR.lt h;have hS:Xs A m st.length w A m (st.length+j) w:=⟨YA,Qg _,λ_ h=>h,λ_ h=>.inl h,λ_ _=>.inl rfl,λl b h hh=>.inr ⟨l,b,h,hh,rfl⟩,λ_ _ _=>rfl,rfl,rfl,rfl⟩
 have hR':R A m w (st++List.replicate j none):=by
  refine⟨hR.aLow,hR.aOwn,hR.inj,λl b h=>?_,λl kk els he=>?_⟩;.rw[Qs (hm0 l b h)];exact hR.live l b h
  by_cases hl:l<st.length;.rw[Qs hl]at he;obtain⟨b,h1,h2,h3,h4⟩:=hR.blk l kk els he;refine⟨b,h1,h2,λhh=>?_,h4⟩;rw[VR];exact(h3 hh).keep (Qg _) rfl λav v hv=>hv.step hR hS
  rw[Qt YA]at he;cases Yr (Qc he)
 have hE':Ly A m (st++List.replicate j none).length w n env a:=by rw[VR];exact hE.step hR hS
 exact h VS i ho hd hn A m w a (by rw[VR];omega) hR' hE' Q λa' w' k'=>hQ a' w' (k'.trans (hS.weak h0))
theorem ph(kk:Nat)(h:SR P n nb0 all l1 l2 K env (st++[some (kk,[])])):SR P n nb0 all l1 l2 K env st:=λVS i ho hd hn A m w a h0 hR hE Q hQ=>by
 have hp:=hR.push (Zb.refl w) ⟨false,0,0,kk,0,false⟩ [] (λh=>by cases h) (λ_=>rfl)
  (λh=>by cases h) (λh=>by cases h) (λh=>by cases h) (λq hq=>by cases hq) (λh=>by cases h)
 have VR:(st++[some (kk,[])]).length=st.length+1:=YC
 have hE':=hE.step hR hp.2;rw[<-VR]at hE';exact h VS i ho hd hn A _ w a (by rw[VR];omega) hp.1 hE' Q λa' w' k=>hQ a' w' (k.trans (hp.2.weak h0))
def du(jj:Nat)(env:Ev)(st:St)(y:Operand)(x:Bool)(VN:Ev)(VO:St):Prop:=VO.take st.length=st/\VO.length=st.length+jj/\(∀t v,look env t=some v->look VN t=some v)/\ev VN y=some (.lit (.bool x))
theorem xg{jj:Nat}{VO:St}{y:Operand}(ds:List Nat)(k:Nat)(h5:VO.take st.length=st)(h6:VO.length=st.length+jj)(h1:VN.drop k=env)(h2:ZH ds env=true)(h3:Bh ds k VN=true)(h4:ev VN y=some (.lit (.bool x))):du jj env st y x VN VO:=⟨h5,h6,N6 h2 k h1 (Pw h3),h4⟩
theorem s5(k jj:Nat){dp c:Nat}{y:Operand}{Fl:TypeId}{V3:String}{b:Bool}{l:List Oper}(hl:l1.drop k=⟨some dp,.pick (.tmp c) y (.const (.bool false)),Fl,V3,Fa,gp⟩::l)(hj:(all[j]?).bind (·.dst)=some c)(hc:look env c=some (.lit (.bool b)))(hg:Hf all j true [] (l1.take k)=true)(hk:ZH (Kb (l1.take k)) env=true)(FA:∀VN:Ev,(∀t v,look env t=some v->look VN t=some v)->ZQ all VN ⟨some dp,.pick (.tmp c) y (.const (.bool false)),Fl,V3,Fa,gp⟩=some true)(hT:b=true->SR P n nb0 all (l1.take k) (l1.drop k++l2) (du jj env st y x) env st)(hF:b=false->x=false)(h:SR P n nb0 all l l2 K ((dp,.lit (.bool x))::env) (st++List.replicate jj none)):SR P n nb0 all l1 l2 K env st:=by
 refine Sc k ?_;rw[hl]
 cases b with
 |true =>
  refine C5 (by rw[<-hl];exact hT rfl) ?_;rintro VN VO ⟨h5,h6,h2,h3⟩;refine ye st.length ?_ (by rw[Nat.ble_eq];omega);rw[h5,show VO.length-st.length=jj by omega];refine Hl (FA VN h2) ?_;unfold F8;simp only[ZW,Lh];have:ev VN (.tmp c)=some (.lit (.bool true)):=h2 c _ hc;rw[this,h3];simp only[QS,aput];refine D3 (λt v ht=>?_) h;simp only[look]at ht ⊢;split;.rename_i e;rw[YK e]at ht;exact ht
  .rename_i e;rw[YM e]at ht;exact h2 t v ht
 |false =>
  have V9:∀t v,look env t=some v->look (Gt env (l1.take k)) t=some v:=λt v ht=>by
   rw[ER (GJ hk ht)];exact ht
  have:=NK (P:=P) (n:=n) (nb0:=nb0) (l2:=l1.drop k++l2) (K:=λenv st=>SR P n nb0 all (l1.drop k) l2 K env st) (st:=st) (l1:=[]) hj (l1.take k) hg (λ_ h=>by cases h) (GJ hk hc) (λh=>by cases h) hc rfl ?_;.rw[Qy]at this;rwa [hl]at this
  apply zx;refine qr jj ?_;rw[hl];refine Hl (FA _ V9) ?_;unfold F8;simp only[ZW,Lh];have:ev (Gt env (l1.take k)) (.tmp c)=some (.lit (.bool false)):=V9 c _ hc;rw[this];simp only[ev,QS,aput];rw[hF rfl]at h;refine D3 (λt v ht=>?_) h;simp only[look]at ht ⊢;split;.rename_i e;rw[YK e]at ht;exact ht
  rename_i e;rw[YM e]at ht;exact V9 t v ht
theorem qs(k jj:Nat){dp c:Nat}{y:Operand}{Fl:TypeId}{V3:String}{b:Bool}{l:List Oper}(hl:l1.drop k=⟨some dp,.pick (.tmp c) (.const (.bool true)) y,Fl,V3,Fa,gp⟩::l)(hj:(all[j]?).bind (·.dst)=some c)(hc:look env c=some (.lit (.bool b)))(hg:Hf all j false [] (l1.take k)=true)(hk:ZH (Kb (l1.take k)) env=true)(FA:∀VN:Ev,(∀t v,look env t=some v->look VN t=some v)->ZQ all VN ⟨some dp,.pick (.tmp c) (.const (.bool true)) y,Fl,V3,Fa,gp⟩=some true)(hF:b=false->SR P n nb0 all (l1.take k) (l1.drop k++l2) (du jj env st y x) env st)(hT:b=true->x=true)(h:SR P n nb0 all l l2 K ((dp,.lit (.bool x))::env) (st++List.replicate jj none)):SR P n nb0 all l1 l2 K env st:=by
 refine Sc k ?_;rw[hl]
 cases b with
 |false =>
  refine C5 (by rw[<-hl];exact hF rfl) ?_;rintro VN VO ⟨h5,h6,h2,h3⟩;refine ye st.length ?_ (by rw[Nat.ble_eq];omega);rw[h5,show VO.length-st.length=jj by omega];refine Hl (FA VN h2) ?_;unfold F8;simp only[ZW,Lh];have:ev VN (.tmp c)=some (.lit (.bool false)):=h2 c _ hc;rw[this,h3];simp only[QS,aput];refine D3 (λt v ht=>?_) h;simp only[look]at ht ⊢;split;.rename_i e;rw[YK e]at ht;exact ht
  .rename_i e;rw[YM e]at ht;exact h2 t v ht
 |true =>
  have V9:∀t v,look env t=some v->look (Gt env (l1.take k)) t=some v:=λt v ht=>by
   rw[ER (GJ hk ht)];exact ht
  have:=NK (P:=P) (n:=n) (nb0:=nb0) (l2:=l1.drop k++l2) (K:=λenv st=>SR P n nb0 all (l1.drop k) l2 K env st) (st:=st) (l1:=[]) hj (l1.take k) hg (λ_ h=>by cases h) (GJ hk hc) (λh=>by cases h) hc rfl ?_;.rw[Qy]at this;rwa [hl]at this
  apply zx;refine qr jj ?_;rw[hl];refine Hl (FA _ V9) ?_;unfold F8;simp only[ZW,Lh];have:ev (Gt env (l1.take k)) (.tmp c)=some (.lit (.bool true)):=V9 c _ hc;rw[this];simp only[ev,QS,aput];rw[hT rfl]at h;refine D3 (λt v ht=>?_) h;simp only[look]at ht ⊢;split;.rename_i e;rw[YK e]at ht;exact ht
  rename_i e;rw[YM e]at ht;exact V9 t v ht
theorem rg{id:Nat}{y:Code}{Q:Exit->Ev->St->Prop}(hd:VS.toList.all (λo=>o.dst.all (·<n))=true)(h:SR P n nb0 VS.toList VS.toList [] (λenv st=>SW P n nb0 y Q env st) env st):SW P n nb0 (.seq (.region id VS false) y) Q env st:=by
 apply ze;intro A m w a h0 hR hE;refine wp_region ?_
 have:=h VS 0 rfl YC hd A m w a h0 hR hE (λe a' w'=>KN A m nb0 w n (Ng (SW P n nb0 y Q) Q e) a' w') λa' w' ho=>by
  simp only[Q6,List.range'_zero,wpOps];exact ho
 rw[Yc,show VS.size=VS.toList.length by simp];simpa using this
theorem rl{id:Nat}{Q:Exit->Ev->St->Prop}(hd:VS.toList.all (λo=>o.dst.all (·<n))=true)(h:SR P n nb0 VS.toList VS.toList [] (Q .normal) env st):SW P n nb0 (.region id VS false) Q env st:=by
 intro A m w a h0 hR hE;refine wp_region ?_
 have:=h VS 0 rfl YC hd A m w a h0 hR hE (λe a' w'=>KN A m nb0 w n (Q e) a' w') λa' w' ho=>by
  simpa[wpOps]using ho
 rw[Yc,show VS.size=VS.toList.length by simp];simpa using this
end
variable {p FH:AV}{m:BM}{o:BinOp}{c:Code}{K:Ev->St->Prop}{Q:Exit->Ev->St->Prop}{r a i:Int}{kk kb:IntKind}{vs cs:Vt}{L:List Nat}{l1 l2:List Oper}{nb0 sz:Nat}{op:Op}{x:Operand}{gu:Option (Nat×Bool)}{d:Option Nat}{hi lo:Option Operand}{VO VJ:St}{pos:String}{te:TI}{f:α->Vt}
abbrev zL(S U R:Type):Type:=Option (Sum S (Sum U R))
theorem F3{all:List Oper}{ty:TypeId}(hv:GR all j env=some (.lit (.bool (!V0))))(h:SR P n nb0 all l1 l2 K (aput d (.lit undef) env) st):SR P n nb0 all (⟨d,op,ty,pos,VU,some (j,V0)⟩::l1) l2 K env st:=yd (by rw[SJ hv];cases V0<;>rfl) h
mutual
def Hg:AV->Bool
 |.any=>true
 |.lit _=>true
 |.isl _ _=>true
 |.ipt _ _ _ _=>true
 |.imp _=>true
 |.mmp _=>false
 |.msl _ _ _=>false
 |.mpt _ _ _=>false
 |.agg cs=>Zv cs
 |.tup cs=>Zv cs
 |.fn _ a b=>Zv a&&Zv b
def Zv:Vt->Bool
 |[]=>true
 |x::l=>Hg x&&Zv l
end
theorem DP.mem{l:Vt}(h:DP l):∀x∈l,LI x:=by
 induction h with
 |nil=>exact λx hx=>by cases hx
 |cons h _ ih =>
  intro x hx
  rcases Qu.1 hx with h1|h1
  .exact h1▸h
  exact ih x h1
mutual
theorem Eh:∀{x:AV},Hg x=true->LI x
 |.any,_=>.any
 |.lit v,_=>.lit v
 |.isl k e,_=>.isl k e
 |.ipt k e i j,_=>.ipt k e i j
 |.imp e,_=>.imp e
 |.mmp _,h=>by cases h
 |.msl _ _ _,h=>by cases h
 |.mpt _ _ _,h=>by cases h
 |.agg cs,h=>.agg cs (UD h).mem
 |.tup cs,h=>.tup cs (UD h).mem
 |.fn f a b,h=>.fn f a b (UD (Q0.1 h).1).mem (UD (Q0.1 h).2).mem
theorem UD:∀{l:Vt},Zv l=true->DP l
 |[],_=>.nil
 |x::l,h=>.cons (Eh (Q0.1 h).1) (UD (Q0.1 h).2)
end
inductive Src where
 |old (l:Nat)
 |dead
 |fresh (k:Nat)
instance :OfNat Src n:=⟨.old n⟩
abbrev Xv:=List Src
def X6(L:Xv)(l:Nat):Option Nat:=match L[l]? with|some (.old x)=>some x|_=>none
def Kj(L:Xv)(x:Nat):Bool:=match L with|[]=>false|.old y::r=>Nat.beq y x||Kj r x|_::r=>Kj r x
theorem Sa:∀{L:Xv} {l x:Nat},X6 L l=some x->Kj L x=true
 |[],l,x,h=>by simp[X6]at h
 |s::L,0,x,h=>by
  cases s with
  |old y=>simp[X6]at h;subst h;simp[Kj]
  |dead=>simp[X6]at h
  |fresh k=>simp[X6]at h
 |s::L,l+1,x,h=>by
  have:=Sa (L:=L) (l:=l) (x:=x) (by simpa[X6]using h);cases s<;>simp[Kj,this]
inductive Rs(st:St)(L:Xv):AV->AV->Prop
 |any (x:_):Rs st L .any x
 |imm {x:_} (h:LI x):Rs st L x x
 |nil {k:Nat}:Rs st L (.isl k []) (.lit (.slice none 0 0))
 |nilown {l k:Nat} (h:L[l]?=some (.fresh k)):Rs st L (.msl l 0 0) (.lit (.slice none 0 0))
 |msl {l l' i n:Nat} (h:X6 L l=some l'):Rs st L (.msl l i n) (.msl l' i n)
 |mpt {l l' i j:Nat} (h:X6 L l=some l'):Rs st L (.mpt l i j) (.mpt l' i j)
 |mmp {l l':Nat} (h:X6 L l=some l'):Rs st L (.mmp l) (.mmp l')
 |sl {l i n k:Nat} {els VM:List (Vt)} (hD:Kj L l=false) (h:st[l]?=some (some (k,els))) (Fm:i+n<=els.length) (hl:VM.length=n) (hi:∀r∈VM,∀x∈r,LI x)
   (Fp:∀q (h:q<n) (h1:i+q<els.length) (h2:q<VM.length),els[i+q].length=VM[q].length)
   (hr:∀q (h:q<n) (h1:i+q<els.length) (h2:q<VM.length) j (h3:j<els[i+q].length) (h4:j<VM[q].length),Rs st L VM[q][j] els[i+q][j]):
   Rs st L (.isl k VM) (.msl l i n)
 |slp {l i j k:Nat} {els VM:List (Vt)} (hD:Kj L l=false) (h:st[l]?=some (some (k,els))) (hl:VM.length=els.length) (hi:∀r∈VM,∀x∈r,LI x)
   (Fp:∀q (h1:q<els.length) (h2:q<VM.length),els[q].length=VM[q].length)
   (hr:∀q (h1:q<els.length) (h2:q<VM.length) j (h3:j<els[q].length) (h4:j<VM[q].length),Rs st L VM[q][j] els[q][j]):
   Rs st L (.ipt k VM i j) (.mpt l i j)
 |sm {l:Nat} {els VM:List (Vt)} (hD:Kj L l=false) (h:st[l]?=some (some (2,els))) (hl:VM.length=els.length) (hi:∀r∈VM,∀x∈r,LI x)
   (Fp:∀q (h1:q<els.length) (h2:q<VM.length),els[q].length=VM[q].length)
   (hr:∀q (h1:q<els.length) (h2:q<VM.length) j (h3:j<els[q].length) (h4:j<VM[q].length),Rs st L VM[q][j] els[q][j]):
   Rs st L (.imp VM) (.mmp l)
 |agg {cs V2:Vt} (hl:cs.length=V2.length) (hr:∀i (h:i<cs.length) (h':i<V2.length),Rs st L cs[i] V2[i]):Rs st L (.agg cs) (.agg V2)
 |tup {cs V2:Vt} (hl:cs.length=V2.length) (hr:∀i (h:i<cs.length) (h':i<V2.length),Rs st L cs[i] V2[i]):Rs st L (.tup cs) (.tup V2)
 |fn {f:Fn} {cs V2 ds FN:Vt} (hl:cs.length=V2.length) (hr:∀i (h:i<cs.length) (h':i<V2.length),Rs st L cs[i] V2[i])
   (FU:ds.length=FN.length) (hr':∀i (h:i<ds.length) (h':i<FN.length),Rs st L ds[i] FN[i]):Rs st L (.fn f cs ds) (.fn f V2 FN)
def O3(st:St)(L:Xv)(VT els:List (Vt)):Prop:=VT.length=els.length/\∀i (h:i<VT.length) (h':i<els.length),VT[i].length=els[i].length/\∀j (h1:j<VT[i].length) (h2:j<els[i].length),Rs st L VT[i][j] els[i][j]
structure Hi(L:Xv)(VJ st:St):Prop where
 live:∀(l l':Nat),X6 L l=some l'->∃k VT els,VJ[l]?=some (some (k,VT))/\st[l']?=some (some (k,els))/\O3 st L VT els
 all:∀(l k:Nat) VT,VJ[l]?=some (some (k,VT))->(∃l',X6 L l=some l')\/(L[l]?=some (Src.fresh k)/\VT=[])
 new:∀(l k:Nat),L[l]?=some (Src.fresh k)->VJ[l]?=some (some (k,[]))
 inj:∀l1 l2 x,X6 L l1=some x->X6 L l2=some x->l1=l2
def DJ(A:Nat->Prop)(m:BM)(L:Xv):Nat->Prop:=λB=>A B\/∃l b,m l=some b/\b.has=true/\b.B=B/\Kj L l=false
def K9(m:BM)(L:Xv):BM:=λl=>match L[l]? with|some (.old x)=>m x|some (.fresh k)=>some ⟨false,0,0,k,0,false⟩|_=>none
theorem Sk{L:Xv}{l x:Nat}(h:X6 L l=some x):K9 m L l=m x:=by
 unfold X6 at h;unfold K9;split at h;.rename_i y hy;cases h;rw[hy]
 cases h
theorem zDv{L:Xv}{l k:Nat}(h:L[l]?=some (.fresh k)):K9 m L l=some ⟨false,0,0,k,0,false⟩:=by unfold K9;rw[h]
theorem Sl{L:Xv}{l:Nat}{b:LT}(h:K9 m L l=some b)(hh:b.has=true):∃x,X6 L l=some x/\m x=some b:=by
 unfold K9 at h;split at h;.rename_i y hy;exact⟨y,by unfold X6;rw[hy],h⟩
 .cases h;cases hh
 cases h
theorem Rs.v{A:Nat->Prop}{m:BM}{w:World}{st VJ:St}{L:Xv}(hR:R A m w st)(hs:Hi L VJ st){x y:AV}(h:Rs st L x y):∀{v},V A m st.length w y v->V (DJ A m L) (K9 m L) VJ.length w x v:=by
 have hA':∀B,A B->DJ A m L B:=λB h=>.inl h
 induction h with
 |any x=>exact λ{v} _=>.imm (.any v)
 |imm h=>exact λ{v} hv=>.imm ((h.vi hv).widen hA')
 |nil=>intro v hv;rw[hv.lit_inv];exact .imm (.inil _ _ _)
 |@nilown l k h =>
  intro v hv;rw[hv.lit_inv];have h1:=hs.new l k h;exact .msl _ _ _ _ _ _ (Qb.1 h1).1 λb hb=>⟨rfl,Qg _,.inl rfl⟩
 |@msl l l' i n h =>
  intro v hv;obtain⟨hl,a,n',cap,rfl,hb⟩:=hv.msl_inv;obtain⟨_,_,_,h1,_,_⟩:=hs.live l l' h;exact .msl _ _ _ _ _ _ (Qb.1 h1).1 λb hb'=>hb b ((Sk (m:=m) h).symm.trans hb')
 |@mpt l l' i j h =>
  intro v hv;obtain⟨hl,a,rfl,hb⟩:=hv.mpt_inv;obtain⟨_,_,_,h1,_,_⟩:=hs.live l l' h;exact .mpt _ _ _ _ (Qb.1 h1).1 λb hb'=>hb b ((Sk (m:=m) h).symm.trans hb')
 |@mmp l l' h =>
  intro v hv;obtain⟨hl,a,rfl,hb⟩:=hv.mmp_inv;obtain⟨_,_,_,h1,_,_⟩:=hs.live l l' h;exact .mmp _ _ (Qb.1 h1).1 λb hb'=>hb b ((Sk (m:=m) h).symm.trans hb')
 |@sm l els VM hD h hl hi Fp hr ih =>
  intro v hv;obtain⟨hlt,a,rfl,hb⟩:=hv.mmp_inv;obtain⟨b,h1,h2,h3,h4⟩:=hR.blk l 2 els h;obtain⟨h6,hm6,rfl⟩:=hb b h1;obtain⟨h0,es,clock,h7,h8,h9⟩:=(h3 h6).mval hm6;have hw:=(h3 h6).wide
  exact .imm (.imp VM b.B es clock (.inr ⟨l,b,h1,h6,rfl,hD⟩) h7 YA (λq hq=>by rw[<-Fp q YA hq,hw q YA,h0])
   (λq hq j hj=>(hi _ (Qj hq) _ (Qj hj)).vi (ih q YA hq j (by rw[Fp q YA hq];exact hj) hj (h9 q YA j (by rw[Fp q YA hq];exact hj)))))
 |@sl l i n k els VM hD h Fm hl hi Fp hr ih =>
  intro v hv;obtain⟨hlt,a,n',cap,rfl,hb⟩:=hv.msl_inv;obtain⟨b,h1,h2,h3,h4⟩:=hR.blk l k els h;obtain⟨rfl,Fd,hc⟩:=hb b h1
  rcases hc with h5|⟨h6,hm6,rfl,Fc⟩
  .have h0:n'=0:=by omega
   subst h0;obtain rfl:VM=[]:=Qf hl;exact .imm (.inil _ _ _)
  .have VW:=(h3 h6).cells hm6;subst h2
   have hcell:∀q j,q<VM.length->j<b.k->∃u,w.cell? ⟨b.B,b.o+i*b.k+q*b.k+j,none⟩=some u/\∀(h4:q<VM.length) (h5:j<VM[q].length),VI (DJ A m L) w VM[q][j] u:=λq j hq hj=>by
    have hq1:i+q<els.length:=YA
    have hj1:j<els[i+q].length:=by rw[VW.wide _ hq1];exact hj
    obtain⟨u,h8,h9⟩:=VW.val (i+q) hq1 j hj1;refine⟨u,by rw[<-h8];congr 2;rw[QV];omega,λh10 h11=>?_⟩;exact(hi _ (Qj h10) _ (Qj h11)).vi (ih q YA hq1 h10 j hj1 h11 h9)
   have hw':∀q (hq:q<VM.length),VM[q].length=b.k:=λq hq=>by
    rw[<-Fp q YA YA hq];exact VW.wide _ YA
   have:=VI.isl (A:=DJ A m L) (w:=w) b.k VM b.B (b.o+i*b.k) cap (λq j=>(w.cell? ⟨b.B,b.o+i*b.k+q*b.k+j,none⟩).getD undef) (.inr ⟨l,b,h1,h6,rfl,hD⟩) YA hw'
    (λq j hq hj=>by obtain⟨u,h8,_⟩:=hcell q j hq hj;rw[h8];rfl)
    (λq hq j hj=>by
     obtain⟨u,h8,h9⟩:=hcell q j hq (by rw[<-hw' q hq];exact hj);show VI _ w _ ((w.cell? _).getD undef)
     rw[h8];exact h9 hq hj)
   rw[hl]at this;exact .imm this
 |@slp l i j k els VM hD h hl hi Fp hr ih =>
  intro v hv;obtain⟨hlt,a,rfl,hb⟩:=hv.mpt_inv;obtain⟨b,h1,h2,h3,h4⟩:=hR.blk l k els h;obtain⟨h6,hm6,rfl⟩:=hb b h1;have VW:=(h3 h6).cells hm6;subst h2
  have hcell:∀q j,q<VM.length->j<b.k->∃u,w.cell? ⟨b.B,b.o+q*b.k+j,none⟩=some u/\∀(h4:q<VM.length) (h5:j<VM[q].length),VI (DJ A m L) w VM[q][j] u:=λq j hq hj=>by
   have hq1:q<els.length:=YA
   have hj1:j<els[q].length:=by rw[VW.wide _ hq1];exact hj
   obtain⟨u,h8,h9⟩:=VW.val q hq1 j hj1;exact⟨u,h8,λh10 h11=>(hi _ (Qj h10) _ (Qj h11)).vi (ih q hq1 h10 j hj1 h11 h9)⟩
  have hw':∀q (hq:q<VM.length),VM[q].length=b.k:=λq hq=>by
   rw[<-Fp q YA hq];exact VW.wide _ YA
  exact .imm (VI.ipt (A:=DJ A m L) (w:=w) b.k VM i j b.B b.o (λq j=>(w.cell? ⟨b.B,b.o+q*b.k+j,none⟩).getD undef) (.inr ⟨l,b,h1,h6,rfl,hD⟩) hw'
   (λq j hq hj=>by obtain⟨u,h8,_⟩:=hcell q j hq hj;rw[h8];rfl)
   (λq hq j hj=>by
    obtain⟨u,h8,h9⟩:=hcell q j hq (by rw[<-hw' q hq];exact hj);show VI _ w _ ((w.cell? _).getD undef)
    rw[h8];exact h9 hq hj))
 |agg hl hr ih =>
  intro v hv;obtain⟨a,rfl,h1,h2⟩:=hv.agg_inv;exact .agg _ _ YA λi hi=>ih i hi YA (h2 i YA)
 |tup hl hr ih =>
  intro v hv;obtain⟨a,rfl,h1,h2⟩:=hv.tup_inv;exact .tup _ _ YA λi hi=>ih i hi YA (h2 i YA)
 |fn hl hr FU hr' ih ih' =>
  intro v hv;obtain⟨a,b,rfl,⟨h1,h2⟩,⟨h3,h4⟩⟩:=hv.fn_inv;exact .fn _ _ _ _ _ YA (λi hi=>ih i hi YA (h2 i YA)) YA λi hi=>ih' i hi YA (h4 i YA)
theorem R.rs{A:Nat->Prop}{w:World}{L:Xv}(hR:R A m w st)(h:Hi L VJ st):R (DJ A m L) (K9 m L) w VJ:=by
 refine⟨λB hB=>?_,λB l b hA hb hh=>?_,λl1 l2 b1 b2 h1 h2 hh1 hh2 he=>?_,λl b hb=>?_,λl k VT he=>?_⟩
 .rcases hB with h1|⟨l,b,h1,h2,rfl,_⟩
  .exact hR.aLow B h1
  exact hR.low h1 h2
 .obtain⟨x,h1,h2⟩:=Sl hb hh
  rcases hA with h3|⟨l3,b3,h3,h4,rfl,h5⟩
  .exact hR.aOwn B x b h3 h2 hh
  intro e;have:=hR.inj x l3 b b3 h2 h3 hh h4 e;subst this;rw[Sa h1]at h5;cases h5
 .obtain⟨x1,k1,k2⟩:=Sl h1 hh1;obtain⟨x2,k3,k4⟩:=Sl h2 hh2;have:=hR.inj x1 x2 b1 b2 k2 k4 hh1 hh2 he;subst this;exact h.inj l1 l2 x1 k1 k3
 .unfold K9 at hb;split at hb;.rename_i x hx;obtain⟨k,VT,els,h3,h4,_⟩:=h.live l x (by unfold X6;rw[hx]);exact⟨VT,by rw[h3];rw[(hR.at hb h4).1]⟩
  .rename_i k hx;cases hb;exact⟨[],h.new l k hx⟩
  cases hb
 rcases h.all l k VT he with ⟨l',h1⟩|⟨h1,rfl⟩
 .obtain⟨k',els0',els,h3,h4,h5⟩:=h.live l l' h1;rw[he]at h3;cases h3;obtain⟨b,h6,h7,h8,h9⟩:=hR.blk l' k els h4;refine⟨b,by rw[Sk h1];exact h6,h7,λhh=>?_,λhh=>?_⟩;.exact(h8 hh).rel h5.1 λi hi VZ=>⟨(h5.2 i hi VZ).1,λj hj hj' v hv=>((h5.2 i hi VZ).2 j hj hj').v hR h hv⟩
  have:=h9 hh;subst this;exact Qf h5.1
 exact⟨_,zDv h1,rfl,(λhh=>by cases hh),λ_=>rfl⟩
def Hh(nb0:Nat)(L:Xv):Bool:=(List.range nb0).all λl=>match L[l]? with|some (.old x)=>Nat.beq x l|some (.fresh _)=>false|_=>true
theorem zE8{L:Xv}(h:Hh nb0 L=true){l:Nat}(hl:l<nb0)(m:BM):K9 m L l=m l\/K9 m L l=none:=by
 have h1:=(Qr.1 h) l (Jz.2 hl);unfold K9
 cases hL:L[l]? with
 |none=>exact .inr rfl
 |some s =>
  rw[hL]at h1
  cases s with
  |old x=>simp at h1;subst h1;exact .inl rfl
  |dead=>exact .inr rfl
  |fresh k=>cases h1
theorem Xs.rs{A m nb0 w A' m' Fe w' VJ VO}{L:Xv}(h:Hi L VJ VO)(hS:Xs A m nb0 w A' m' Fe w')(hid:Hh nb0 L=true)(hn:nb0<=VJ.length):Xs A m nb0 w (DJ A' m' L) (K9 m' L) VJ.length w':=by
 refine⟨hn,hS.size,λB hB=>.inl (hS.aSub B hB),λB hB=>?_,λl hl=>?_,λl b hb hh=>?_,hS.heap,hS.os,hS.tape,hS.output⟩
 .rcases hB with h1|⟨l,b,h1,h2,rfl,_⟩
  .exact hS.aNew B h1
  rcases hS.mNew l b h1 h2 with h3|h3
  .exact .inr (.inl h3)
  exact .inr (.inr h3)
 .rcases zE8 hid hl m' with h1|h1
  .rw[h1];exact hS.mOld l hl
  exact .inr h1
 obtain⟨x,h1,h2⟩:=Sl hb hh;exact hS.mNew x b h2 hh
def Uo(st:St)(L:Xv):Ev->Ev->Prop
 |[],_=>True
 |(t,v0)::r,env=>(∃v,look env t=some v/\Rs st L v0 v)/\Uo st L r env
theorem Uo.get{st L}:∀{VC env:Ev},Uo st L VC env->∀t v0,look VC t=some v0->∃v,look env t=some v/\Rs st L v0 v
 |[],_,_,t,v0,h=>by cases h
 |(k,x)::r,env,h,t,v0,hl=>by
  simp only[look]at hl;split at hl;.rename_i e;subst e;cases hl;exact h.1
  exact Uo.get h.2 t v0 hl
theorem Ly.rs{A m w st VJ n VC env a}{L:Xv}(hR:R A m w st)(hs:Hi L VJ st)(hE:Ly A m st.length w n env a)(he:Uo st L VC env):Ly (DJ A m L) (K9 m L) VJ.length w n VC a:=
 ⟨hE.size,λt v0 hl=>by
  obtain⟨v,h1,h2⟩:=he.get t v0 hl;obtain⟨h3,h4⟩:=hE.val t v h1
  exact⟨h3,h2.v hR hs h4⟩,hE.defers⟩
def Kd(st:St)(L:Xv):Xv->St->Prop
 |[],[]=>True
 |.dead::r,none::s=>Kd st L r s
 |.fresh k::r,some (k',els)::s=>(k'=k/\els=[])/\Kd st L r s
 |.old x::r,some (k,VT)::s=>(∃els,st[x]?=some (some (k,els))/\O3 st L VT els)/\Kd st L r s
 |_,_=>False
theorem Kd.at{st:St}{L:Xv}:∀{r:Xv} {s:St},Kd st L r s->∀l:Nat,
  (∀x,r[l]?=some (.old x)->∃k VT els,s[l]?=some (some (k,VT))/\st[x]?=some (some (k,els))/\O3 st L VT els)/\
  (∀k,r[l]?=some (.fresh k)->s[l]?=some (some (k,[])))/\(∀k VT,s[l]?=some (some (k,VT))->(∃x,r[l]?=some (.old x))\/(r[l]?=some (.fresh k)/\VT=[]))
 |[],[],_,l=>YC
 |[],_::_,h,_=>by cases h
 |.dead::_,[],h,_=>by cases h
 |.dead::_,some _::_,h,_=>by cases h
 |.fresh _::_,[],h,_=>by cases h
 |.fresh _::_,none::_,h,_=>by cases h
 |.old _::_,[],h,_=>by cases h
 |.old _::_,none::_,h,_=>by cases h
 |.dead::r,none::s,h,l=>by
  cases l with
  |zero=>simp
  |succ l=>simpa using Kd.at (r:=r) (s:=s) h l
 |.fresh k::r,some (k',els)::s,h,l=>by
  obtain⟨⟨rfl,rfl⟩,h2⟩:=h
  cases l with
  |zero=>simp
  |succ l=>simpa using Kd.at (r:=r) (s:=s) h2 l
 |.old x::r,some (k,VT)::s,h,l=>by
  obtain⟨⟨els,h1,h3⟩,h2⟩:=h
  cases l with
  |zero =>
   refine⟨λy hy=>?_,λk' hk=>by simp at hk,λk' e' he'=>.inl ⟨x,YC⟩⟩;simp at hy;subst hy;exact⟨k,VT,els,YC,h1,h3⟩
  |succ l=>simpa using Kd.at (r:=r) (s:=s) h2 l
def UQ:Xv->Bool
 |[]=>true
 |.old x::r=>(!Kj r x)&&UQ r
 |_::r=>UQ r
theorem wM:∀{L:Xv},UQ L=true->∀l1 l2 x,X6 L l1=some x->X6 L l2=some x->l1=l2
 |[],_,l1,_,x,h,_=>by simp[X6]at h
 |s::L,h,l1,l2,x,h1,h2=>by
  have hL:UQ L=true:=by cases s<;>simp[UQ]at h<;>first|exact h.2|exact h
  cases l1 with
  |zero =>
   cases l2 with
   |zero=>rfl
   |succ l2 =>
    cases s with
    |old y =>
     simp[X6]at h1;subst h1;have:=Sa (L:=L) (l:=l2) (x:=y) (by simpa[X6]using h2);simp[UQ,this]at h
    |dead=>simp[X6]at h1
    |fresh k=>simp[X6]at h1
  |succ l1 =>
   cases l2 with
   |zero =>
    cases s with
    |old y =>
     simp[X6]at h2;subst h2;have:=Sa (L:=L) (l:=l1) (x:=y) (by simpa[X6]using h1);simp[UQ,this]at h
    |dead=>simp[X6]at h2
    |fresh k=>simp[X6]at h2
   |succ l2=>rw[wM hL l1 l2 x (by simpa[X6]using h1) (by simpa[X6]using h2)]
theorem Hi.of{L:Xv}(ho:UQ L=true)(h:Kd st L L VJ):Hi L VJ st where
 live:=λl l' hl=>by
  unfold X6 at hl;split at hl;.rename_i x hx;cases hl;exact(h.at l).1 _ hx
  cases hl
 all:=λl k VT he=>by
  rcases(h.at l).2.2 k VT he with ⟨x,hx⟩|h1
  .exact .inl ⟨x,by unfold X6;rw[hx]⟩
  exact .inr h1
 new:=λl k hk=>(h.at l).2.1 k hk
 inj:=wM ho
def LN(nb0:Nat)(VC:Ev)(VJ:St)(env:Ev)(st:St):Prop:=∃L:Xv,Uo st L VC env/\UQ L=true/\Kd st L L VJ/\Hh nb0 L=true/\nb0<=VJ.length
section
variable {VC:Ev}
theorem Ba(hc:LN nb0 VC VJ env st)(h:SW P n nb0 c Q VC VJ):SW P n nb0 c Q env st:=by obtain⟨L,h1,h2,h3,h4,h5⟩:=hc;intro A m w a h0 hR hE;have hs:=Hi.of h2 h3;exact wp_mono (h _ _ w a h5 (hR.rs hs) (hE.rs hR hs h1)) λ_ _ _ k=>k.trans ((Xs.refl0 A m st.length w h0).rs hs h4 h5)
theorem zw{all:List Oper}(hc:LN nb0 VC VJ env st)(h:SR P n nb0 all l1 l2 K VC VJ):SR P n nb0 all l1 l2 K env st:=by obtain⟨L,h1,h2,h3,h4,h5⟩:=hc;intro VS i ho hd hn A m w a h0 hR hE Q hQ;have hs:=Hi.of h2 h3;exact h VS i ho hd hn _ _ w a h5 (hR.rs hs) (hE.rs hR hs h1) Q λa' w' k=>hQ a' w' (k.trans ((Xs.refl0 A m st.length w h0).rs hs h4 h5))
theorem zY{x y:Code}{X:Type}(E:X->Ev)(S:X->St)(I:X->Prop)(h:SW P n nb0 x (Ng (λenv st=>∃z,I z/\LN nb0 (E z) (S z) env st) Q) env st)(k:∀z,I z->SW P n nb0 y Q (E z) (S z)):SW P n nb0 (.seq x y) Q env st:=ze (h.mono λe env st h=>by cases e<;>first|(obtain⟨z,h1,h2⟩:=h;exact Ba h2 (k z h1))|exact h)
def LQ(id:Nat){X B R:Type}(nb0:Nat)(E:X->Ev)(S:X->St)(E':B->Ev)(S':B->St)(post:R->Ev->St->Prop)(o:Sum X (Sum B R)):Exit->Ev->St->Prop
 |.normal,env,st=>∃z,o=.inl z/\LN nb0 (E z) (S z) env st
 |.exit i,env,st=>i=id/\∃b,o=.inr (.inl b)/\LN nb0 (E' b) (S' b) env st
 |.ret,env,st=>∃r,o=.inr (.inr r)/\post r env st
 |_,_,_=>False
theorem rQ{id:Nat}{y:Code}{X B R:Type}(E:X->Ev)(S:X->St)(E':B->Ev)(S':B->St)(post:R->Ev->St->Prop){body:X->Option (Sum X (Sum B R))}{z0:X}{o:Sum B R}(ho:zk body z0=some o)(hc:LN nb0 (E z0) (S z0) env st)(Fb:∀z r,body z=some r->SW P n nb0 c (LQ id nb0 E S E' S' post r) (E z) (S z))(hb:∀b,o=.inl b->SW P n nb0 y Q (E' b) (S' b))(hr:∀r,o=.inr r->∀env st,post r env st->Q .ret env st):SW P n nb0 (.seq (.block id (.loop c)) y) Q env st:=by
 obtain⟨N,hN⟩:=Eg ho;refine ze (zg (d8 (λk env st=>∃z,Z2 body k z=some o/\LN nb0 (E z) (S z) env st) N ⟨z0,hN,hc⟩ ?_));rintro k env st ⟨z,hz,hcan⟩
 cases k with
 |zero=>cases hz
 |succ k =>
  unfold Z2 at hz
  cases hbz:body z with
  |none=>rw[hbz]at hz;cases hz
  |some r =>
   rw[hbz]at hz;refine Ba hcan ((Fb z r hbz).mono λe env st h=>?_)
   cases e with
   |normal =>
    obtain⟨z',rfl,h2⟩:=h;exact⟨k,QL k,z',hz,h2⟩
   |exit i =>
    obtain⟨rfl,b,rfl,h2⟩:=h;show Bc i _ (.exit i) env st;simp only[Bc,YQ];exact Ba h2 (hb b (sm hz).symm)
   |ret =>
    obtain⟨r',rfl,h2⟩:=h;exact hr r' (sm hz).symm env st h2
   |goto l=>exact h.elim
   |panic c=>exact h.elim
   |outgrown=>exact h.elim
end
def Xe(s:List UInt8):Vt:=[.lit (.string (B s))]
def rI(k:IntKind)(n:Int):Vt:=[.lit (.int k n)]
def rB(b:Bool):Vt:=[.lit (.bool b)]
def rL(k:Nat)(f:α->Vt)(l:List α):Vt:=[.isl k (l.map f)]
def RJ(nb0:Nat)(Fv:AV)(VJ:St)(av:AV)(st:St):Prop:=∃L:Xv,Rs st L Fv av/\UQ L=true/\Kd st L L VJ/\Hh nb0 L=true/\nb0<=VJ.length
def Uy(P:Program)(fn:Func)(nb0:Nat)(Fv:AV)(VJ:St)(env:Ev)(st:St):Prop:=∃av,HZ P fn env st=some av/\RJ nb0 Fv VJ av st
def QF(P:Program)(fn:Func)(nb0:Nat)(Fv:AV)(VJ:St):Exit->Ev->St->Prop
 |.normal,env,st=>Uy P fn nb0 Fv VJ env st
 |.ret,env,st=>Uy P fn nb0 Fv VJ env st
 |_,_,_=>False
theorem zK{f : FuncId}{fn : Func}{Fv : AV}(hf : P.funcs[f]? = some fn)(hb : fn.body = some c)(hn : (fn.name == "runtime.NumGoroutine") = false)(VR : Nat.ble args.length fn.ntmps = true)(h:SW P fn.ntmps st.length c (QF P fn st.length Fv VJ) (Df 0 args) st):US P f args st (λav VO=>av=Fv/\VO=VJ):=by
 have h1:=oc (K:=λav VO=>RJ st.length Fv VJ av VO) hf hb hn (QE VR) (h.mono λe env st h=>by cases e<;>exact h);refine⟨h1.1,λA m w VX hR hv=>(h1.2 A m w VX hR hv).mono λe w' ⟨v,A',m',VO,av,he,hR',hS,Fg,L,k1,k2,k3,k4,k5⟩=>?_⟩;have hs:=Hi.of k2 k3;exact⟨v,_,_,VJ,Fv,he,hR'.rs hs,hS.rs hs k4 k5,k1.v hR' hs Fg,rfl,rfl⟩
theorem zi{f : FuncId}{fn : Func}(hf : P.funcs[f]? = some fn)(hb : fn.body = some c)(hn : (fn.name == "runtime.NumGoroutine") = false)(VR : Nat.ble args.length fn.ntmps = true)(hi : Hg FH = true)(h:SW P fn.ntmps 0 c (QF P fn 0 FH []) (Df 0 args) []):Xn P f args FH:=
 yN ((zK (st:=[]) hf hb hn VR h).mono λav st ⟨h1,h2⟩=>by subst h1;exact .imm (Eh hi))
inductive SB where
 |no
 |many (k:Nat) (els:List (Vt))
 |one (k:Nat) (cs:Vt)
 |xs (k:Nat) (VY:List (Vt))
abbrev Vz:=List SB
def SB.b:SB->Option (Nat×List (Vt))
 |.no=>none
 |.many k els=>some (k,els)
 |.one k cs=>some (k,[cs])
 |.xs k VY=>some (k,VY)
def LZ:Vz->St
 |[]=>[]
 |x::r=>x.b::LZ r
def SB.ok:SB->Prop
 |.many _ els=>∀r∈els,∀x∈r,LI x
 |_=>True
def M6:Vz->Prop
 |[]=>True
 |x::r=>x.ok/\M6 r
def SC(P:Program)(f:FuncId)(args:Vt)(bs0:Vz)(av:AV)(bs1:Vz):Prop:=M6 bs1/\US P f args (LZ bs0) (λa s=>a=av/\s=LZ bs1)
abbrev VE:=SC prog
def H0(ρ:Nat->Option Nat):Vt->Vt->Prop
 |[],[]=>True
 |x::l,y::r=>Rn ρ x y/\H0 ρ l r
 |_,_=>False
theorem H0.get{ρ}:∀{l r:Vt},H0 ρ l r->l.length=r.length/\∀i (h:i<l.length) (h':i<r.length),Rn ρ l[i] r[i]
 |[],[],_=>⟨rfl,λi h=>by cases h⟩
 |[],_::_,h=>h.elim
 |_::_,[],h=>h.elim
 |x::l,y::r,h=>by
  obtain⟨h1,h2⟩:=H0.get h.2;refine⟨by simp[h1],λi hi VZ=>?_⟩
  cases i with
  |zero=>exact h.1
  |succ i=>exact h2 i (by simpa using hi) (by simpa using VZ)
def MF(ρ:Nat->Option Nat)(st:St):List Nat->Vz->Prop
 |[],[]=>True
 |l::L,.many k els::bs=>(st[l]?=some (some (k,els))/\∀r∈els,∀x∈r,LI x)/\MF ρ st L bs
 |l::L,.one k cs::bs=>(∃V2,st[l]?=some (some (k,[V2]))/\H0 ρ cs V2)/\MF ρ st L bs
 |_,_=>False
theorem MF.at{ρ st}:∀{L:List Nat} {bs:Vz},MF ρ st L bs->L.length=bs.length/\∀i l:Nat,L[i]?=some l->∃k VT els,(LZ bs)[i]?=some (some (k,VT))/\st[l]?=some (some (k,els))/\Kr ρ VT els
 |[],[],_=>⟨rfl,λi l h=>by simp at h⟩
 |[],_::_,h=>h.elim
 |_::_,[],h=>h.elim
 |_::_,.no::_,h=>h.elim
 |_::_,.xs _ _::_,h=>h.elim
 |l::L,.many k els::bs,h=>by
  obtain⟨h1,h2⟩:=MF.at h.2;refine⟨by simp[h1],λi x hx=>?_⟩
  cases i with
  |zero =>
   simp at hx;subst hx;exact⟨k,els,els,rfl,h.1.1,Kr.same h.1.2⟩
  |succ i=>simpa[LZ]using h2 i x (by simpa using hx)
 |l::L,.one k cs::bs,h=>by
  obtain⟨h1,h2⟩:=MF.at h.2;refine⟨by simp[h1],λi x hx=>?_⟩
  cases i with
  |zero =>
   simp at hx;subst hx;obtain⟨V2,h3,h4⟩:=h.1;exact⟨k,[cs],[V2],rfl,h3,Kr.one h4.get.1 h4.get.2⟩
  |succ i=>simpa[LZ]using h2 i x (by simpa using hx)
theorem uA:∀bs:Vz,(LZ bs).length=bs.length
 |[]=>rfl
 |_::r=>by simp[LZ,uA r]
def df(τ:Nat->Nat):SB->Option (Nat×List (Vt))
 |.no=>none
 |.many k els=>some (k,els)
 |.one k cs=>some (k,[rnL τ cs])
 |.xs k VY=>some (k,VY.map (rnL τ))
def RL(τ:Nat->Nat):Vz->St
 |[]=>[]
 |x::r=>df τ x::RL τ r
def CO(τ:Nat->Nat):St->List Nat->Vz->St
 |st,l::L,b::bs=>CO τ (st.set l (df τ b)) L bs
 |st,_,_=>st
def O2(τ:Nat->Nat):List Nat->Vz->St
 |_::L,_::bs=>O2 τ L bs
 |_,bs=>RL τ bs
def CL(L:List Nat)(st:St)(bs:Vz):St:=CO (LR L st.length) st L bs++O2 (LR L st.length) L bs
theorem LI.rn{τ:Nat->Nat}{x:AV}(h:LI x):rn τ x=x:=by
 induction h with
 |any=>rfl
 |lit v=>rfl
 |isl k e=>rfl
 |ipt k e i j=>rfl
 |imp e=>rfl
 |agg cs _ ih =>
  rw[Go.Proofs.YthmnlfenkhmmhaaGreat.rn,Ke];congr 1
  (conv=>rhs;rw[<-Yd cs]);exact Jp ih
 |tup cs _ ih =>
  rw[Go.Proofs.YthmnlfenkhmmhaaGreat.rn,Ke];congr 1
  (conv=>rhs;rw[<-Yd cs]);exact Jp ih
 |fn f cs ds _ _ ih ih' =>
  rw[Go.Proofs.YthmnlfenkhmmhaaGreat.rn,Ke,Ke];congr 1
  ·(conv=>rhs;rw[<-Yd cs]);exact Jp ih
  conv=>rhs;rw[<-Yd ds]
  exact Jp ih'
theorem yF{b:SB}(h:b.ok):df τ b=Gq τ b.b:=by
 cases b with
 |no=>rfl
 |one k cs=>rfl
 |xs k VY=>rfl
 |many k els =>
  show some (k,els)=some (k,Hv τ els);congr 2;unfold Hv
  conv=>lhs;rw[<-Yd els]
  refine Jp λr hr=>?_;rw[Ke]
  conv=>lhs;rw[<-Yd (id r)]
  exact Jp λx hx=>((h r hr x hx).rn).symm
theorem vm{τ:Nat->Nat}:∀{bs:Vz},M6 bs->RL τ bs=(LZ bs).map (Gq τ)
 |[],_=>rfl
 |b::bs,h=>by rw[RL,LZ,Yq,yF h.1,vm h.2]
theorem vk{τ:Nat->Nat}:∀{L:List Nat} {st:St} {bs:Vz},M6 bs->CO τ st L bs=GX τ st L ((LZ bs).take L.length)
 |[],st,bs,_=>by cases bs<;>rfl
 |l::L,st,[],_=>rfl
 |l::L,st,b::bs,h=>by
  rw[CO,LZ,Qw,List.take_succ_cons,GX,yF h.1];exact vk h.2
theorem bH{τ:Nat->Nat}:∀{L:List Nat} {bs:Vz},M6 bs->O2 τ L bs=((LZ bs).drop L.length).map (Gq τ)
 |[],bs,h=>by unfold O2;exact vm h
 |l::L,[],_=>by simp[O2,RL,LZ]
 |l::L,b::bs,h=>by
  rw[O2,LZ,Qw,List.drop_succ_cons];exact bH h.2
theorem tS{bs:Vz}(h:M6 bs):CL L st bs=UB L st (LZ bs):=by unfold CL UB;rw[vk h,bH h]
def NB:List Nat->Bool
 |[]=>true
 |x::l=>(!Xt x l)&&NB l
theorem uK:∀{l:List Nat},NB l=true->l.Nodup
 |[],_=>JK
 |x::l,h=>by
  simp only[NB,Qd,Qm]at h;refine Jh.2 ⟨λhm=>?_,uK h.2⟩;rw[G3.2 hm]at h;cases h.1
def RN(k:Nat):List Nat->Bool
 |[]=>true
 |x::l=>Nat.blt x k&&RN k l
theorem bD{k:Nat}:∀{l:List Nat},RN k l=true->∀x∈l,x<k
 |[],_,x,h=>by cases h
 |y::l,h,x,hx=>by
  simp only[RN,Qd]at h
  rcases Qu.1 hx with rfl|hx
  .exact QE h.1
  exact bD h.2 x hx
section
variable {d:Nat} {ty:TypeId}
theorem X8(hc:ZW op=false)(h:Lh P env st op=some (av,VO))(k:K ((d,av)::env) VO):F8 P ⟨some d,op,ty,pos,VU,gu⟩ env st K:=by unfold F8;simp only[hc,h];exact k
theorem dj(hc:ZW op=false)(h:Lh P env st op=some (av,VO))(k:K env VO):F8 P ⟨none,op,ty,pos,VU,gu⟩ env st K:=by unfold F8;simp only[hc,h];exact k
theorem mv{v:AV}(hx:ev env x=some v)(k:K ((d,v)::env) st):F8 P ⟨some d,.move x,ty,pos,VU,gu⟩ env st K:=X8 rfl (by simp[Lh,hx]) k
theorem Lw{v:AV}(hx:ev env x=some v)(k:K ((d,v)::env) st):F8 P ⟨some d,.assign x,ty,pos,VU,gu⟩ env st K:=X8 rfl (by simp[Lh,hx]) k
theorem bn{t u:TypeId}{y:Operand}{ti:TI}{a b v:AV}(ht:Xk P t=some ti)(hx:ev env x=some a)(hy:ev env y=some b)(h:UM ti.k o a b=some v)(k:K ((d,v)::env) st):
  F8 P ⟨some d,.binOp o t x y u,ty,pos,VU,gu⟩ env st K:=X8 rfl (by simp[Lh,ht,hx,hy,h]) k
theorem lss{t u:TypeId}{y:Operand}{ti:TI}{b:Int}(ht:Xk P t=some ti)(hx:ev env x=some (.lit (.int kk a)))(hy:ev env y=some (.lit (.int kk b)))(k:K ((d,.lit (.bool (decide (a<b))))::env) st):
  F8 P ⟨some d,.binOp .lss t x y u,ty,pos,VU,gu⟩ env st K:=bn ht hx hy (by simp[UM,Mb,GS]) k
theorem leq{t u:TypeId}{y:Operand}{ti:TI}{b:Int}(ht:Xk P t=some ti)(hx:ev env x=some (.lit (.int kk a)))(hy:ev env y=some (.lit (.int kk b)))(k:K ((d,.lit (.bool (decide (a<=b))))::env) st):
  F8 P ⟨some d,.binOp .leq t x y u,ty,pos,VU,gu⟩ env st K:=bn ht hx hy (by simp[UM,Mb,GS]) k
theorem gtr{t u:TypeId}{y:Operand}{ti:TI}{b:Int}(ht:Xk P t=some ti)(hx:ev env x=some (.lit (.int kk a)))(hy:ev env y=some (.lit (.int kk b)))(k:K ((d,.lit (.bool (decide (b<a))))::env) st):
  F8 P ⟨some d,.binOp .gtr t x y u,ty,pos,VU,gu⟩ env st K:=bn ht hx hy (by simp[UM,Mb,GS]) k
theorem geq{t u:TypeId}{y:Operand}{ti:TI}{b:Int}(ht:Xk P t=some ti)(hx:ev env x=some (.lit (.int kk a)))(hy:ev env y=some (.lit (.int kk b)))(k:K ((d,.lit (.bool (decide (b<=a))))::env) st):
  F8 P ⟨some d,.binOp .geq t x y u,ty,pos,VU,gu⟩ env st K:=bn ht hx hy (by simp[UM,Mb,GS]) k
theorem eql{t u:TypeId}{y:Operand}{ti:TI}{b:Int}(ht:Xk P t=some ti)(hx:ev env x=some (.lit (.int kk a)))(hy:ev env y=some (.lit (.int kk b)))(k:K ((d,.lit (.bool (a==b)))::env) st):
  F8 P ⟨some d,.binOp .eql t x y u,ty,pos,VU,gu⟩ env st K:=bn ht hx hy (by simp[UM,Mb,GS]) k
theorem neq{t u:TypeId}{y:Operand}{ti:TI}{b:Int}(ht:Xk P t=some ti)(hx:ev env x=some (.lit (.int kk a)))(hy:ev env y=some (.lit (.int kk b)))(k:K ((d,.lit (.bool (!(a==b))))::env) st):
  F8 P ⟨some d,.binOp .neq t x y u,ty,pos,VU,gu⟩ env st K:=bn ht hx hy (by simp[UM,Mb,GS,bne]) k
theorem add{t u:TypeId}{y:Operand}{ti:TI}{b:Int}(ht:Xk P t=some ti)(hx:ev env x=some (.lit (.int kk a)))(hy:ev env y=some (.lit (.int kk b)))(k:K ((d,.lit (.int kk (kk.wrap (a+b))))::env) st):
  F8 P ⟨some d,.binOp .add t x y u,ty,pos,VU,gu⟩ env st K:=bn ht hx hy (by simp[UM,Mb,GS,MN]) k
theorem sub{t u:TypeId}{y:Operand}{ti:TI}{b:Int}(ht:Xk P t=some ti)(hx:ev env x=some (.lit (.int kk a)))(hy:ev env y=some (.lit (.int kk b)))(k:K ((d,.lit (.int kk (kk.wrap (a-b))))::env) st):
  F8 P ⟨some d,.binOp .sub t x y u,ty,pos,VU,gu⟩ env st K:=bn ht hx hy (by simp[UM,Mb,GS,MN]) k
theorem mul{t u:TypeId}{y:Operand}{ti:TI}{b:Int}(ht:Xk P t=some ti)(hx:ev env x=some (.lit (.int kk a)))(hy:ev env y=some (.lit (.int kk b)))(k:K ((d,.lit (.int kk (kk.wrap (a*b))))::env) st):
  F8 P ⟨some d,.binOp .mul t x y u,ty,pos,VU,gu⟩ env st K:=bn ht hx hy (by simp[UM,Mb,GS,MN]) k
theorem xu{t u:TypeId}{y:Operand}{ti:TI}{b:Int}(ht:Xk P t=some ti)(hx:ev env x=some (.lit (.int kk a)))(hy:ev env y=some (.lit (.int kb b)))(h:(Mb kk o a b=some r)\/(Mb kk o a b=none/\kk=kb/\GS o a b=none/\MN kk o a b=some r))(k:K ((d,.lit (.int kk r))::env) st):F8 P ⟨some d,.binOp o t x y u,ty,pos,VU,gu⟩ env st K:=bn ht hx hy (by rcases h with h|⟨h1,rfl,h2,h3⟩<;>simp[UM, *]) k
theorem quo{t u:TypeId}{y:Operand}{ti:TI}{b:Int}(ht:Xk P t=some ti)(hx:ev env x=some (.lit (.int kk a)))(hy:ev env y=some (.lit (.int kk b)))(h:r9 kk a b=some r)(k:K ((d,.lit (.int kk r))::env) st):
  F8 P ⟨some d,.binOp .quo t x y u,ty,pos,VU,gu⟩ env st K:=xu ht hx hy (.inr ⟨rfl,rfl,rfl,h⟩) k
theorem rem{t u:TypeId}{y:Operand}{ti:TI}{b:Int}(ht:Xk P t=some ti)(hx:ev env x=some (.lit (.int kk a)))(hy:ev env y=some (.lit (.int kk b)))(h:RD a b=some r)(k:K ((d,.lit (.int kk r))::env) st):
  F8 P ⟨some d,.binOp .rem t x y u,ty,pos,VU,gu⟩ env st K:=xu ht hx hy (.inr ⟨rfl,rfl,rfl,h⟩) k
theorem shl{t u:TypeId}{y:Operand}{ti:TI}{b:Int}(ht:Xk P t=some ti)(hx:ev env x=some (.lit (.int kk a)))(hy:ev env y=some (.lit (.int kb b)))(h:rG kk a b=some r)(k:K ((d,.lit (.int kk r))::env) st):
  F8 P ⟨some d,.binOp .shl t x y u,ty,pos,VU,gu⟩ env st K:=xu ht hx hy (.inl h) k
theorem shr{t u:TypeId}{y:Operand}{ti:TI}{b:Int}(ht:Xk P t=some ti)(hx:ev env x=some (.lit (.int kk a)))(hy:ev env y=some (.lit (.int kb b)))(h:rF kk a b=some r)(k:K ((d,.lit (.int kk r))::env) st):
  F8 P ⟨some d,.binOp .shr t x y u,ty,pos,VU,gu⟩ env st K:=xu ht hx hy (.inl h) k
theorem seq{t u:TypeId}{y:Operand}{ti:TI}{a b:List UInt8}(ht:Xk P t=some ti)(hx:ev env x=some (.lit (.string (B a))))(hy:ev env y=some (.lit (.string (B b))))(k:K ((d,.lit (.bool (a==b)))::env) st):
  F8 P ⟨some d,.binOp .eql t x y u,ty,pos,VU,gu⟩ env st K:=bn ht hx hy rfl k
theorem MI{t u:TypeId}{y:Operand}{ti:TI}{a b:List UInt8}(ht:Xk P t=some ti)(hx:ev env x=some (.lit (.string (B a))))(hy:ev env y=some (.lit (.string (B b))))(k:K ((d,.lit (.bool (!(a==b))))::env) st):
  F8 P ⟨some d,.binOp .neq t x y u,ty,pos,VU,gu⟩ env st K:=bn ht hx hy rfl k
theorem slt{t u:TypeId}{y:Operand}{ti:TI}{a b:List UInt8}(ht:Xk P t=some ti)(hx:ev env x=some (.lit (.string (B a))))(hy:ev env y=some (.lit (.string (B b))))(k:K ((d,.lit (.bool (Op.bytesLess a b)))::env) st):
  F8 P ⟨some d,.binOp .lss t x y u,ty,pos,VU,gu⟩ env st K:=bn ht hx hy rfl k
theorem DF{t u:TypeId}{y:Operand}{ti:TI}{a b r:List UInt8}(ht:Xk P t=some ti)(hx:ev env x=some (.lit (.string (B a))))(hy:ev env y=some (.lit (.string (B b))))(h:Ze a b=some r)(k:K ((d,.lit (.string (B r)))::env) st):
  F8 P ⟨some d,.binOp .add t x y u,ty,pos,VU,gu⟩ env st K:=bn ht hx hy (by
   unfold Ze at h;split at h;.rename_i h1;cases h;simp[UM,dc,h1]
   cases h) k
theorem beq{t u:TypeId}{y:Operand}{ti:TI}{a b:Bool}(ht:Xk P t=some ti)(hk:ti.k=.bool)(hx:ev env x=some (.lit (.bool a)))(hy:ev env y=some (.lit (.bool b)))(k:K ((d,.lit (.bool (a==b)))::env) st):
  F8 P ⟨some d,.binOp .eql t x y u,ty,pos,VU,gu⟩ env st K:=bn ht hx hy (by rw[hk];rfl) k
theorem bne{t u:TypeId}{y:Operand}{ti:TI}{a b:Bool}(ht:Xk P t=some ti)(hk:ti.k=.bool)(hx:ev env x=some (.lit (.bool a)))(hy:ev env y=some (.lit (.bool b)))(k:K ((d,.lit (.bool (!(a==b))))::env) st):
  F8 P ⟨some d,.binOp .neq t x y u,ty,pos,VU,gu⟩ env st K:=bn ht hx hy (by rw[hk];rfl) k
theorem nt{t:TypeId}{b:Bool}(hx:ev env x=some (.lit (.bool b)))(k:K ((d,.lit (.bool (!b)))::env) st):F8 P ⟨some d,.unOp .not t x,ty,pos,VU,gu⟩ env st K:=X8 rfl (by simp[Lh,hx,RW]) k
theorem ng{t:TypeId}(hx:ev env x=some (.lit (.int kk a)))(k:K ((d,.lit (.int kk (kk.wrap (0-a))))::env) st):F8 P ⟨some d,.unOp .neg t x,ty,pos,VU,gu⟩ env st K:=X8 rfl (by simp[Lh,hx,RW]) k
theorem pk{c y:Operand}{b:Bool}{v:AV}(hc:ev env c=some (.lit (.bool b)))(h:(match b with|true=>ev env x|false=>ev env y)=some v)(k:K ((d,v)::env) st):F8 P ⟨some d,.pick c x y,ty,pos,VU,gu⟩ env st K:=X8 rfl (by cases b<;>simp at h<;>simp[Lh,hc,h]) k
theorem ex{i:Nat}{v:AV}(hx:ev env x=some (.tup vs))(h:vs[i]?=some v)(k:K ((d,v)::env) st):F8 P ⟨some d,.extract x i,ty,pos,VU,gu⟩ env st K:=X8 rfl (by simp[Lh,hx,h]) k
theorem al{t:TypeId}{ti:TI}(nn:Nat)(ht:Xk P t=some ti)(hn:st.length=nn)(k:K ((d,.mpt nn 0 0)::env) (st++[some (ti.size,[Zm ti.zero])])):F8 P ⟨some d,.alloc t,ty,pos,VU,gu⟩ env st K:=X8 rfl (by simp[Lh,ht,hn]) k
theorem bx{t:TypeId}{v:AV}(nn kk:Nat)(hx:ev env x=some v)(hc:Hu v=some cs)(hl:cs.length=kk)(hn:st.length=nn)(k:K ((d,.mpt nn 0 0)::env) (st++[some (kk,[cs])])):
  F8 P ⟨some d,.box t x,ty,pos,VU,gu⟩ env st K:=X8 rfl (by simp[Lh,hx,hc,hn,hl]) k
theorem ld{t:TypeId}{ti:TI}{v:AV}(ht:Xk P t=some ti)(hx:ev env x=some p)(h:DV st ti p=some v)(k:K ((d,v)::env) st):F8 P ⟨some d,.load t x,ty,pos,VU,gu⟩ env st K:=X8 rfl (by simp[Lh,ht,hx,h]) k
theorem La{t:TypeId}{y:Operand}{ti:TI}{v:AV}(ht:Xk P t=some ti)(hx:ev env x=some p)(hy:ev env y=some v)(h:O1 st ti p v=some VO)(k:K env VO):F8 P ⟨none,.store t x y,ty,pos,VU,gu⟩ env st K:=dj (av:=.lit undef) rfl (by simp[Lh,ht,hx,hy,h]) k
theorem fa{t:TypeId}{f:Nat}{ti:TI}{v:AV}(ht:Xk P t=some ti)(hx:ev env x=some p)(hl:H4 st p=true)(h:xh ti p f=some v)(k:K ((d,v)::env) st):F8 P ⟨some d,.fieldAddr t x f,ty,pos,VU,gu⟩ env st K:=X8 rfl (by simp[Lh,ht,hx,hl,h]) k
theorem nc(hx:ev env x=some p)(hl:H4 st p=true)(k:K ((d,p)::env) st):F8 P ⟨some d,.nilCheck x,ty,pos,VU,gu⟩ env st K:=X8 rfl (by simp[Lh,hx,hl]) k
theorem mf{f:FuncId}{a b:Array Operand}{ax bx:Vt}(ha:DY env a.toList=some ax)(hb:DY env b.toList=some bx)(k:K ((d,.fn (.func f) ax bx)::env) st):F8 P ⟨some d,.makeFunc (.func f) a b,ty,pos,VU,gu⟩ env st K:=X8 rfl (by simp[Lh,ha,hb]) k
theorem fO{t:TypeId}{ti:TI}{l:List UInt8}(ht:Xk P t=some ti)(hk:ti.k=.str)(hx:ev env x=some (.lit (.string (B l))))(k:K ((d,.lit (.int .i64 (l.length:Nat)))::env) st):
  F8 P ⟨some d,.call ⟨.builtin .len,#[x],#[t]⟩,ty,pos,VU,gu⟩ env st K:=X8 rfl (by simp[Lh,HE,D0,ht,hk,hx]) k
theorem Mu{t e:TypeId}{ti:TI}{kk:Nat}(ht:Xk P t=some ti)(hk:ti.k=.slc e)(hx:ev env x=some (.isl kk (l.map f)))(k:K ((d,.lit (.int .i64 (l.length:Nat)))::env) st):
  F8 P ⟨some d,.call ⟨.builtin .len,#[x],#[t]⟩,ty,pos,VU,gu⟩ env st K:=X8 rfl (by simp[Lh,HE,D0,ht,hk,hx]) k
theorem fP{t e:TypeId}{ti:TI}{l i:Nat}(ht:Xk P t=some ti)(hk:ti.k=.slc e)(hx:ev env x=some (.msl l i n))(hl:H4 st (.mpt l 0 0)=true)(k:K ((d,.lit (.int .i64 (n:Nat)))::env) st):
  F8 P ⟨some d,.call ⟨.builtin .len,#[x],#[t]⟩,ty,pos,VU,gu⟩ env st K:=X8 rfl (by
   simp only[H4]at hl
   cases hq:st[l]? with
   |none=>rw[hq]at hl;cases hl
   |some b =>
    cases b with
    |none=>rw[hq]at hl;cases hl
    |some b=>simp[Lh,HE,D0,ht,hk,hx,hq]) k
theorem lnN{t e:TypeId}{ti:TI}(ht:Xk P t=some ti)(hk:ti.k=.slc e)(hx:ev env x=some (.lit (.slice none 0 0)))(k:K ((d,.lit (.int .i64 0))::env) st):
  F8 P ⟨some d,.call ⟨.builtin .len,#[x],#[t]⟩,ty,pos,VU,gu⟩ env st K:=X8 rfl (by simp[Lh,HE,D0,ht,hk,hx]) k
theorem ixS{t:TypeId}{y:Operand}{ti:TI}{l:List UInt8}{c:UInt8}(ht:Xk P t=some ti)(hk:ti.k=.str)(hx:ev env x=some (.lit (.string (B l))))(hy:ev env y=some (.lit (.int kk i)))(h:idx l i=some c)(k:K ((d,.lit (.int .u8 (c.toNat:Int)))::env) st):F8 P ⟨some d,.index t x y,ty,pos,VU,gu⟩ env st K:=X8 rfl (by
   obtain⟨h0,_,h1⟩:=zT h
   simp[Lh,ht,hk,hx,hy,dz,h0,h1]) k
theorem Lp{t e:TypeId}{y:Operand}{ti:TI}{c:α}(ht:Xk P t=some ti)(hk:ti.k=.slc e)(he:Xk P e=some te)(hs:te.size=sz)(hx:ev env x=some (.isl sz (l.map f)))(hy:ev env y=some (.lit (.int kk i)))(h:idx l i=some c)(k:K ((d,.ipt sz (l.map f) i.toNat 0)::env) st):F8 P ⟨some d,.indexAddr t x y,ty,pos,VU,gu⟩ env st K:=X8 rfl (by
   obtain⟨h0,h2,h1⟩:=zT h
   have h3:i<(l.length:Int):=YA
   simp[Lh,ht,hk,he,hx,hy,D1,hs,h0,h3]) k
theorem Ns{t e:TypeId}{y:Operand}{ti:TI}{b:Nat}{c:α}(ht:Xk P t=some ti)(hk:ti.k=.slc e)(he:Xk P e=some te)(hs:te.size=sz)(hx:ev env x=some (.msl b 0 l.length))(hb:st[b]?=some (some (sz,l.map f)))(hy:ev env y=some (.lit (.int kk i)))(h:idx l i=some c)(k:K ((d,.mpt b i.toNat 0)::env) st):F8 P ⟨some d,.indexAddr t x y,ty,pos,VU,gu⟩ env st K:=X8 rfl (by
   obtain⟨h0,h2,h1⟩:=zT h
   have h3:i<(l.length:Int):=YA
   simp[Lh,ht,hk,he,hx,hy,D1,hs,h0,h3,hb]) k
theorem Mz{t e:TypeId}{y:Operand}{ti:TI}{v:AV}(ht:Xk P t=some ti)(hk:ti.k=.slc e)(he:Xk P e=some te)(hx:ev env x=some v)(hy:ev env y=some (.lit (.int kk i)))(h:D1 st te.size v i=some p)(k:K ((d,p)::env) st):F8 P ⟨some d,.indexAddr t x y,ty,pos,VU,gu⟩ env st K:=X8 rfl (by simp[Lh,ht,hk,he,hx,hy,h]) k
def OT(ti:TI)(r:Vt)(j:Nat):Option AV:=
 match ti.k.isAgg with
 |some true=>if j+ti.size<=r.length then some (.agg ((r.drop j).take ti.size))else none
 |some false=>r[j]?
 |none=>none
theorem uo{ti:TI}{r:Vt}(h:GV st p=some (r,j)):DV st ti p=OT ti r j:=by
 unfold DV OT;rw[h]
 cases ti.k.isAgg with
 |none=>rfl
 |some b=>cases b<;>rfl
theorem Lt{t:TypeId}{ti:TI}{i:Nat}{c:α}{v:AV}(ht:Xk P t=some ti)(hx:ev env x=some (.ipt sz (l.map f) i j))(h:l[i]?=some c)(hv:OT ti (f c) j=some v)(k:K ((d,v)::env) st):
  F8 P ⟨some d,.load t x,ty,pos,VU,gu⟩ env st K:=ld ht hx ((uo (by simp[GV,h])).trans hv) k
theorem RT{t:TypeId}{ti:TI}{b i:Nat}{c:α}{v:AV}(ht:Xk P t=some ti)(hx:ev env x=some (.mpt b i j))(hb:st[b]?=some (some (sz,l.map f)))(h:l[i]?=some c)(hv:OT ti (f c) j=some v)(k:K ((d,v)::env) st):
  F8 P ⟨some d,.load t x,ty,pos,VU,gu⟩ env st K:=ld ht hx ((uo (by simp[GV,hb,h])).trans hv) k
theorem Mm{t:TypeId}{ti:TI}{l r:List UInt8}{b:Int}(ht:Xk P t=some ti)(hk:ti.k=.str)(hx:ev env x=some (.lit (.string (B l))))(FI:Z6 env 0 lo=some a.toNat)(FD:Z6 env l.length hi=some b.toNat)(h:XR l a b=some r)(k:K ((d,.lit (.string (B r)))::env) st):F8 P ⟨some d,.slice t x lo hi none,ty,pos,VU,gu⟩ env st K:=X8 rfl (by
   unfold XR at h;split at h;.rename_i h1;cases h;have e:U7 (.lit (.string (B l)))=some l.length:=rfl;simp only[Lh,ht,hk,hx,e,FI,FD];rw[YK YA]
   cases h) k
theorem Mi{t e:TypeId}{ti:TI}{r:List α}{b:Int}(ht:Xk P t=some ti)(hk:ti.k=.slc e)(he:Xk P e=some te)(hs:te.size=sz)(hx:ev env x=some (.isl sz (l.map f)))(FI:Z6 env 0 lo=some a.toNat)(FD:Z6 env l.length hi=some b.toNat)(h:XR l a b=some r)(k:K ((d,.isl sz (r.map f))::env) st):F8 P ⟨some d,.slice t x lo hi none,ty,pos,VU,gu⟩ env st K:=X8 rfl (by
   unfold XR at h;split at h
   .rename_i h1;cases h
    have e':U7 (.isl sz (l.map f))=some l.length:=by simp[U7]
    simp only[Lh,ht,hk,hx,e',he,FI,FD,W0];rw[YK ⟨hs.symm,YA,by rw[QY];omega⟩];simp[List.map_drop,List.map_take]
   cases h) k
theorem pc{c:Call}{g:FuncId}(h:Xn P g args FH)(hc:ZW (.call c)=true)(hg:KG env (.call c)=some (g,args))(hi:Zv args=true)(k:K ((d,FH)::env) st):F8 P ⟨some d,.call c,ty,pos,VU,gu⟩ env st K:=by unfold F8;simp only[hc,hg];exact ob h (UD hi) k
theorem Lj{c:Call}{g:FuncId}{V6:Vt}(h:Xn P g V6 FH)(hc:ZW (.call c)=true)(hg:KG env (.call c)=some (g,args))(hs:OP st args V6)(hp:KH FH)(k:K ((d,FH)::env) st):F8 P ⟨some d,.call c,ty,pos,VU,gu⟩ env st K:=by unfold F8;simp only[hc,hg];exact zA8 h hp hs k
theorem sc(L:List Nat){c:Call}{g:FuncId}{Fh:Vt}{bs0 bs1:Vz}(h:SC P g Fh bs0 av bs1)(hc:ZW (.call c)=true)(hg:KG env (.call c)=some (g,args))(hnd:NB L=true)(hlt:RN st.length L=true)(ha:H0 (λi=>L[i]?) Fh args)(hs:MF (λi=>L[i]?) st L bs0)(k:K ((d,rn (LR L st.length) av)::env) (CL L st bs1)):F8 P ⟨some d,.call c,ty,pos,VU,gu⟩ env st K:=by
 unfold F8;simp only[hc,hg];refine zA7 h.2 L (by rw[uA];exact hs.at.1) (uK hnd) (bD hlt) ha.get.1 ha.get.2 ⟨λi l hl=>hs.at.2 i l hl,λi kk els he=>?_,λi1 i2 x h1 h2=>?_⟩ ?_;.have:i<(LZ bs0).length:=(Qb.1 he).1;rw[uA,<-hs.at.1]at this;exact⟨L[i],Qe this⟩
 .obtain⟨l1,e1⟩:=Qb.1 h1;obtain⟨l2,e2⟩:=Qb.1 h2;exact(List.getElem_inj (uK hnd)).1 (e1.trans e2.symm)
 rintro a s ⟨rfl,rfl⟩;rw[<-tS h.1];exact k
theorem Lo{y:Operand}{t u' e:TypeId}{ti tu:TI}{e':TypeId}{b w:Nat}{z r:List α}{v:AV}(nn:Nat)(ht:Xk P t=some ti)(hk:ti.k=.slc e)(he:Xk P e=some te)(hs:te.size=sz)(hw:te.bytes=w)(hz:0<sz)(hu:Xk P u'=some tu)(hku:tu.k=.slc e')(hx:ev env x=some (.msl b 0 l.length))(hb:st[b]?=some (some (sz,l.map f)))(hy:ev env y=some v)(hr:UW st sz v=some (z.map f))(h1:∀x,(f x).all AV.one=true)(hn:st.length=nn)(h:Xu w l z=some r)(k:K ((d,.msl nn 0 r.length)::env) (st.set b none++[some (sz,r.map f)])):F8 P ⟨some d,.call ⟨.builtin .append,#[x,y],#[t,u']⟩,ty,pos,VU,gu⟩ env st K:=X8 rfl (by
   obtain⟨rfl,h2,h3⟩:=bB h
   have h4:KM (z.map f)=true:=by unfold KM;rw[List.all_map];simp[h1]
   have hbo:DZ st sz (.msl b 0 l.length)=some (l.map f,st.set b none):=by simp[DZ,hb,oK]
   simp only[Lh,HE,NI,ht,hx,hy,hu,hk,he,hs,hbo,hku,hr];rw[YK ⟨hz,h4,by simpa[hw]using h2,by simpa using h3⟩]
   simp[hn]) k
theorem MO{y:Operand}{t u' e:TypeId}{ti tu:TI}{e':TypeId}{w:Nat}{z r:List α}{v:AV}(nn:Nat)(ht:Xk P t=some ti)(hk:ti.k=.slc e)(he:Xk P e=some te)(hs:te.size=sz)(hw:te.bytes=w)(hz:0<sz)(hu:Xk P u'=some tu)(hku:tu.k=.slc e')(hx:ev env x=some (.lit (.slice none 0 0)))(hy:ev env y=some v)(hr:UW st sz v=some (z.map f))(h1:∀x,(f x).all AV.one=true)(hn:st.length=nn)(h:Xu w [] z=some r)(k:K ((d,.msl nn 0 r.length)::env) (st++[some (sz,r.map f)])):F8 P ⟨some d,.call ⟨.builtin .append,#[x,y],#[t,u']⟩,ty,pos,VU,gu⟩ env st K:=X8 rfl (by
   obtain⟨hq,h2,h3⟩:=bB h
   have hq':z=r:=by simpa using hq.symm
   subst hq'
   have h4:KM (z.map f)=true:=by unfold KM;rw[List.all_map];simp[h1]
   simp only[Lh,HE,NI,ht,hx,hy,hu,hk,he,hs,DZ,hku,hr];rw[YK ⟨hz,h4,by simpa[hw]using h2,by simpa using h3⟩]
   simp[hn]) k
theorem Mc{z:List α}:UW st sz (.isl sz (z.map f))=some (z.map f):=by simp[UW]
theorem Mx{b:Nat}{z:List α}(hb:st[b]?=some (some (sz,z.map f))):UW st sz (.msl b 0 z.length)=some (z.map f):=by simp[UW,hb,oK]
theorem bd{t:TypeId}{ps:Array (Nat×Operand)}{ti:TI}{pl:List (Nat×Nat)}{parts:List (Nat×AV)}(ht:Xk P t=some ti)(hk:ti.k=.agg pl)(hp:Dc env ps.toList=some parts)(h:ON pl (Zm ti.zero) parts=some cs)(k:K ((d,.agg cs)::env) st):
  F8 P ⟨some d,.build t ps,ty,pos,VU,gu⟩ env st K:=X8 rfl (by simp[Lh,ht,hk,hp,h]) k
theorem bl{t e:TypeId}{len:Nat}{ps:Array (Nat×Operand)}{ti:TI}{parts:List (Nat×AV)}{VY:List (Vt)}(nn:Nat)(ht:Xk P t=some ti)(hk:ti.k=.slc e)(he:Xk P e=some te)(hs:te.size=sz)(hz:0<sz)(hl:len*sz<=16777216)(hp:Dc env ps.toList=some parts)(h:Nm sz (List.replicate len (Zm te.zero)) parts=some VY)(hn:st.length=nn)(k:K ((d,.msl nn 0 len)::env) (st++[some (sz,VY)])):F8 P ⟨some d,.buildSlice t len ps,ty,pos,VU,gu⟩ env st K:=X8 rfl (by
   simp only[Lh,ht,hk,he,hp,hs,h];rw[YK ⟨hz,hl⟩]
   simp[hn]) k
end
variable {v:AV}{e0 VC:Ev}{VM:List (Vt)}{V2:Vt}{ss:List Nat}{all:List Oper}{r z:List α}{d id b s i c:Nat}{ρ:Nat->Option Nat}{A0:Nat->Prop}{o:Oper}{L:Xv}
theorem ci(h:Hg v=true):Rs st L v v:=.imm (Eh h)
theorem ce{t:Nat}(h1:look env t=some v)(h2:Hg v=true)(r:Uo st L e0 env):Uo st L ((t,v)::e0) env:=⟨⟨v,h1,ci h2⟩,r⟩
theorem cv{t:Nat}{v0:AV}(h1:look env t=some v)(h2:Rs st L v0 v)(r:Uo st L e0 env):Uo st L ((t,v0)::e0) env:=⟨⟨v,h1,h2⟩,r⟩
theorem cn:Uo st L [] env:=trivial
theorem XL(h:∀x,Zv (f x)=true):O3 st L (l.map f) (l.map f):=
 ⟨rfl,λi hi _=>⟨rfl,λj hj _=>.imm (by
  obtain⟨y,_,hy⟩:=QP.1 (Qj hi);have:=(UD (h y)).mem;rw[hy]at this
  exact this _ (Qj hj))⟩⟩
def Uv(st:St)(L:Xv):Vt->Vt->Prop
 |[],[]=>True
 |x::l,y::r=>Rs st L x y/\Uv st L l r
 |_,_=>False
theorem Uv.get{st:St}{L:Xv}:∀{l r:Vt},Uv st L l r->l.length=r.length/\∀i (h:i<l.length) (h':i<r.length),Rs st L l[i] r[i]
 |[],[],_=>⟨rfl,λi h=>by cases h⟩
 |[],_::_,h=>h.elim
 |_::_,[],h=>h.elim
 |x::l,y::r,h=>by
  obtain⟨h1,h2⟩:=Uv.get h.2;refine⟨by simp[h1],λi hi VZ=>?_⟩
  cases i with
  |zero=>exact h.1
  |succ i=>exact h2 i (by simpa using hi) (by simpa using VZ)
def wk(st:St)(L:Xv):List (Vt)->List (Vt)->Prop
 |[],[]=>True
 |x::l,y::r=>Uv st L x y/\wk st L l r
 |_,_=>False
theorem XN{r0 r:Vt}(h:Uv st L r0 r):O3 st L [r0] [r]:=
 ⟨rfl,λi hi _=>by
  have:i=0:=by simp at hi;exact hi
  subst this
  exact⟨h.get.1,λj h1 h2=>h.get.2 j h1 h2⟩⟩
theorem C4{st:St}{L:Xv}:∀{l r:List (Vt)},wk st L l r->O3 st L l r
 |[],[],_=>⟨rfl,λi h=>by cases h⟩
 |[],_::_,h=>h.elim
 |_::_,[],h=>h.elim
 |x::l,y::r,h=>by
  obtain⟨h1,h2⟩:=C4 h.2;refine⟨by simp[h1],λi hi VZ=>?_⟩
  cases i with
  |zero=>exact⟨h.1.get.1,λj a b=>h.1.get.2 j a b⟩
  |succ i=>exact h2 i (by simpa using hi) (by simpa using VZ)
theorem dx{l r:Vt}(h:Uv st L l r):Rs st L (.agg l) (.agg r):=.agg h.get.1 h.get.2
theorem rJ{f:Fn}{a a' b b':Vt}(h:Uv st L a a')(h':Uv st L b b'):Rs st L (.fn f a b) (.fn f a' b'):=.fn h.get.1 h.get.2 h'.get.1 h'.get.2
theorem RM{l r:Vt}(h:Uv st L l r):Rs st L (.tup l) (.tup r):=.tup h.get.1 h.get.2
theorem Gu(hD:Kj L b=false)(hb:st[b]?=some (some (sz,l.map f)))(h:∀x,Zv (f x)=true):Rs st L (.isl sz (l.map f)) (.msl b 0 l.length):=
 .sl hD hb YC YC (λr hr x hx=>by obtain⟨y,_,rfl⟩:=QP.1 hr;exact(UD (h y)).mem x hx) (λq _ _ _=>YC) (λq _ _ h2 j _ h4=>by
  have:(l.map f)[0+q]'(by simpa using h2)=(l.map f)[q]:=YC
  simp only[this]
  exact .imm ((UD (h l[q])).mem _ YC))
def RY(st:St)(L:Xv):List (Vt)->List (Vt)->Prop
 |[],[]=>True
 |r0::l,r::q=>(Uv st L r0 r/\Zv r0=true)/\RY st L l q
 |_,_=>False
theorem RY.get{st:St}{L:Xv}:∀{l r:List (Vt)},RY st L l r->l.length=r.length/\∀i (h:i<l.length) (h':i<r.length),Uv st L l[i] r[i]/\Zv l[i]=true
 |[],[],_=>⟨rfl,λi h=>by cases h⟩
 |[],_::_,h=>h.elim
 |_::_,[],h=>h.elim
 |x::l,y::r,h=>by
  obtain⟨h1,h2⟩:=RY.get h.2;refine⟨by simp[h1],λi hi VZ=>?_⟩
  cases i with
  |zero=>exact h.1
  |succ i=>exact h2 i (by simpa using hi) (by simpa using VZ)
theorem yR(hD:Kj L b=false)(hb:st[b]?=some (some (sz,els)))(h:RY st L VM els)(hn:els.length=n:=by rfl):Rs st L (.isl sz VM) (.msl b 0 n):=by
 subst hn;refine .sl hD hb YC h.get.1 (λr hr x hx=>?_) (λq _ h1 h2=>?_) (λq _ h1 h2 j h3 h4=>?_);.obtain⟨i,hi,rfl⟩:=JO hr;exact(UD (h.get.2 i hi (by rw[<-h.get.1];exact hi)).2).mem x hx
 .have:=(h.get.2 q h2 YA).1.get.1;simp only[QN];exact this.symm
 have:=(h.get.2 q h2 YA).1.get.2 j h4 (by simpa using h3);simpa using this
theorem Xo(h:∀x,Zv (f x)=true):(SB.many sz (l.map f)).ok:=λr hr x hx=>by
 obtain⟨y,_,rfl⟩:=QP.1 hr;exact(UD (h y)).mem x hx
def OW(n nb0:Nat)(K:Ev->St->Prop)(env:Ev)(st:St):Prop:=∀A m w a,nb0<=st.length->R A m w st->Ly A m st.length w n env a->KN A m nb0 w n K a w
theorem zm(h:K env st):OW n nb0 K env st:=λA m w a h0 hR hE=>⟨A,m,env,st,hR,hE,Xs.refl0 _ _ _ _ h0,h⟩
theorem qK{c:Code}{X B R:Type}(E:X->Ev)(S:X->St)(E':B->Ev)(S':B->St)(post:R->Ev->St->Prop){body:X->Option (Sum X (Sum B R))}{z0:X}{o:Sum B R}(ho:zk body z0=some o)(hc:LN nb0 (E z0) (S z0) env st)(Fb:∀z r,body z=some r->SW P n nb0 c (LQ id nb0 E S E' S' post r) (E z) (S z))(hb:∀b,o=.inl b->OW n nb0 (Q .normal) (E' b) (S' b))(hr:∀r,o=.inr r->∀env st,post r env st->Q .ret env st):SW P n nb0 (.block id (.loop c)) Q env st:=by
 obtain⟨N,hN⟩:=Eg ho
 have key:SW P n nb0 (.block id (.loop c)) (λe env st=>match e with|.normal=>∃b,o=.inl b/\LN nb0 (E' b) (S' b) env st|e=>Q e env st) env st:=by
  refine zg (d8 (λk env st=>∃z,Z2 body k z=some o/\LN nb0 (E z) (S z) env st) N ⟨z0,hN,hc⟩ ?_);rintro k env st ⟨z,hz,hcan⟩
  cases k with
  |zero=>cases hz
  |succ k =>
   unfold Z2 at hz
   cases hbz:body z with
   |none=>rw[hbz]at hz;cases hz
   |some r =>
    rw[hbz]at hz;refine Ba hcan ((Fb z r hbz).mono λe env st h=>?_)
    cases e with
    |normal =>
     obtain⟨z',rfl,h2⟩:=h;exact⟨k,QL k,z',hz,h2⟩
    |exit i =>
     obtain⟨rfl,b,rfl,h2⟩:=h;simp only[Ng,Bc,YQ];exact⟨b,(sm hz).symm,h2⟩
    |ret =>
     obtain⟨r',rfl,h2⟩:=h;exact hr r' (sm hz).symm env st h2
    |goto l=>exact h.elim
    |panic c=>exact h.elim
    |outgrown=>exact h.elim
 intro A m w a h0 hR hE;refine wp_mono (key A m w a h0 hR hE) λe a' w' ho=>?_
 cases e with
 |normal =>
  obtain⟨A',m',e',s',k1,k2,k3,b,hob,L,h1,h2,h3,h4,h5⟩:=ho;have hs:=Hi.of h2 h3;exact(hb b hob _ _ _ _ h5 (k1.rs hs) (k2.rs k1 hs h1)).trans (k3.rs hs h4 h5)
 |exit i=>exact ho
 |ret=>exact ho
 |goto l=>exact ho
 |panic c=>exact ho
 |outgrown=>exact ho
section
variable {ty:TypeId}
theorem Lx(hb:st[b]?=some (some (sz,z.map f)))(hn:n=z.length):UW st sz (.msl b 0 n)=some (z.map f):=by subst hn;exact Mx hb
theorem vM{b:Int}(h:XR l a b=some r):0<=a/\a<=b/\b<=l.length:=by
 unfold XR at h;split at h;.assumption
 cases h
theorem Gc{b:Int}{k:Nat}(hx:ev env x=some (.lit (.int .i64 a)))(h:XR l a b=some r):Z6 env k (some x)=some a.toNat:=by simp[Z6,hx,RK,(vM h).1]
theorem H8{b:Int}{k:Nat}(hx:ev env x=some (.lit (.int .i64 b)))(h:XR l a b=some r):Z6 env k (some x)=some b.toNat:=by have:=vM h;simp[Z6,hx,RK,show 0<=b by omega]
end
theorem si(h:Hg v=true):Zy st v v:=.imm (Eh h)
def H9(st:St):Vt->Vt->Prop
 |[],[]=>True
 |x::l,y::r=>Zy st x y/\H9 st l r
 |_,_=>False
theorem H9.get{st:St}:∀{l r:Vt},H9 st l r->l.length=r.length/\∀i (h:i<l.length) (h':i<r.length),Zy st l[i] r[i]
 |[],[],_=>⟨rfl,λi h=>by cases h⟩
 |[],_::_,h=>h.elim
 |_::_,[],h=>h.elim
 |x::l,y::r,h=>by
  obtain⟨h1,h2⟩:=H9.get h.2;refine⟨by simp[h1],λi hi VZ=>?_⟩
  cases i with
  |zero=>exact h.1
  |succ i=>exact h2 i (by simpa using hi) (by simpa using VZ)
theorem XU(hb:st[b]?=some (some (sz,l.map f)))(h:∀x,Zv (f x)=true):Zy st (.msl b 0 l.length) (.isl sz (l.map f)):=
 .msl hb YC YC (λq _ _ _=>YC) (λq _ _ h2 j _ h4=>by
  have:(l.map f)[0+q]'(by simpa using h2)=(l.map f)[q]:=YC
  simp only[this];refine .imm ?_;obtain⟨y,_,hy⟩:=QP.1 (Qj h2);have h6:=(UD (h y)).mem;rw[hy]at h6
  exact h6 _ (Qj h4))
def RQ(st:St):List (Vt)->List (Vt)->Prop
 |[],[]=>True
 |x::l,y::r=>H9 st x y/\RQ st l r
 |_,_=>False
theorem RQ.get{st:St}:∀{l r:List (Vt)},RQ st l r->l.length=r.length/\∀i (h:i<l.length) (h':i<r.length),H9 st l[i] r[i]
 |[],[],_=>⟨rfl,λi h=>by cases h⟩
 |[],_::_,h=>h.elim
 |_::_,[],h=>h.elim
 |x::l,y::r,h=>by
  obtain⟨h1,h2⟩:=RQ.get h.2;refine⟨by simp[h1],λi hi VZ=>?_⟩
  cases i with
  |zero=>exact h.1
  |succ i=>exact h2 i (by simpa using hi) (by simpa using VZ)
theorem qo(hb:st[b]?=some (some (sz,els)))(h:RQ st els VM)(hn:els.length=n:=by rfl):Zy st (.msl b 0 n) (.isl sz VM):=by
 subst hn;refine .msl hb YC h.get.1.symm (λq _ h1 h2=>?_) (λq _ h1 h2 j h3 h4=>?_);.have:=(h.get.2 q YA h2).get.1;simp only[QN];exact this
 have:=(h.get.2 q YA h2).get.2 j (by simpa using h3) h4;simpa using this
theorem XC{k:Nat}(hb:st[b]?=some (some (k,[cs])))(h:H9 st cs V2):Zy st (.mpt b 0 j) (.ipt k [V2] 0 j):=by
 refine .mpt hb rfl (λq h1 h2=>?_) (λq h1 h2 i h3 h4=>?_)
 .have:q=0:=by simp at h1;exact h1
  subst this;exact h.get.1
 have:q=0:=by simp at h1;exact h1
 subst this;exact h.get.2 i h3 h4
theorem ZB{f:Fn}{a a' b b':Vt}(h:H9 st a a')(h':H9 st b b'):Zy st (.fn f a b) (.fn f a' b'):=.fn h.get.1 h.get.2 h'.get.1 h'.get.2
mutual
def wv:AV->Bool
 |.any=>true
 |.lit _=>true
 |.agg cs=>zLY cs
 |.tup cs=>zLY cs
 |_=>false
def zLY:Vt->Bool
 |[]=>true
 |x::l=>wv x&&zLY l
end
inductive O4:Vt->Prop
 |nil:O4 []
 |cons {x l:_} (h:KH x) (t:O4 l):O4 (x::l)
theorem O4.mem{l:Vt}(h:O4 l):∀x∈l,KH x:=by
 induction h with
 |nil=>exact λx hx=>by cases hx
 |cons h _ ih =>
  intro x hx
  rcases Qu.1 hx with h1|h1
  .exact h1▸h
  exact ih x h1
mutual
theorem yf:∀{x:AV},wv x=true->KH x
 |.any,_=>.any
 |.lit v,_=>.lit v
 |.isl _ _,h=>by cases h
 |.ipt _ _ _ _,h=>by cases h
 |.msl _ _ _,h=>by cases h
 |.mpt _ _ _,h=>by cases h
 |.fn _ _ _,h=>by cases h
 |.agg cs,h=>.agg cs (zAU h).mem
 |.tup cs,h=>.tup cs (zAU h).mem
theorem zAU:∀{l:Vt},zLY l=true->O4 l
 |[],_=>.nil
 |x::l,h=>.cons (yf (Q0.1 h).1) (zAU (Q0.1 h).2)
end
theorem Xx(h:wv v=true:=by rfl):KH v:=yf h
theorem LD(h:∀x,Zv (f x)=true):∀r∈l.map f,∀x∈r,LI x:=λr hr x hx=>by
 obtain⟨y,_,rfl⟩:=QP.1 hr;exact(UD (h y)).mem x hx
inductive Nl:AV->AV->Prop
 |imm {x:_} (h:LI x):Nl x x
 |nil {k}:Nl (.lit (.slice none 0 0)) (.isl k [])
 |agg {cs V2:Vt} (hl:cs.length=V2.length) (hr:∀i (h:i<cs.length) (h':i<V2.length),Nl cs[i] V2[i]):Nl (.agg cs) (.agg V2)
theorem Nl.vi{A:Nat->Prop}{w:World}{x y:AV}(h:Nl x y):∀{v m nb},V A m nb w x v->VI A w y v:=by
 induction h with
 |imm h=>exact λhv=>h.vi hv
 |nil=>intro v m nb hv;rw[hv.lit_inv];exact .inil _ _ _
 |agg hl hr ih =>
  intro v m nb hv;obtain⟨a,rfl,h1,h2⟩:=hv.agg_inv;exact .agg _ _ YA λi hi=>ih i YA hi (h2 i YA)
def Nx:Vt->Vt->Prop
 |[],[]=>True
 |x::l,y::r=>Nl x y/\Nx l r
 |_,_=>False
theorem Nx.get:∀{l r:Vt},Nx l r->l.length=r.length/\∀i (h:i<l.length) (h':i<r.length),Nl l[i] r[i]
 |[],[],_=>⟨rfl,λi h=>by cases h⟩
 |[],_::_,h=>h.elim
 |_::_,[],h=>h.elim
 |x::l,y::r,h=>by
  obtain⟨h1,h2⟩:=Nx.get h.2;refine⟨by simp[h1],λi hi VZ=>?_⟩
  cases i with
  |zero=>exact h.1
  |succ i=>exact h2 i (by simpa using hi) (by simpa using VZ)
theorem xq(h:Hg v=true):Nl v v:=.imm (Eh h)
theorem nlN{k:Nat}:Nl (.lit (.slice none 0 0)) (.isl k []):=.nil
theorem nlA(h:Nx cs V2):Nl (.agg cs) (.agg V2):=.agg h.get.1 h.get.2
theorem pcn{ty:TypeId}{c:Call}{g:FuncId}{V6:Vt}(h:Xn P g V6 FH)(hc:ZW (.call c)=true)(hg:KG env (.call c)=some (g,args))(hi:Nx args V6)(k:K ((d,FH)::env) st):F8 P ⟨some d,.call c,ty,pos,VU,gu⟩ env st K:=by unfold F8;simp only[hc,hg];refine⟨h.1,λA m w VX hR hv=>(h.2 A w VX hR.aLow ⟨by rw[<-hi.get.1];exact hv.1,λi VZ=>(hi.get.2 i (by rw[hi.get.1];exact VZ) VZ).vi (hv.2 i (by rw[hi.get.1];exact VZ))⟩).mono λe w' ⟨v,he,hg,hvi⟩=>?_⟩;obtain⟨h1,h2⟩:=hR.grow (A':=dX A w w') hg (λB hB=>.inl hB) (λB hB=>hB);exact⟨v,_,m,st,FH,he,h1,h2,.imm hvi,k⟩
theorem Ln(h:Hg v=true):Rn ρ v v:=.imm (Eh h)
def Hp(all:List Oper)(s i:Nat):Bool:=
 match all[s]? with
 |some o=>o.after.toList.any λe=>Region.binds .any e&&Nat.beq e.on i
 |none=>false
def OR(all:List Oper)(i:Nat):List Nat->Bool
 |[]=>true
 |s::p=>(!Hp all s i)&&OR all i p
def Gg(all:List Oper)(ss p en:List Nat)(i:Nat):Bool:=
 match all[i]? with
 |some o=>o.after.toList.all λe=>!Region.binds .any e||(if Xt e.on ss then Xt e.on p else Xt e.on en)
 |none=>false
def Kw(all:List Oper)(ss p en:List Nat):Bool:=(List.range all.length).all λi=>Xt i ss||Xt i en||!Gg all ss p en i
def Un(p:List Nat):List Nat->Bool
 |[]=>true
 |s::r=>Xt s p&&Un p r
def DI(all:List Oper)(i:Nat):Nat->List Oper->List Tmp
 |_,[]=>[]
 |k,o::r=>match o.dst with
  |some t=>if Hp all k i then DI all i (k+1) r else t::DI all i (k+1) r
  |none=>DI all i (k+1) r
def ea(all:List Oper)(e0:Ev)(i:Nat):Ev:=KJ (DI all i 0 all) e0
theorem vy{all:List Oper}{i:Nat}:∀{l:List Oper} {k:Nat} {j:Nat} {t:Tmp},Zj l j=some t->Hp all (k+j) i=false->t∈DI all i k l
 |[],k,j,t,h,_=>by simp[Zj]at h
 |o::l,k,0,t,h,hw=>by
  have hd:o.dst=some t:=by simpa[Zj]using h
  unfold DI;rw[hd];simp only[Je]at hw;simp[hw]
 |o::l,k,j+1,t,h,hw=>by
  have h1:t∈DI all i (k+1) l:=vy (j:=j) (by simpa[Zj]using h) (by rw[QW,Yh 1];exact hw);unfold DI;split
  .split
   .exact h1
   exact Jl _ h1
  exact h1
theorem aK{t:Tmp}(h:look (ea all e0 i) t=some v):look e0 t=some v/\∀j,Zj all j=some t->Hp all j i=true:=by
 refine⟨Pb.2 v h,λj hj=>?_⟩
 cases hw:Hp all j i with
 |true=>rfl
 |false =>
  have:=(Pb (e:=e0) (ds:=DI all i 0 all) (t:=t)).1 (vy (k:=0) hj (by rw[QN];exact hw));unfold ea at h;rw[this]at h;cases h
def UU(P:Program)(all:List Oper)(VC F:Ev)(st:St)(i:Nat):Prop:=
 match all[i]? with
 |some o=>∃v,(match o.dst with|some t=>look F t=some v|none=>True)/\W1 P all (ea all VC i) st F o v
 |none=>False
def U8(P:Program)(all:List Oper)(VC F:Ev)(st:St)(p:List Nat):List Nat->Prop
 |[]=>True
 |i::r=>(OR all i p=true->UU P all VC F st i)/\U8 P all VC F st p r
theorem U8.at{P all VC F st p}:∀{l:List Nat},U8 P all VC F st p l->∀i,Xt i l=true->OR all i p=true->UU P all VC F st i
 |[],_,i,h,_=>by cases h
 |x::l,h,i,hm,hp=>by
  simp only[Xt,Qv]at hm
  rcases hm with h1|h1
  .have:=Qn h1;subst this;exact h.1 hp
  exact U8.at h.2 i h1 hp
def Za:Ev->List Nat
 |[]=>[]
 |(t,_)::e=>t::Za e
def Kc(all:List Oper)(l:List Nat):List Nat->Bool
 |[]=>true
 |k::r=>(l.any λj=>match Zj all j with|some t=>Nat.beq t k|none=>false)&&Kc all l r
theorem uW{all:List Oper}{l:List Nat}:∀{ks:List Nat},Kc all l ks=true->∀k∈ks,∃j,Xt j l=true/\Zj all j=some k
 |[],_,k,h=>by cases h
 |x::r,h,k,hk=>by
  simp only[Kc,Qd]at h
  rcases Qu.1 hk with rfl|hk
  .obtain⟨j,h1,h2⟩:=QB.1 h.1;refine⟨j,G3.2 h1,?_⟩;split at h2;.rename_i t ht;rw[ht,Qn h2]
   cases h2
  exact uW h.2 k hk
def DT(P:Program)(all:List Oper)(ss:List Nat)(VC:Ev)(K:Ev->St->Prop):Nat->List Nat->List Nat->Ev->St->Prop
 |0,p,en,F,st=>U8 P all VC F st p en/\Kw all ss p en=true/\Un p ss=true/\K (F++KJ (K7 all) VC) st
 |n+1,p,en,F,st=>U8 P all VC F st p en/\Kw all ss p en=true/\Un p ss=false/\∀s,Xt s ss=true->Xt s p=false->Gg all ss p en s=true->
   match all[s]? with
   |some o=>Gx (LL F (ea all VC s) (Zs all o.after.toList)) (G1 all o.guard)=some true/\UN P o.op (LL F (ea all VC s) (Zs all o.after.toList)) st (λav VO=>∃en' new,
     ZH (Za new) F=true/\Kc all ((s::p)++(en'++en)) (Za new)=true/\(match o.dst with|some t=>look (new++F) t=some av|none=>True)/\DT P all ss VC K n (s::p) (en'++en) (new++F) VO)
   |none=>False
theorem Pc:∀{e:Ev} {t:Nat} {v:AV},look e t=some v->t∈Za e
 |[],t,v,h=>by cases h
 |(k,x)::e,t,v,h=>by
  simp only[look]at h;split at h;.rename_i e';subst e';simp[Za]
  simp[Za,Pc h]
theorem zHG{new F:Ev}(hk:ZH (Za new) F=true){t:Nat}(h:look F t=some v):look (new++F) t=some v:=by
 have h1:=GJ hk h
 have:∀{e:Ev},t∉Za e->look (e++F) t=some v:=λ{e}=>by
  induction e with
  |nil=>intro _;exact h
  |cons p e ih =>
   obtain⟨k,x⟩:=p;intro hn;simp only[Za,Qu,not_or]at hn;simp only[J5,look,YM (Ne.symm hn.1)];exact ih hn.2
 exact this h1
theorem vC(ho:all[s]?=some o)(h:Hp all s i=true):∃e∈o.after.toList,Region.binds .any e=true/\e.on=i:=by unfold Hp at h;rw[ho]at h;simp only[QB,Qd]at h;obtain⟨e,h1,h2,h3⟩:=h;exact⟨e,h1,h2,Qn h3⟩
theorem b8{p:List Nat}:∀{l:List Nat},(∀s,Xt s l=true->Xt s p=true)->Un p l=true
 |[],_=>rfl
 |x::l,h=>by
  unfold Un;rw[h x (by simp[Xt]),b8 λs hs=>h s (by simp[Xt,hs])];rfl
theorem bE{p:List Nat}:∀{l:List Nat},Un p l=true->∀s,Xt s l=true->Xt s p=true
 |[],_,s,h=>by cases h
 |x::l,h,s,hs=>by
  simp only[Un,Qd]at h;simp only[Xt,Qv]at hs
  rcases hs with h1|h1
  .rw[<-Qn h1];exact h.1
  exact bE h.2 s h1
theorem zAJ:∀{l r:List Nat},Xt s (l++r)=true↔Xt s l=true\/Xt s r=true
 |l,r=>by simp only[G3,Qp]
theorem uc{x:Nat}{l:List Nat}:Xt s (x::l)=true↔s=x\/Xt s l=true:=by simp only[G3,Qu]
theorem yO{all:List Oper}{i:Nat}:∀{p:List Nat},(∀s,Xt s p=true->Hp all s i=false)->OR all i p=true
 |[],_=>rfl
 |s::p,h=>by
  unfold OR;rw[h s (by simp[Xt]),yO λs hs=>h s (by simp[Xt,hs])];rfl
def dD(all:List Oper)(F:Ev)(VC:Ev)(VP:Array Bool)(t:Tmp)(v:AV):Prop:=(look VC t=some v/\∀j,Zj all j=some t->VP.getD j false=false)\/∃j,VP.getD j false=true/\Zj all j=some t/\look F t=some v
theorem cB{Q:Exit->Act->World->Prop}{m0:BM}{w0:World}(VW:H3 n VS.toList=true)(FO:∀s,Xt s ss=true->s<VS.size)(hQ:∀a w,KN A0 m0 nb0 w0 n K a w->Q .normal a w):∀(Fq:Nat) (k:Nat) (p en:List Nat) (F:Ev) (st:St) (VP:Array Bool) (A:Nat->Prop) (m:BM) (w:World) (a:Act),DT P VS.toList ss VC K k p en F st->(∀i,Xt i p=true->VP.getD i false=true)->(∀i,Xt i ss=true->VP.getD i false=true->Xt i p=true)->(∀i,VP.getD i false=true->Xt i ss=false->Xt i en=true)->(∀s i,VP.getD s false=true->Hp VS.toList s i=true->VP.getD i false=true)->(∀t v,look F t=some v->∃j,Zj VS.toList j=some t)->(∀j t,VP.getD j false=true->Zj VS.toList j=some t->∃v,look F t=some v)->VP.size=VS.size->VP.toList.countP (·==false)<=Fq->R A m w st->Xs A0 m0 nb0 w0 A m st.length w->a.tmps.size=n->a.defers=[]->(∀t v,dD VS.toList F VC VP t v->t<n/\V A m st.length w v (a.tmps.getD t undef))->wpAny P .any VS Q Fq VP a w:=by
 obtain⟨hok1,huniq⟩:=zCU VW
 have lt_of:∀j t,Zj VS.toList j=some t->j<VS.size:=λj t hj=>by
  unfold Zj at hj
  cases ho:VS.toList[j]? with
  |none=>rw[ho]at hj;cases hj
  |some o=>simpa using(Qb.1 ho).1
 have allin:∀VP:Array Bool,VP.size=VS.size->Region.ready .any VS VP=[]->∀j,j<VS.size->VP.getD j false=true:=λVP V8 hr j=>by
  induction j using Nat.strongRecOn with
  |_ j ihj =>
   intro hj
   cases hb:VP.getD j false with
   |true=>rfl
   |false =>
    exfalso
    have hj':j<VP.size:=YA
    have hb':VP.getD j true=false:=by simpa[Array.getD,hj']using hb
    have hoj:VS[j]?=some VS[j]:=QU hj
    have:j∈Region.ready .any VS VP:=mem_ready.2 ⟨hb',_,hoj,λe he hbe=>by
     have hlt:=(hok1 j VS[j] YC).2 e (by simpa using he) hbe
     exact ihj e.on hlt YA⟩
    rw[hr]at this;cases this
 have fin:∀(k:Nat) (p en:List Nat) (F:Ev) (st:St) (VP:Array Bool) (A:Nat->Prop) (m:BM) (w:World) (a:Act),DT P VS.toList ss VC K k p en F st->
   (∀i,Xt i ss=true->VP.getD i false=true->Xt i p=true)->
   (∀t v,look F t=some v->∃j,Zj VS.toList j=some t)->(∀j,j<VS.size->VP.getD j false=true)->R A m w st->Xs A0 m0 nb0 w0 A m st.length w->
   a.tmps.size=n->a.defers=[]->(∀t v,dD VS.toList F VC VP t v->t<n/\V A m st.length w v (a.tmps.getD t undef))->Q .normal a w:=λk p en F st VP A m w a hD hRu hF hall hR hS h1 h2 hI=>by
  cases k with
  |zero =>
   refine hQ a w ⟨A,m,_,st,hR,xl h1 h2 λt v htv=>?_,hS,hD.2.2.2⟩
   rcases xT htv with h|h
   .refine hI t v (.inl ⟨Pb.2 v h,λj hj=>?_⟩);rw[Pb.1 (fx hj)]at h;cases h
   .obtain⟨j,hj⟩:=hF t v h;exact hI t v (.inr ⟨j,hall j (lt_of j t hj),hj,h⟩)
  |succ k =>
   exfalso;have h3:=hD.2.2.1;rw[b8 λs hs=>hRu s hs (hall s (FO s hs))]at h3;cases h3
 intro Fq
 induction Fq with
 |zero =>
  intro k p en F st VP A m w a hD r0 r1 r2 hW hF hL V8 hc hR hS h1 h2 hI
  have hall:∀j,j<VS.size->VP.getD j true=true:=λj hj=>by
   have h0:VP.toList.countP (·==false)=0:=YA
   rw[List.countP_eq_zero]at h0
   have hj':j<VP.size:=YA
   have:=h0 VP[j] YC
   have e:VP.getD j true=VP[j]:=by simp[Array.getD,hj']
   rw[e];simpa using this
  refine⟨?_,fin k p en F st VP A m w a hD r1 hF (λj hj=>?_) hR hS h1 h2 hI⟩;.rw[List.eq_nil_iff_forall_not_mem];intro j hj;obtain⟨h3,o,ho,_⟩:=mem_ready.1 hj;rw[hall j (Yk.1 ho).1]at h3;cases h3
  .have:=hall j hj
   have hj':j<VP.size:=YA
   simpa[Array.getD,hj']using this
 |succ Fq ih =>
  intro k p en F st VP A m w a hD r0 r1 r2 hW hF hL V8 hc hR hS h1 h2 hI;refine⟨λhr=>fin k p en F st VP A m w a hD r1 hF (allin VP V8 hr) hR hS h1 h2 hI,λi hi=>?_⟩;obtain⟨h3,o,ho,hdep⟩:=mem_ready.1 hi;have hil:i<VS.size:=(Yk.1 ho).1
  have hil':i<VP.size:=YA
  have hoL:VS.toList[i]?=some o:=by simpa using ho
  have hdi:Zj VS.toList i=o.dst:=by unfold Zj;rw[hoL];rfl
  have hnl:VP.getD i false=false:=by simpa[Array.getD,hil']using h3
  have hE:Ly A m st.length w n (LL F (ea VS.toList VC i) (Zs VS.toList o.after.toList)) a:=xl h1 h2 λt u htu=>hI t u ((xS htu).imp (λh=>by
    obtain⟨h3,h4⟩:=aK h;refine⟨h3,λj hj=>?_⟩
    cases hl:VP.getD j false with
    |false=>rfl
    |true=>rw[hW j i hl (h4 j hj)]at hnl;cases hnl) λ⟨he,hF⟩=>by
   obtain⟨e,he1,hb,hd⟩:=xF he
   exact⟨e.on,hdep e (by simpa using he1) hb,hd,hF⟩)
  have hcnt:(VP.setIfInBounds i true).toList.countP (·==false)<=Fq:=by
   have hli:VP[i]=false:=by simpa[Array.getD,hil']using h3
   have e1:(VP.setIfInBounds i true).toList=VP.toList.set i true:=YC
   have hlt:i<VP.toList.length:=by simpa using hil'
   have hpos:0<VP.toList.countP (·==false):=List.countP_pos_iff.2 ⟨false,by rw[<-hli];simp,rfl⟩;rw[e1,List.countP_set hlt]
   have e2:VP.toList[i]=false:=by simpa using hli
   have e3:(true==false)=false:=rfl;have e4:(false==false)=true:=rfl;simp only[e2,e3,e4,YQ,JE,YT];omega
  have set_ne:∀j,j≠i->(VP.setIfInBounds i true).getD j false=VP.getD j false:=λj hj=>by
   rw[getD_set_ne false (Ne.symm hj)]
  have set_eq:(VP.setIfInBounds i true).getD i false=true:=by simp[Array.getD,hil']
  have set_up:∀j,VP.getD j false=true->(VP.setIfInBounds i true).getD j false=true:=λj hj=>by
   by_cases h:j=i;.subst h;exact set_eq
   rw[set_ne j h];exact hj
  have hdn:=(hok1 i o hoL).1
  have old:∀(val:Value) (v:AV) (w':World) (A':Nat->Prop) (m':BM) (Fe:Nat) (t:Nat) (u:AV),Xs A m st.length w A' m' Fe w'->V A' m' Fe w' v val->
    dD VS.toList F VC VP t u->(Zj VS.toList i≠some t)->t<n/\V A' m' Fe w' u ((a.put o.dst val).tmps.getD t undef):=λval v w' A' m' Fe t u hS' hV hj hne=>by
   have hE1:Ly A m st.length w n [(t,u)] a:=xl h1 h2 λt' u' h'=>by
    rcases kj h' with ⟨rfl,rfl⟩|h''
    .exact hI _ _ hj
    cases h''
   have hE2:=(hE1.step hR hS').aput hdn hV;refine hE2.val t u ?_
   cases Fj:o.dst with
   |none=>simp[aput,look]
   |some d =>
    have:d≠t:=λe=>hne (by rw[hdi,Fj,e]);simp[aput,look,this]
  have new_:∀(val:Value) (v:AV) (w':World) (A':Nat->Prop) (m':BM) (Fe:Nat) (t:Nat),Xs A m st.length w A' m' Fe w'->V A' m' Fe w' v val->o.dst=some t->t<n/\V A' m' Fe w' v ((a.put o.dst val).tmps.getD t undef):=λval v w' A' m' Fe t hS' hV hd=>by
   have hE0:Ly A m st.length w n [] a:=xl h1 h2 λt' u' (h':none=some u')=>by cases h'
   have hE2:=(hE0.step hR hS').aput hdn hV;exact hE2.val t v (by rw[hd];simp[aput,look])
  unfold wpOp;rw[ho];simp only
  cases his:Xt i ss with
  |true =>
   have hnp:Xt i p=false:=by
    cases h:Xt i p with
    |false=>rfl
    |true=>rw[r0 i h]at hnl;cases hnl
   have hwi:Gg VS.toList ss p en i=true:=by
    unfold Gg;rw[hoL];simp only[Qr,Qv,Qm];intro e he
    cases hb:Region.binds .any e with
    |false=>exact .inl rfl
    |true =>
     refine .inr ?_;have hl:=hdep e (by simpa using he) hb;split;.rename_i hs;exact r1 _ hs hl
     rename_i hs;exact r2 _ hl (by simpa using hs)
   cases k with
   |zero =>
    exfalso;have:=bE hD.2.2.1 i his;rw[hnp]at this;cases this
   |succ k =>
    have Fk:=hD.2.2.2 i his hnp hwi;rw[hoL]at Fk;simp only at Fk;obtain⟨hg,hop⟩:=Fk;rw[Wk hE ((ul _ _ _).trans hg)];simp only[YQ];refine .inl (yh hR hE hop λval w' A' m' VO av k1 k2 k3 ⟨en',new,k4,k5,k6,k7⟩=>?_);have hlk:∀t u,look F t=some u->look (new++F) t=some u:=λt u h=>zHG k4 h;refine ih k (i::p) (en'++en) (new++F) VO _ A' m' w' _ k7 (λj hj=>?_) (λj hj hl=>?_) (λj hl hj=>?_) (λs j hs hw=>?_) (λt v ht=>?_) (λj t hl hj=>?_) (by simpa using V8) hcnt k1 (hS.trans0 (k2.weak (Qg _) |>λh=>h.weak hS.nbLe)) (by cases Fj:o.dst<;>simp[Act.put,h1]) (by cases Fj:o.dst<;>simp[Act.put,h2]) (λt u hJ=>?_)
    .rcases uc.1 hj with rfl|h
     .exact set_eq
     exact set_up j (r0 j h)
    .by_cases h:j=i;.subst h;exact uc.2 (.inl rfl)
     rw[set_ne j h]at hl;exact uc.2 (.inr (r1 j hj hl))
    .by_cases h:j=i;.subst h;rw[his]at hj;cases hj
     rw[set_ne j h]at hl;exact zAJ.2 (.inr (r2 j hl hj))
    .by_cases h:s=i;.subst h;obtain⟨e,he,hb,rfl⟩:=vC hoL hw;exact set_up _ (hdep e (by simpa using he) hb)
     rw[set_ne s h]at hs;exact set_up _ (hW s j hs hw)
    .rcases xT (e:=F) (G:=new) ht with h|h
     .exact hF t v h
     obtain⟨j,_,hj⟩:=uW k5 t (Pc h);exact⟨j,hj⟩
    .by_cases h:j=i;.subst h;rw[hdi]at hj;rw[hj]at k6;exact⟨av,k6⟩
     rw[set_ne j h]at hl;obtain⟨v,hv⟩:=hL j t hl hj;exact⟨v,hlk t v hv⟩
    .rcases hJ with ⟨hJ,hJ2⟩|⟨j,hj1,hj2,hj3⟩
     .have hni:Zj VS.toList i≠some t:=λhd=>by
       have:=hJ2 i hd;rw[set_eq]at this;cases this
      refine old val av w' A' m' VO.length t u k2 k3 (.inl ⟨hJ,λj hj=>?_⟩) hni;have:=hJ2 j hj;by_cases h:j=i;.subst h;exact absurd hj hni
      rwa [set_ne j h]at this
     .by_cases hji:j=i;.subst hji;rw[hdi]at hj2;rw[hj2]at k6;have hu:u=av:=Option.some.inj (hj3.symm.trans k6);subst hu;exact new_ val u w' A' m' VO.length t k2 k3 hj2
      .rw[set_ne j hji]at hj1;obtain⟨v,hv⟩:=hL j t hj1 hj2;have hu:u=v:=Option.some.inj (hj3.symm.trans (hlk t v hv));subst hu;exact old val av w' A' m' VO.length t u k2 k3 (.inr ⟨j,hj1,hj2,hv⟩) λhd=>hji (huniq _ _ _ hj2 hd)
  |false =>
   have hcl:Kw VS.toList ss p en=true:=by cases k<;>exact hD.2.1
   have hpa:U8 P VS.toList VC F st p en:=by cases k<;>exact hD.1
   have hwi:Gg VS.toList ss p en i=true:=by
    unfold Gg;rw[hoL];simp only[Qr,Qv,Qm];intro e he
    cases hb:Region.binds .any e with
    |false=>exact .inl rfl
    |true =>
     refine .inr ?_;have hl:=hdep e (by simpa using he) hb;split;.rename_i hs;exact r1 _ hs hl
     rename_i hs;exact r2 _ hl (by simpa using hs)
   have hen:Xt i en=true:=by
    have:=(Qr.1 hcl) i (Jz.2 (by simpa using hil));rw[his,hwi]at this;simpa using this
   have hpe:OR VS.toList i p=true:=yO λs hs=>by
    cases hw:Hp VS.toList s i with
    |false=>rfl
    |true=>rw[hW s i (r0 s hs) hw]at hnl;cases hnl
   have hat:=hpa.at i hen hpe;unfold UU at hat;rw[hoL]at hat;simp only at hat;obtain⟨v,hv,hop⟩:=hat
   have Fw:∀(val:Value) (w':World) (A':Nat->Prop) (m':BM),R A' m' w' st->Xs A m st.length w A' m' st.length w'->V A' m' st.length w' v val->wpAny P .any VS Q Fq (VP.setIfInBounds i true) (a.put o.dst val) w':=λval w' A' m' hR' hS' hV=>by
    refine ih k p en F st _ A' m' w' _ hD (λj hj=>set_up j (r0 j hj)) (λj hj hl=>?_) (λj hl hj=>?_) (λs j hs hw=>?_) hF (λj t hl hj=>?_) (by simpa using V8) hcnt hR' (hS.trans0 (hS'.weak hS.nbLe)) (by cases Fj:o.dst<;>simp[Act.put,h1]) (by cases Fj:o.dst<;>simp[Act.put,h2]) λt u hJ=>?_
    .by_cases h:j=i;.subst h;rw[his]at hj;cases hj
     rw[set_ne j h]at hl;exact r1 j hj hl
    .by_cases h:j=i;.subst h;exact hen
     rw[set_ne j h]at hl;exact r2 j hl hj
    .by_cases h:s=i;.subst h;obtain⟨e,he,hb,rfl⟩:=vC hoL hw;exact set_up _ (hdep e (by simpa using he) hb)
     rw[set_ne s h]at hs;exact set_up _ (hW s j hs hw)
    .by_cases h:j=i;.subst h;rw[hdi]at hj;rw[hj]at hv;exact⟨v,hv⟩
     rw[set_ne j h]at hl;exact hL j t hl hj
    rcases hJ with ⟨hJ,hJ2⟩|⟨j,hj1,hj2,hj3⟩
    .have hni:Zj VS.toList i≠some t:=λhd=>by
      have:=hJ2 i hd;rw[set_eq]at this;cases this
     refine old val v w' A' m' st.length t u hS' hV (.inl ⟨hJ,λj hj=>?_⟩) hni;have:=hJ2 j hj;by_cases h:j=i;.subst h;exact absurd hj hni
     rwa [set_ne j h]at this
    by_cases hji:j=i;.subst hji;rw[hdi]at hj2;rw[hj2]at hv;have hu:u=v:=Option.some.inj (hj3.symm.trans hv);subst hu;exact new_ val u w' A' m' st.length t hS' hV hj2
    rw[set_ne j hji]at hj1;exact old val v w' A' m' st.length t u hS' hV (.inr ⟨j,hj1,hj2,hj3⟩) λhd=>hji (huniq _ _ _ hj2 hd)
   unfold W1 at hop;split at hop
   .rename_i hg;rw[Wk hE ((ul _ _ _).trans hg)];simp only[YQ];refine .inl (yh hR hE hop λval w' A' m' VO av k1 k2 k3 ⟨k4,k5⟩=>?_);subst k4;subst k5
    exact Fw val w' A' m' k1 k2 k3
   .rename_i hg;rw[Wk hE ((ul _ _ _).trans hg)];simp only[JE,YT];subst hop
    exact Fw undef w A m hR (Xs.refl _ _ _ _) (.imm (.lit _))
   exact hop.elim
def Hn(k:Nat):List Nat->Bool
 |[]=>true
 |x::l=>Nat.blt x k&&Hn k l
theorem wP{k:Nat}:∀{l:List Nat},Hn k l=true->∀s,Xt s l=true->s<k
 |[],_,s,h=>by cases h
 |x::l,h,s,hs=>by
  simp only[Hn,Qd]at h;simp only[Xt,Qv]at hs
  rcases hs with h1|h1
  .rw[<-Qn h1];exact QE h.1
  exact wP h.2 s h1
theorem GH(ss en:List Nat)(F:Ev)(k:Nat)(hm:P.follows .mixedOrders=true)(VW:H3 n VS.toList=true)(FO:Hn VS.size ss=true)(Fx:Kc VS.toList en (Za F)=true)(h:DT P VS.toList ss env (Q .normal) k [] en F st):SW P n nb0 (.region id VS true) Q env st:=by
 intro A m w a h0 hR hE
 have hg:Zb w { w with drawn:=w.drawn+1}:=⟨Qg _,λ_ _=>rfl,rfl,rfl,rfl⟩
 obtain⟨hR1,hS1⟩:=hR.grow' hg;refine wp_region_any hm ?_
 have hf:∀j,(Array.replicate VS.size false).getD j false=false:=λj=>by simp[Array.getD]
 refine cB (n:=n) (nb0:=nb0) (A0:=A) (m0:=m) (w0:=w) (K:=Q .normal) (Q:=λe a' w'=>KN A m nb0 w n (Q e) a' w') VW (wP FO) (λa w h=>h) VS.size k [] en F st _ A m _ a h
  (λi hi=>by cases hi) (λi _ hl=>by rw[hf]at hl;cases hl) (λi hl _=>by rw[hf]at hl;cases hl) (λs i hs _=>by rw[hf]at hs;cases hs) (λt v ht=>?_) (λj t hl _=>by rw[hf]at hl;cases hl) YC ?_ hR1 (hS1.weak h0) hE.size hE.defers ?_
 .obtain⟨j,_,hj⟩:=uW Fx t (Pc ht);exact⟨j,hj⟩
 .refine QK (List.countP_le_length) ?_;simp
 intro t v hJ
 rcases hJ with ⟨hJ,_⟩|⟨j,hj,_⟩
 .exact(hE.step hR hS1).val t v hJ
 rw[hf]at hj;cases hj
theorem rd{y:Code}(E:Ev)(S:St)(ss en:List Nat)(F:Ev)(k:Nat)(hm:P.follows .mixedOrders=true)(VW:H3 n VS.toList=true)(FO:Hn VS.size ss=true)(Fx:Kc VS.toList en (Za F)=true)(h:DT P VS.toList ss env (λenv st=>LN nb0 E S env st) k [] en F st)(hy:SW P n nb0 y Q E S):SW P n nb0 (.seq (.region id VS true) y) Q env st:=
 ze ((GH (Q:=λe env st=>match e with|.normal=>LN nb0 E S env st|_=>False) ss en F k hm VW FO Fx h).mono λe env st h=>by
  cases e with
  |normal=>exact Ba h hy
  |_=>exact h.elim)
theorem fL(E:Ev)(S:St)(ss en:List Nat)(F:Ev)(k:Nat)(hm:P.follows .mixedOrders=true)(VW:H3 n VS.toList=true)(FO:Hn VS.size ss=true)(Fx:Kc VS.toList en (Za F)=true)(h:DT P VS.toList ss env (λenv st=>LN nb0 E S env st) k [] en F st)(hy:Q .normal E S):SW P n nb0 (.region id VS true) Q env st:=by
 intro A m w a h0 hR hE
 refine wp_mono (GH (Q:=λe env st=>match e with|.normal=>LN nb0 E S env st|_=>False) ss en F k hm VW FO Fx h A m w a h0 hR hE) λe a' w' ho=>?_
 obtain⟨A',m',e',s',h1,h2,h3,h4⟩:=ho
 cases e with
 |normal =>
  obtain⟨L,c1,c2,c3,c4,c5⟩:=h4;have hs:=Hi.of c2 c3;exact⟨_,_,E,S,h1.rs hs,h2.rs h1 hs c1,h3.rs hs c4 c5,hy⟩
 |_=>exact h4.elim
section
variable {F:Ev} {p en:List Nat}
theorem qb{K:AV->St->Prop}{t:Nat}(hd:o.dst=some t)(h:F8 P o env st λVN VO=>∃v,VN=(t,v)::env/\K v VO):UN P o.op env st K:=by
 unfold F8 at h;unfold UN;rw[hd]at h
 have e:∀av VO,(∃v,aput (some t) av env=(t,v)::env/\K v VO)->K av VO:=λav VO ⟨v,h1,h2⟩=>by
  have:v=av:=by simp[aput]at h1;exact h1.symm
  subst this;exact h2
 generalize ZW o.op=c at h ⊢
 cases c with
 |true =>
  simp only at h ⊢;generalize KG env o.op=x at h ⊢
  cases x with
  |none=>exact h.elim
  |some y=>exact h.mono e
 |false =>
  simp only at h ⊢;generalize Lh P env st o.op=x at h ⊢
  cases x with
  |none=>exact h.elim
  |some y=>exact e _ _ h
theorem pa{t:Nat}(ho:all[i]?=some o)(hd:o.dst=some t)(hg:o.guard=none)(hv:look F t=some v)(h:F8 P o (LL F (ea all VC i) (Zs all o.after.toList)) st λVN VO=>VN=(t,v)::LL F (ea all VC i) (Zs all o.after.toList)/\VO=st):UU P all VC F st i:=by
 unfold UU;rw[ho];refine⟨v,by rw[hd];exact hv,?_⟩;unfold W1;rw[hg];exact qb hd (h' h)
where
 h' {o:Oper} {t:Nat} {v:AV} {env:Ev} (h:F8 P o env st λVN VO=>VN=(t,v)::env/\VO=st):F8 P o env st λVN VO=>∃u,VN=(t,u)::env/\(u=v/\VO=st):=by
  unfold F8 at h ⊢;generalize ZW o.op=c at h ⊢
  cases c with
  |true =>
   simp only at h ⊢;generalize KG env o.op=x at h ⊢
   cases x with
   |none=>exact h.elim
   |some y=>exact h.mono λav VO ⟨h1,h2⟩=>⟨v,h1,rfl,h2⟩
  |false =>
   simp only at h ⊢;generalize Lh P env st o.op=x at h ⊢
   cases x with
   |none=>exact h.elim
   |some y=>exact⟨v,h.1,rfl,h.2⟩
theorem Le{t:Nat}{b:Bool}(ho:all[i]?=some o)(hd:o.dst=some t)(hg:G1 all o.guard=some (some c,V0))(hc:look (LL F (ea all VC i) (Zs all o.after.toList)) c=some (.lit (.bool b)))(hb:b=V0)(hv:look F t=some v)(h:F8 P o (LL F (ea all VC i) (Zs all o.after.toList)) st λVN VO=>VN=(t,v)::LL F (ea all VC i) (Zs all o.after.toList)/\VO=st):UU P all VC F st i:=by unfold UU;rw[ho];refine⟨v,by rw[hd];exact hv,?_⟩;unfold W1;rw[hg];simp only[Gx,hc,hb,YL];exact qb hd (pa.h' h)
theorem ww{t:Nat}{b:Bool}(ho:all[i]?=some o)(hd:o.dst=some t)(hg:G1 all o.guard=some (some c,V0))(hc:look (LL F (ea all VC i) (Zs all o.after.toList)) c=some (.lit (.bool b)))(hb:b=!V0)(hv:look F t=some (.lit undef)):UU P all VC F st i:=by
 unfold UU;rw[ho];refine⟨.lit undef,by rw[hd];exact hv,?_⟩;unfold W1;rw[hg];simp only[Gx,hc,hb]
 have:((!V0)==V0)=false:=by cases V0<;>rfl
 rw[this];trivial
theorem fN{t:Nat}(ho:all[i]?=some o)(hd:o.dst=some t)(hg:G1 all o.guard=some (some c,V0))(hc:look (LL F (ea all VC i) (Zs all o.after.toList)) c=some (.lit undef))(hv:look F t=some (.lit undef)):UU P all VC F st i:=by unfold UU;rw[ho];refine⟨.lit undef,by rw[hd];exact hv,?_⟩;unfold W1;rw[hg];simp only[Gx,hc,undef]
def j8(P:Program)(all:List Oper)(ss:List Nat)(VC:Ev)(K:Ev->St->Prop)(n:Nat)(p en:List Nat)(F:Ev)(st:St)(s:Nat):Prop:=
 ∃o,all[s]?=some o/\Gx (LL F (ea all VC s) (Zs all o.after.toList)) (G1 all o.guard)=some true/\F8 P o (LL F (ea all VC s) (Zs all o.after.toList)) st λVN VO=>∃av en' new,VN=aput o.dst av (LL F (ea all VC s) (Zs all o.after.toList))/\
  ZH (Za new) F=true/\Kc all ((s::p)++(en'++en)) (Za new)=true/\(match o.dst with|some t=>look (new++F) t=some av|none=>True)/\DT P all ss VC K n (s::p) (en'++en) (new++F) VO
def DW(P:Program)(all:List Oper)(ss:List Nat)(VC:Ev)(K:Ev->St->Prop)(n:Nat)(p en:List Nat)(F:Ev)(st:St):List Nat->Prop
 |[]=>True
 |s::r=>(Xt s p=false->Gg all ss p en s=true->j8 P all ss VC K n p en F st s)/\DW P all ss VC K n p en F st r
theorem DW.at{n:Nat}:∀{l:List Nat},DW P all ss VC K n p en F st l->∀s,Xt s l=true->Xt s p=false->Gg all ss p en s=true->j8 P all ss VC K n p en F st s
 |[],_,s,h=>by cases h
 |x::l,h,s,hs=>by
  simp only[Xt,Qv]at hs
  rcases hs with h1|h1
  .rw[<-Qn h1];exact h.1
  exact DW.at h.2 s h1
theorem wD(h1:U8 P all VC F st p en)(h2:Kw all ss p en=true)(h3:Un p ss=false)(h4:DW P all ss VC K n p en F st ss):DT P all ss VC K (n+1) p en F st:=by
 refine⟨h1,h2,h3,λs a b c=>?_⟩;obtain⟨o,ho,hg,hs⟩:=h4.at s a b c;rw[ho];refine⟨hg,?_⟩;unfold F8 at hs;unfold UN;generalize ZW o.op=cc at hs ⊢
 have e:∀av VO,(∃Fv en' new,aput o.dst av (LL F (ea all VC s) (Zs all o.after.toList))=aput o.dst Fv (LL F (ea all VC s) (Zs all o.after.toList))/\ZH (Za new) F=true/\Kc all ((s::p)++(en'++en)) (Za new)=true/\
   (match o.dst with|some t=>look (new++F) t=some Fv|none=>True)/\DT P all ss VC K n (s::p) (en'++en) (new++F) VO)->
   ∃en' new,ZH (Za new) F=true/\Kc all ((s::p)++(en'++en)) (Za new)=true/\(match o.dst with|some t=>look (new++F) t=some av|none=>True)/\DT P all ss VC K n (s::p) (en'++en) (new++F) VO:=λav VO ⟨Fv,en',new,k1,k2,k3,k4,k5⟩=>by
  refine⟨en',new,k2,k3,?_,k5⟩
  cases hd:o.dst with
  |none=>trivial
  |some t =>
   rw[hd]at k1 k4
   have:av=Fv:=by simpa[aput]using k1
   rw[this];exact k4
 cases cc with
 |true =>
  simp only at hs ⊢;generalize KG (LL F (ea all VC s) (Zs all o.after.toList)) o.op=x at hs ⊢
  cases x with
  |none=>exact hs.elim
  |some y=>exact hs.mono e
 |false =>
  simp only at hs ⊢;generalize Lh P (LL F (ea all VC s) (Zs all o.after.toList)) st o.op=x at hs ⊢
  cases x with
  |none=>exact hs.elim
  |some y=>exact e _ _ hs
theorem wE(h1:U8 P all VC F st p en)(h2:Kw all ss p en=true)(h3:Un p ss=true)(h4:K (F++KJ (K7 all) VC) st):DT P all ss VC K 0 p en F st:=⟨h1,h2,h3,h4⟩
theorem bb(b:Bool):b=true\/b=false:=by cases b<;>simp
theorem fM{c y:Operand}{ty:TypeId}{b:Bool}(hc:ev env c=some (.lit (.bool b)))(hb:b=V0)(h:cond V0 (ev env x) (ev env y)=some v)(k:K ((d,v)::env) st):F8 P ⟨some d,.pick c x y,ty,pos,VU,gu⟩ env st K:=by subst hb;refine X8 rfl ?_ k;cases b<;>simp only[cond]at h<;>simp[Lh,hc,h]
end
theorem cg{b:Bool}(hc:look env c=some (.lit (.bool b)))(hb:b=V0):Gx env (some (some c,V0))=some true:=by simp only[Gx,hc,hb,YL]
abbrev iA(n:Int):AV:=.lit (.int .i64 n)
abbrev bA(b:Bool):AV:=.lit (.bool b)
abbrev sA(l:List UInt8):AV:=.lit (.string (B l))
section
variable {ty:TypeId}
theorem W4{t:TypeId}{y:Operand}{ti:TI}{c c':α}(ht:Xk P t=some ti)(hx:ev env x=some (.mpt b i j))(hb:st[b]?=some (some (sz,l.map f)))(h:l[i]?=some c)(hy:ev env y=some v)(hc:Hu v=some cs)(V8:Nat.beq cs.length ti.size=true)(hj:Nat.ble (j+cs.length) sz=true)(hf:(f c).take j++cs++(f c).drop (j+cs.length)=f c')(k:K env (st.set b (some (sz,(l.set i c').map f)))):F8 P ⟨none,.store t x y,ty,pos,VU,gu⟩ env st K:=by
 refine dj (av:=.lit undef) rfl (VO:=st.set b (some (sz,(l.set i c').map f))) ?_ k;have hi:i<l.length:=(Qb.1 h).1
 have e1:Ku (l.map f) i j cs=(l.set i c').map f:=by
  unfold Ku;rw[Jn,h];simp only[QS];rw[hf,List.map_set]
 have e2:O1 st ti (.mpt b i j) v=some (st.set b (some (sz,(l.set i c').map f))):=by
  simp only[O1,hc,hb];rw[YK ⟨by simpa using hi,QE hj,Qn V8⟩,e1]
 simp[Lh,ht,hx,hy,e2]
end
theorem aV{i:Int}{x c:α}(h:idx l i=some c):idx (l.set j x) i=some (if j=i.toNat then x else c):=by
 obtain⟨h0,h1,h2⟩:=zT h;unfold idx;rw[YK h0,List.getElem?_set];split;.rename_i e;subst e;simp[h1]
 exact h2
theorem qi{ty:TypeId}{t e:TypeId}{y:Operand}{ti:TI}{i:Int}{c:α}(hn:l.length=n)(ht:Xk P t=some ti)(hk:ti.k=.slc e)(he:Xk P e=some te)(hs:te.size=sz)(hx:ev env x=some (.msl b 0 n))(hb:st[b]?=some (some (sz,l.map f)))(hy:ev env y=some (.lit (.int kk i)))(h:idx l i=some c)(k:K ((d,.mpt b i.toNat 0)::env) st):F8 P ⟨some d,.indexAddr t x y,ty,pos,VU,gu⟩ env st K:=by subst hn;exact Ns ht hk he hs hx hb hy h k
variable {a:AV}{F e:Ev}{call:FuncId->Vt->St->Option (AV×St)}{l:List (List UInt8×α)}{row:Vt}{en2 ts:List Nat}{s:List UInt8}{k' m:Operand}{o:Option α}{s':St}{ke ks:TK}{z:α}{r:β}
theorem HX{l l' n':Nat}(e:n'=n)(h:X6 L l=some l'):Rs st L (.msl l i n') (.msl l' i n):=by subst e;exact .msl h
theorem tp{l:List α}(e:l.length=n)(hD:Kj L b=false)(hb:st[b]?=some (some (sz,l.map f)))(h:∀x,Zv (f x)=true):Rs st L (.isl sz (l.map f)) (.msl b 0 n):=by subst e;exact Gu hD hb h
def XE(k:List UInt8):List (List UInt8×α)->Option α
 |[]=>none
 |(a,x)::r=>cond (decide (k=a)) (some x) (XE k r)
def XO(k:List UInt8)(x:α):List (List UInt8×α)->List (List UInt8×α)
 |[]=>[(k,x)]
 |(a,y)::r=>cond (decide (k=a)) ((k,x)::r) ((a,y)::XO k x r)
def F5(g:α->AV)(p:List UInt8×α):Vt:=[.lit (.string (B p.1)),g p.2]
theorem SM{g:α->AV}{k:List UInt8}:∀{l:List (List UInt8×α)} {i:Nat},
  (∀x,XE k l=some x->∃j,Uw k (l.map (F5 g)) i=some (some (i+j,g x))/\j<l.length/\∀y,(XO k y l).map (F5 g)=(l.map (F5 g)).set j [.lit (.string (B k)),g y])/\
  (XE k l=none->Uw k (l.map (F5 g)) i=some none/\∀y,XO k y l=l++[(k,y)])
 |[],i=>⟨λx h=>(by cases h),λ_=>⟨rfl,λy=>rfl⟩⟩
 |(a,z)::r,i=>by
  obtain⟨h1,h2⟩:=SM (g:=g) (k:=k) (l:=r) (i:=i+1);by_cases hd:k=a
  .subst hd;refine⟨λx h=>?_,λh=>?_⟩
   .simp only[XE,decide_true,YF]at h;cases h;refine⟨0,?_,YC,λy=>?_⟩;.show Uw k ([AV.lit (.string (B k)),g z]::_) i=_;unfold Uw;simp
    simp[XO,F5]
   simp[XE]at h
  have e1:Uw k (List.map (F5 g) ((a,z)::r)) i=Uw k (r.map (F5 g)) (i+1):=by
   show Uw k ([AV.lit (.string (B a)),g z]::_) i=_
   conv=>lhs;unfold Uw
   simp[hd]
  have e2:XE k ((a,z)::r)=XE k r:=by simp[XE,hd]
  have e3:∀y,XO k y ((a,z)::r)=(a,z)::XO k y r:=λy=>by simp[XO,hd]
  refine⟨λx h=>?_,λh=>?_⟩;.rw[e2]at h;obtain⟨j,h3,h4,h5⟩:=h1 x h;refine⟨j+1,by rw[e1,h3];congr 3;omega,by simp;omega,λy=>?_⟩;rw[e3,Yq,h5 y];rfl
  rw[e2]at h;obtain⟨h3,h4⟩:=h2 h;exact⟨by rw[e1,h3],λy=>by rw[e3,h4 y];rfl⟩
theorem tB{g:α->AV}{k:List UInt8}{y:α}:CF (B k) (g y) (l.map (F5 g))=some ((XO k y l).map (F5 g)):=by
 unfold CF;have h:=SM (g:=g) (k:=k) (l:=l) (i:=0);rw[show(B k).data.toList=k from rfl]
 cases hg:XE k l with
 |some x =>
  obtain⟨j,h1,_,h2⟩:=h.1 x hg;rw[h1,h2 y];simp
 |none =>
  obtain⟨h1,h2⟩:=h.2 hg;rw[h1,h2 y,Jt];rfl
theorem aj{t e:TypeId}{mv:AV}{g:α->AV}{k:List UInt8}(hm:GU P t=some e)(he:Xk P e=some te)(hr:OS st mv=some (l.map (F5 g)))(hz:OQ te.zero=g z):Bl P st t mv k true=some (.tup [g ((XE k l).getD z),.lit (.bool (XE k l).isSome)]):=by
 unfold Bl;rw[hm];simp only;rw[he,hr];simp only;have h:=SM (g:=g) (k:=k) (l:=l) (i:=0)
 cases hg:XE k l with
 |some x =>
  obtain⟨j,h1,_⟩:=h.1 x hg;rw[h1];rfl
 |none=>rw[(h.2 hg).1,hz];rfl
theorem ak{t e:TypeId}{mv:AV}{g:α->AV}{k:List UInt8}(hm:GU P t=some e)(he:Xk P e=some te)(hr:OS st mv=some (l.map (F5 g)))(hz:OQ te.zero=g z):Bl P st t mv k false=some (g ((XE k l).getD z)):=by
 unfold Bl;rw[hm];simp only;rw[he,hr];simp only;have h:=SM (g:=g) (k:=k) (l:=l) (i:=0)
 cases hg:XE k l with
 |some x =>
  obtain⟨j,h1,_⟩:=h.1 x hg;rw[h1];rfl
 |none=>rw[(h.2 hg).1,hz];rfl
def Xz(k:Nat)(f:α->Vt):Option α->AV
 |none=>.lit (.pointer none)
 |some x=>.ipt k [f x] 0 0
def ZG(o:Option α)(a:β)(b:α->β):β:=match o with|none=>a|some x=>b x
theorem L9{a:β}{b:α->β}(h:ZG none a b=r):a=r:=h
theorem L8{a:β}{x:α}{b:α->β}(h:ZG (some x) a b=r):b x=r:=h
theorem Zo{k:Nat}(h:∀x,Zv (f x)=true):Hg (Xz k f o)=true:=by cases o<;>rfl
theorem Kk{x:AV}{l:Vt}(h:Hg x=true)(hl:Zv l=true):Zv (x::l)=true:=by simp[Zv,h,hl]
theorem xi{l:Vt}(hl:Zv l=true):Hg (.tup l)=true:=hl
section
variable {d:Tmp} {ty:TypeId}
theorem xt{t u e:TypeId}{y:Operand}{ti:TI}{b:Bool}(ht:Xk P t=some ti)(hk:ti.k=.ptr e)(hx:ev env x=some a)(hy:ev env y=some (.lit (.pointer none)))(h1:UM (.ptr e) .eql a (.lit (.pointer none))=none)(h2:RX P t .eql a (.lit (.pointer none))=none)(h:RG (.ptr e) st .eql a (.lit (.pointer none))=some (.lit (.bool b)))(k:K ((d,.lit (.bool b))::env) st):F8 P ⟨some d,.binOp .eql t x y u,ty,pos,VU,gu⟩ env st K:=X8 rfl (by simp only[Lh,ht,hx,hy,hk,h1,h2,h,QS]) k
theorem Mt{t u e:TypeId}{y:Operand}{ti:TI}{b:Bool}(ht:Xk P t=some ti)(hk:ti.k=.ptr e)(hx:ev env x=some a)(hy:ev env y=some (.lit (.pointer none)))(h1:UM (.ptr e) .neq a (.lit (.pointer none))=none)(h2:RX P t .neq a (.lit (.pointer none))=none)(h:RG (.ptr e) st .neq a (.lit (.pointer none))=some (.lit (.bool b)))(k:K ((d,.lit (.bool b))::env) st):F8 P ⟨some d,.binOp .neq t x y u,ty,pos,VU,gu⟩ env st K:=X8 rfl (by simp only[Lh,ht,hx,hy,hk,h1,h2,h,QS]) k
theorem qj{t u e:TypeId}{y:Operand}{ti:TI}{k':Nat}(ht:Xk P t=some ti)(hk:ti.k=.ptr e)(hx:ev env x=some (Xz k' f o))(hy:ev env y=some (.lit (.pointer none)))(k:K ((d,.lit (.bool o.isNone))::env) st):F8 P ⟨some d,.binOp .eql t x y u,ty,pos,VU,gu⟩ env st K:=by
 cases o with
 |none=>exact xt ht hk hx hy rfl rfl rfl k
 |some x=>exact xt ht hk hx hy rfl rfl rfl k
theorem sa{t u e:TypeId}{y:Operand}{ti:TI}{k':Nat}(ht:Xk P t=some ti)(hk:ti.k=.ptr e)(hx:ev env x=some (Xz k' f o))(hy:ev env y=some (.lit (.pointer none)))(k:K ((d,.lit (.bool (!o.isNone)))::env) st):F8 P ⟨some d,.binOp .neq t x y u,ty,pos,VU,gu⟩ env st K:=by
 cases o with
 |none=>exact Mt ht hk hx hy rfl rfl rfl k
 |some x=>exact Mt ht hk hx hy rfl rfl rfl k
theorem wA{t e:TypeId}(nn:Nat)(hm:GU P t=some e)(hn:st.length=nn)(k:K ((d,.mmp nn)::env) (st++[some (2,[])])):F8 P ⟨some d,.makeMap t none,ty,pos,VU,gu⟩ env st K:=X8 rfl (by subst hn;simp only[Lh,hm]) k
theorem MK{t e:TypeId}{v:α}{g:α->AV}(hm:GU P t=some e)(h1:ev env m=some (.mmp b))(h2:ev env k'=some (.lit (.string (B s))))(h3:ev env x=some a)(hv:a=g v)(hb:st[b]?=some (some (2,l.map (F5 g))))(k:K env (st.set b (some (2,(XO s v l).map (F5 g))))):F8 P ⟨none,.mapUpdate t m k' x,ty,pos,VU,gu⟩ env st K:=by subst hv;exact dj (av:=.lit undef) rfl (by simp only[Lh,h1,h2,h3,R7,hm,hb,tB,QS]) k
theorem RA{t e:TypeId}{mv:AV}{g:α->AV}(hm:GU P t=some e)(he:Xk P e=some te)(h1:ev env m=some mv)(h2:ev env k'=some (.lit (.string (B s))))(hr:OS st mv=some (l.map (F5 g)))(hz:OQ te.zero=g z)(k:K ((d,.tup [g ((XE s l).getD z),.lit (.bool (XE s l).isSome)])::env) st):F8 P ⟨some d,.lookup t m k' true,ty,pos,VU,gu⟩ env st K:=X8 rfl (by simp only[Lh,h1,h2];rw[aj hm he hr hz];rfl) k
theorem CG{t e:TypeId}{mv:AV}{g:α->AV}(hm:GU P t=some e)(he:Xk P e=some te)(h1:ev env m=some mv)(h2:ev env k'=some (.lit (.string (B s))))(hr:OS st mv=some (l.map (F5 g)))(hz:OQ te.zero=g z)(k:K ((d,g ((XE s l).getD z))::env) st):F8 P ⟨some d,.lookup t m k' false,ty,pos,VU,gu⟩ env st K:=X8 rfl (by simp only[Lh,h1,h2];rw[ak hm he hr hz];rfl) k
theorem zF0{g:α->AV}(hD:Kj L b=false)(hb:st[b]?=some (some (2,l.map (F5 g))))(h:∀x,Zv (F5 g x)=true):Rs st L (.imp (l.map (F5 g))) (.mmp b):=
 .sm hD hb rfl (λr hr x hx=>by obtain⟨y,_,rfl⟩:=QP.1 hr;exact(UD (h y)).mem x hx) (λq _ _=>rfl) (λq h1 h2 j h3 h4=>by
  refine .imm ?_;obtain⟨y,_,hy⟩:=QP.1 (Qj h2);have h6:=(UD (h y)).mem;rw[hy]at h6
  exact h6 _ (Qj h4))
theorem Ee{g:α->AV}(hb:st[b]?=some (some (2,l.map (F5 g))))(h:∀x,Zv (F5 g x)=true):Zy st (.mmp b) (.imp (l.map (F5 g))):=
 .mmp hb rfl (λq _ _=>rfl) (λq h1 h2 j h3 h4=>by
  refine .imm ?_;obtain⟨y,_,hy⟩:=QP.1 (Qj h2);have h6:=(UD (h y)).mem;rw[hy]at h6
  exact h6 _ (Qj h4))
theorem fK{k:Nat}{x:α}(hD:Kj L b=false)(hb:st[b]?=some (some (k,[row])))(h:Uv st L (f x) row)(hi:Zv (f x)=true):Rs st L (Xz k f (some x)) (.mpt b 0 0):=
 .slp hD hb rfl (λr hr y hy=>by obtain rfl:=QC.1 hr;exact(UD hi).mem y hy) (λq h1 h2=>by
  have:q=0:=by simpa using h1
  subst this;exact h.get.1.symm) (λq h1 h2 j h3 h4=>by
  have:q=0:=by simpa using h1
  subst this;exact h.get.2 j h4 h3)
theorem fdV{t:TypeId}{f:Nat}(hx:ev env x=some a)(h:xw P t f a=some v)(k:K ((d,v)::env) st):F8 P ⟨some d,.field t x f,ty,pos,VU,gu⟩ env st K:=X8 rfl (by simp only[Lh,hx,h,QS]) k
def Mj(w:Nat)(n:Int):Option Nat:=if 0<=n/\n<=16777216/\(w:Int)*n<=281474976710656 then some n.toNat else none
theorem wB{t e:TypeId}{y:Operand}{ti:TI}{kl kc:IntKind}{n:Int}{N w:Nat}(nn:Nat)(ht:Xk P t=some ti)(hk:ti.k=.slc e)(he:Xk P e=some te)(hs:te.size=1)(hw:te.bytes=w)(hx:ev env x=some (.lit (.int kl n)))(hy:ev env y=some (.lit (.int kc n)))(hz:Zm te.zero=f z)(hn:st.length=nn)(h:Mj w n=some N)(k:K ((d,.msl nn 0 (List.length (List.replicate N z)))::env) (st++[some (1,(List.replicate N z).map f)])):F8 P ⟨some d,.makeSlice t x y,ty,pos,VU,gu⟩ env st K:=by
 unfold Mj at h;split at h;.rename_i hc;cases h;refine X8 rfl ?_ k;subst hn;subst hw;simp only[Lh,hx,hy,C3,ht,hk,he];rw[YK ⟨trivial,hc.1,YA,by rw[hs];omega,hc.2.2⟩,hz,hs];simp
 cases h
theorem wz{y:Operand}{kk':IntKind}{a b:Int}{ats:Array TypeId}(hx:ev env x=some (.lit (.int kk a)))(hy:ev env y=some (.lit (.int kk' b)))(k:K ((d,.lit (.int kk (if b<a then b else a)))::env) st):
  F8 P ⟨some d,.call { callee:=.builtin .min,args:=#[x,y],argTypes:=ats},ty,pos,VU,gu⟩ env st K:=
 X8 rfl (by simp[Lh,HE,xf,hx,hy]) k
end
section
variable {X Y:Type}
def DL(F:(X->Option Y)->X->Option Y):Nat->X->Option Y
 |0,_=>none
 |n+1,x=>F (DL F n) x
open Classical in
def qe(F:(X->Option Y)->X->Option Y)(x:X):Option Y:=if h:∃n y,DL F n x=some y then some h.choose_spec.choose else none
def OH(F:(X->Option Y)->X->Option Y)(x:X):Option Y:=
 match DL F 30 x with
 |some y=>some y
 |none=>qe F x
theorem tt{F:(X->Option Y)->X->Option Y}{x:X}{y:Y}(h:OH F x=some y):∃n,DL F n x=some y:=by
 unfold OH at h;split at h;.rename_i z h0;cases h;exact⟨_,h0⟩
 unfold qe at h;split at h;.rename_i hex;cases h;exact⟨_,hex.choose_spec.choose_spec⟩
 cases h
theorem yL{F:(X->Option Y)->X->Option Y}{Q:X->Y->Prop}(h:∀v,(∀x y,v x=some y->Q x y)->∀x y,F v x=some y->Q x y){x:X}{y:Y}(hr:OH F x=some y):Q x y:=by
 obtain⟨n,hn⟩:=tt hr
 have key:∀n x y,DL F n x=some y->Q x y:=by
  intro n
  induction n with
  |zero=>intro x y h;cases h
  |succ n ih=>intro x y h1;exact h _ ih x y h1
 exact key n x y hn
end
def Hc:List Nat->Ev->Ev
 |_,[]=>[]
 |s,(t,v)::r=>match Xt t s with|true=>Hc s r|false=>(t,v)::Hc (t::s) r
theorem N3:∀{s:List Nat} {e:Ev} {t:Nat} {v:AV},look (Hc s e) t=some v->Xt t s=false/\look e t=some v
 |_,[],t,v,h=>by cases h
 |s,(k,x)::r,t,v,h=>by
  unfold Hc at h;simp only[look]
  cases hm:Xt k s with
  |true =>
   rw[hm]at h;obtain⟨h1,h2⟩:=N3 h;refine⟨h1,?_⟩;split;.rename_i e;subst e;rw[hm]at h1;cases h1
   .exact h2
  |false =>
   rw[hm]at h;simp only[look]at h;split at h;.rename_i e;subst e;cases h;exact⟨hm,by rw[YK rfl]⟩
   rename_i e;obtain⟨h1,h2⟩:=N3 h;simp only[Xt,Qh]at h1;exact⟨h1.2,by rw[YM e];exact h2⟩
mutual
def CZ:AV->List Nat->List Nat
 |.msl l _ _,a=>l::a
 |.mpt l _ _,a=>l::a
 |.mmp l,a=>l::a
 |.agg cs,a=>zDJ cs a
 |.tup cs,a=>zDJ cs a
 |.fn _ x y,a=>zDJ x (zDJ y a:_)
 |_,a=>a
def zDJ:Vt->List Nat->List Nat
 |[],a=>a
 |x::l,a=>CZ x (zDJ l a:_)
end
def qq:Ev->List Nat->List Nat
 |[],a=>a
 |(_,v)::r,a=>CZ v (qq r a)
def qp:List (Vt)->List Nat->List Nat
 |[],a=>a
 |x::l,a=>zDJ x (qp l a)
def Ni(st:St):Nat->List Nat->List Nat->List Nat
 |0,_,Xc=>Xc
 |_+1,[],Xc=>Xc
 |n+1,l::r,Xc =>
  match Xt l Xc with
  |true=>Ni st n r Xc
  |false=>match st[l]? with|some (some (_,els))=>Ni st n (qp els r) (l::Xc)|_=>Ni st n r (l::Xc)
def Nk(st:St)(nb0:Nat)(Xc:List Nat):Nat->St->Xv
 |_,[]=>[]
 |i,none::r=>match Nat.blt i nb0 with|true=>.dead::Nk st nb0 Xc (i+1) r|false=>Nk st nb0 Xc (i+1) r
 |i,some _::r=>match Nat.blt i nb0||Xt i Xc with|true=>.old i::Nk st nb0 Xc (i+1) r|false=>Nk st nb0 Xc (i+1) r
def DS(x:Nat):Nat->Xv->Option Nat
 |_,[]=>none
 |i,.old y::r=>match Nat.beq y x with|true=>some i|false=>DS x (i+1) r
 |i,_::r=>DS x (i+1) r
theorem Si{x:Nat}:∀{L:Xv} {i l:Nat},DS x i L=some l->i<=l/\L[l-i]?=some (.old x)
 |[],i,l,h=>by cases h
 |.old y::r,i,l,h=>by
  unfold DS at h;split at h;.rename_i hy;cases h;rw[Qn hy];exact⟨Qg _,YC⟩
  .obtain⟨h1,h2⟩:=Si h;refine⟨YA,?_⟩;rw[show l-i=(l-(i+1))+1 by omega];simpa using h2
 |.dead::r,i,l,h=>by
  obtain⟨h1,h2⟩:=Si (L:=r) h;refine⟨YA,?_⟩;rw[show l-i=(l-(i+1))+1 by omega];simpa using h2
 |.fresh k::r,i,l,h=>by
  obtain⟨h1,h2⟩:=Si (L:=r) h;refine⟨YA,?_⟩;rw[show l-i=(l-(i+1))+1 by omega];simpa using h2
theorem xZ{x:Nat}{l:Nat}(h:DS x 0 L=some l):X6 L l=some x:=by have:=(Si h).2;unfold X6;rw[Nat.sub_zero]at this;rw[this]
mutual
def L3(L:Xv):AV->Option AV
 |.msl l i n=>match DS l 0 L with|some q=>some (.msl q i n)|none=>some .any
 |.mpt l i j=>match DS l 0 L with|some q=>some (.mpt q i j)|none=>some .any
 |.mmp l=>match DS l 0 L with|some q=>some (.mmp q)|none=>some .any
 |.imp e=>some (.imp e)
 |.agg cs=>match tnL L cs with|some r=>some (.agg r)|none=>none
 |.tup cs=>match tnL L cs with|some r=>some (.tup r)|none=>none
 |.fn f a b=>match tnL L a,tnL L b with|some x,some y=>some (.fn f x y)|_,_=>none
 |.any=>some .any
 |.lit v=>some (.lit v)
 |.isl k e=>some (.isl k e)
 |.ipt k e i j=>some (.ipt k e i j)
def tnL(L:Xv):Vt->Option (Vt)
 |[]=>some []
 |x::l=>match L3 L x,tnL L l with|some y,some r=>some (y::r)|_,_=>none
end
mutual
theorem dI{st:St}{L:Xv}:∀{x y:AV},L3 L x=some y->Rs st L y x
 |.msl l i n,y,h=>by
  unfold L3 at h;split at h;.rename_i q hq;cases h;exact .msl (xZ hq)
  .cases h;exact .any _
 |.mpt l i j,y,h=>by
  unfold L3 at h;split at h;.rename_i q hq;cases h;exact .mpt (xZ hq)
  .cases h;exact .any _
 |.mmp l,y,h=>by
  unfold L3 at h;split at h;.rename_i q hq;cases h;exact .mmp (xZ hq)
  .cases h;exact .any _
 |.imp e,y,h=>by unfold L3 at h;cases h;exact .imm (.imp _)
 |.agg cs,y,h=>by
  unfold L3 at h;split at h;.rename_i q hq;cases h;exact dx (OV hq)
  .cases h
 |.tup cs,y,h=>by
  unfold L3 at h;split at h;.rename_i q hq;cases h;exact RM (OV hq)
  .cases h
 |.fn f a b,y,h=>by
  unfold L3 at h;split at h;.rename_i q1 q2 hq1 hq2;cases h;exact rJ (OV hq1) (OV hq2)
  .cases h
 |.any,y,h=>by unfold L3 at h;cases h;exact .any _
 |.lit v,y,h=>by unfold L3 at h;cases h;exact .imm (.lit _)
 |.isl k e,y,h=>by unfold L3 at h;cases h;exact .imm (.isl _ _)
 |.ipt k e i j,y,h=>by unfold L3 at h;cases h;exact .imm (.ipt _ _ _ _)
theorem OV{st:St}{L:Xv}:∀{x y:Vt},tnL L x=some y->Uv st L y x
 |[],y,h=>by unfold tnL at h;cases h;trivial
 |x::l,y,h=>by
  unfold tnL at h;split at h;.rename_i a b ha hb;cases h;exact⟨dI ha,OV hb⟩
  cases h
end
def RR(L:Xv):List (Vt)->Option (List (Vt))
 |[]=>some []
 |x::l=>match tnL L x,RR L l with|some y,some r=>some (y::r)|_,_=>none
theorem qH{st:St}{L:Xv}:∀{x y:List (Vt)},RR L x=some y->wk st L y x
 |[],y,h=>by unfold RR at h;cases h;trivial
 |x::l,y,h=>by
  unfold RR at h;split at h;.rename_i a b ha hb;cases h;exact⟨OV ha,qH hb⟩
  cases h
def Np(L:Xv):Ev->Option Ev
 |[]=>some []
 |(t,x)::l=>match L3 L x,Np L l with|some y,some r=>some ((t,y)::r)|_,_=>none
def L4(L:Xv)(st:St):Xv->Option St
 |[]=>some []
 |.dead::r=>match L4 L st r with|some s=>some (none::s)|none=>none
 |.fresh _::_=>none
 |.old x::r=>match st[x]? with|some (some (k,els))=>(match RR L els,L4 L st r with|some e,some s=>some (some (k,e)::s)|_,_=>none)|_=>none
theorem NF{L:Xv}{st:St}:∀{r:Xv} {s:St},L4 L st r=some s->Kd st L r s
 |[],s,h=>by unfold L4 at h;cases h;trivial
 |.dead::r,s,h=>by
  unfold L4 at h;split at h;.rename_i q hq;cases h;exact NF (r:=r) hq
  .cases h
 |.fresh _::r,s,h=>by unfold L4 at h;cases h
 |.old x::r,s,h=>by
  unfold L4 at h;split at h
  .rename_i k els hx;split at h;.rename_i e s' he hs;cases h;exact⟨⟨els,hx,C4 (qH he)⟩,NF hs⟩
   cases h
  cases h
def dY(st:St):Nat:=64*st.length+4096
def db(nb0:Nat)(env:Ev)(st:St):Option (Ev×St):=
 let e:=Hc [] env
 let L:=Nk st nb0 (Ni st (dY st) (qq e (List.range nb0)) []) 0 st
 match UQ L&&Hh nb0 L&&Nat.ble nb0 L.length with
 |true=>match Np L e,L4 L st L with|some e',some s'=>some (e',s')|_,_=>none
 |false=>none
theorem NO{L:Xv}{st:St}:∀{r:Xv} {s:St},L4 L st r=some s->s.length=r.length
 |[],s,h=>by unfold L4 at h;cases h;rfl
 |.dead::r,s,h=>by
  unfold L4 at h;split at h;.rename_i q hq;cases h;simp[NO (r:=r) hq]
  .cases h
 |.fresh _::r,s,h=>by unfold L4 at h;cases h
 |.old x::r,s,h=>by
  unfold L4 at h;split at h
  .split at h
   .rename_i e s' he hs;cases h;simp[NO hs]
   cases h
  cases h
def Hm:Ev->Bool
 |[]=>true
 |(t,_)::r=>!Xt t (Za r)&&Hm r
theorem R8:∀{e:Ev} {u:Nat},Xt u (Za e)=true->∃v,look e u=some v
 |[],u,h=>by cases h
 |(k,x)::r,u,h=>by
  simp only[look];split;.exact⟨_,rfl⟩
  rename_i hne;simp only[Za,Xt,Qv]at h
  rcases h with h|h
  .exact absurd (Qn h) hne
  exact R8 h
theorem dJ{st:St}{L:Xv}:∀{e e':Ev},Np L e=some e'->∀{E:Ev},(∀t v,look e t=some v->look E t=some v)->(∀t,Xt t (Za e)=true->∃v,look e t=some v)->Hm e=true->Uo st L e' E
 |[],e',h,E,_,_,_=>by unfold Np at h;cases h;trivial
 |(t,x)::l,e',h,E,hE,hk,ho=>by
  unfold Np at h;split at h
  .rename_i y r hy hr;cases h;simp only[Hm,Qd,Qm]at ho;refine⟨⟨x,hE t x (by simp[look]),dI hy⟩,dJ hr (λu v hu=>hE u v ?_) (λu hu=>?_) ho.2⟩
   .simp only[look];split;.rename_i e;subst e;exact absurd (G3.2 (Pc hu)) (by rw[ho.1];decide)
    exact hu
   exact R8 hu
  cases h
theorem SF:∀{s:List Nat} {e:Ev},Hm (Hc s e)=true/\∀t,Xt t (Za (Hc s e))=true->Xt t s=false
 |s,[]=>⟨rfl,λt h=>by cases h⟩
 |s,(k,x)::r=>by
  unfold Hc
  cases hm:Xt k s with
  |true=>exact SF (s:=s) (e:=r)
  |false =>
   obtain⟨h1,h2⟩:=SF (s:=k::s) (e:=r);refine⟨?_,λt ht=>?_⟩
   .simp only[Hm,h1,Ys,Qm]
    cases hk:Xt k (Za (Hc (k::s) r))with
    |false=>rfl
    |true=>have:=h2 k hk;simp[Xt]at this
   simp only[Za,Xt,Qv]at ht
   rcases ht with ht|ht
   .rw[<-Qn ht];exact hm
   have:=h2 t ht;simp only[Xt,Qh]at this;exact this.2
theorem ca{e':Ev}(h:db nb0 env st=some (e',s')):LN nb0 e' s' env st:=by
 unfold db at h;simp only at h;split at h
 .rename_i hc;simp only[Qd]at hc;split at h;.rename_i a b ha hb;cases h;refine⟨_,dJ ha (λt v ht=>(N3 ht).2) (λt ht=>R8 ht) SF.1,hc.1.1,NF hb,hc.1.2,?_⟩;rw[NO hb];exact QE hc.2
  cases h
 cases h
def Nf(nb0:Nat)(av:AV)(st:St):Option (AV×St):=
 let L:=Nk st nb0 (Ni st (dY st) (CZ av (List.range nb0)) []) 0 st
 match UQ L&&Hh nb0 L&&Nat.ble nb0 L.length with
 |true=>match L3 L av,L4 L st L with|some e',some s'=>some (e',s')|_,_=>none
 |false=>none
theorem zGt{av':AV}(h:Nf nb0 av st=some (av',s')):RJ nb0 av' s' av st:=by
 unfold Nf at h;simp only at h;split at h
 .rename_i hc;simp only[Qd]at hc;split at h;.rename_i a b ha hb;cases h;refine⟨_,dI ha,hc.1.1,NF hb,hc.1.2,?_⟩;rw[NO hb];exact QE hc.2
  cases h
 cases h
section
variable (P:Program) (call:FuncId->Vt->St->Option (AV×St))
def Nq(o:Op)(env:Ev)(st:St):Option (AV×St):=
 match ZW o with
 |true=>match KG env o with|some (g,args)=>call g args st|none=>none
 |false=>Lh P env st o
def M3(all:List Oper):List Oper->Ev->St->Option (Ev×St)
 |[],env,st=>some (env,st)
 |o::Fi,env,st =>
  match ZQ all env o with
  |some true=>match Nq P call o.op env st with|some (av,VO)=>M3 all Fi (aput o.dst av env) VO|none=>none
  |some false=>M3 all Fi (aput o.dst (.lit undef) env) st
  |none=>none
def Bf:Prop:=∀g args st av VO,call g args st=some (av,VO)->US P g args st λa s=>a=av/\s=VO
end
section
variable (hc:Bf P call)
include hc
theorem qu{o:Op}(h:Nq P call o env st=some (av,VO)):UN P o env st λa s=>a=av/\s=VO:=by
 unfold Nq at h;unfold UN;split at h
 .rename_i hi
  try rw[hi]
  try simp only
  split at h
  .rename_i g args ha
   try rw[ha]
   exact hc _ _ _ _ _ h
  cases h
 rename_i hi
 try rw[hi]
 try simp only
 rw[h];exact⟨rfl,rfl⟩
theorem rT{o:Oper}(h:Nq P call o.op env st=some (av,VO))(k:K (aput o.dst av env) VO):F8 P o env st K:=by
 have h2:=qu hc h;unfold UN at h2;unfold F8;split at h2
 .rename_i hi
  try rw[hi]
  try simp only
  split at h2
  .rename_i g args ha
   try rw[ha]
   exact h2.mono λa s ⟨e1,e2⟩=>by rw[e1,e2];exact k
  exact h2.elim
 rename_i hi
 try rw[hi]
 try simp only
 split at h2
 .rename_i a s ha
  try rw[ha]
  obtain⟨e1,e2⟩:=h2
  try simp only
  rw[e1,e2];exact k
 exact h2.elim
theorem dR{all:List Oper}{K:Ev->St->Prop}:∀{l:List Oper} {env:Ev} {st:St} {VN:Ev} {VO:St},M3 P call all l env st=some (VN,VO)->K VN VO->OK P all l env st K
 |[],env,st,VN,VO,h,k=>by unfold M3 at h;cases h;exact k
 |o::Fi,env,st,VN,VO,h,k=>by
  unfold M3 at h;unfold OK;split at h
  .rename_i hg
   try rw[hg]
   try simp only
   split at h
   .rename_i av s1 ho;exact rT hc ho (dR h k)
   cases h
  .rename_i hg
   try rw[hg]
   exact dR h k
  cases h
end
def xa(P:Program):Op->Bool
 |.call c=>match c.callee with|.builtin .len=>false|_=>true
 |.convert _ d _=>match Xk P d with|some ti=>(match ti.k with|.int _=>false|.str=>false|_=>true)|none=>true
 |.slice _ _ _ _ mx=>mx.isSome
 |.move _|.assign _|.pick .. |.binOp .. |.unOp .. |.extract .. |.load .. |.fieldAddr .. |.indexAddr .. |.index .. |.build .. |.nilCheck .. |.makeFunc .. |.lookup .. |.field ..=>false
 |_=>true
theorem UG{x:Option α}{f:α->AV×St}(hf:∀a,(f a).2=st)(h:x.map f=some (av,VO)):VO=st:=by
 cases x with
 |none=>cases h
 |some a =>
  have h1:f a=(av,VO):=sm h;rw[<-hf a,h1]
def dk:Value->Value->Bool
 |.int k n,.int k' n'=>decide (k=k')&&decide (n=n')
 |.bool a,.bool b=>a==b
 |.string a,.string b=>decide (a.data.toList=b.data.toList)
 |.slice none 0 0,.slice none 0 0=>true
 |.pointer none,.pointer none=>true
 |.tuple a,.tuple b=>a.size==0&&b.size==0
 |_,_=>false
mutual
def LS:AV->AV->Bool
 |.lit a,.lit b=>dk a b
 |.msl a b c,.msl a' b' c'=>Nat.beq a a'&&(Nat.beq b b'&&Nat.beq c c')
 |.mpt a b c,.mpt a' b' c'=>Nat.beq a a'&&(Nat.beq b b'&&Nat.beq c c')
 |.mmp l,.mmp r=>Nat.beq l r
 |.agg l,.agg r=>HY l r
 |.tup l,.tup r=>HY l r
 |.fn (.func f) a b,.fn (.func g) c d=>Nat.beq f g&&(HY a c&&HY b d)
 |_,_=>false
def HY:Vt->Vt->Bool
 |[],[]=>true
 |x::l,y::r=>LS x y&&HY l r
 |_,_=>false
end
theorem aR{a b:Value}(h:dk a b=true):a=b:=by
 unfold dk at h;split at h;.simp only[Qd,YJ]at h;rw[h.1,h.2]
 .rw[YP h]
 .rename_i a b
  have h1:a.data.toList=b.data.toList:=by simpa using h
  obtain⟨⟨l⟩⟩:=a;obtain⟨⟨r⟩⟩:=b;have h2:l=r:=h1;rw[h2]
 .rfl
 .rfl
 .rename_i a b;simp only[Qd,YN]at h;rw[J7 h.1,J7 h.2]
 cases h
mutual
theorem dW:∀{a b:AV},LS a b=true->a=b
 |.lit a,b,h=>by
  cases b with
  |lit c=>unfold LS at h;rw[aR h]
  |_=>unfold LS at h;cases h
 |.msl l i n,b,h=>by
  cases b with
  |msl l' i' n' =>
   unfold LS at h;simp only[Qd]at h;rw[Qn h.1,Qn h.2.1,Qn h.2.2]
  |_=>unfold LS at h;cases h
 |.mpt l i n,b,h=>by
  cases b with
  |mpt l' i' n' =>
   unfold LS at h;simp only[Qd]at h;rw[Qn h.1,Qn h.2.1,Qn h.2.2]
  |_=>unfold LS at h;cases h
 |.agg l,b,h=>by
  cases b with
  |agg r=>unfold LS at h;rw[Eb h]
  |_=>unfold LS at h;cases h
 |.tup l,b,h=>by
  cases b with
  |tup r=>unfold LS at h;rw[Eb h]
  |_=>unfold LS at h;cases h
 |.mmp l,b,h=>by
  cases b with
  |mmp r=>unfold LS at h;rw[Qn h]
  |_=>unfold LS at h;cases h
 |.imp _,b,h=>by unfold LS at h;cases h
 |.any,b,h=>by unfold LS at h;cases h
 |.isl _ _,b,h=>by unfold LS at h;cases h
 |.ipt _ _ _ _,b,h=>by unfold LS at h;cases h
 |.fn f x y,b,h=>by
  cases b with
  |fn g u v =>
   cases f with
   |func n =>
    cases g with
    |func n' =>
     unfold LS at h;simp only[Qd]at h;rw[Qn h.1,Eb h.2.1,Eb h.2.2]
    |_=>unfold LS at h;cases h
   |_=>unfold LS at h;cases h
  |_=>cases f<;>unfold LS at h<;>cases h
theorem Eb:∀{a b:Vt},HY a b=true->a=b
 |[],[],_=>rfl
 |x::l,y::r,h=>by
  unfold HY at h;simp only[Qd]at h;rw[dW h.1,Eb h.2]
 |[],_::_,h=>by unfold HY at h;cases h
 |_::_,[],h=>by unfold HY at h;cases h
end
theorem zAh{kd:TK}{x:AV}(hk:(match kd with|.int _=>false|.str=>false|_=>true)=false)(h:RP st ks kd ke x=some (av,VO)):VO=st:=by
 unfold RP at h;split at h;.cases h;rfl
 .split at h
  .cases h;rfl
  cases h
 .split at h
  .split at h
   .exact UG (λ_=>rfl) h
   cases h
  cases h
 .cases hk
 cases h
theorem zCQ{b:Bool}{x:AV}(h:OJ st b ks ke x=some (av,VO)):VO=st:=by
 unfold OJ at h;split at h
 .split at h
  .split at h
   .cases h;rfl
   cases h
  cases h
 cases h
section
variable (P:Program) (call:FuncId->Vt->St->Option (AV×St))
def Xc(all:List Oper)(VC F:Ev)(i:Nat)(o:Oper):Ev:=LL F (ea all VC i) (Zs all o.after.toList)
def CD(all:List Oper)(VC F:Ev)(st:St)(i:Nat)(o:Oper):Option AV:=
 match Gx (Xc all VC F i o) (G1 all o.guard)with
 |some true=>match xa P o.op with|true=>none|false=>(match ZW o.op with|true=>none|false=>(match Lh P (Xc all VC F i o) st o.op with|some r=>some r.1|none=>none))
 |some false=>some (.lit undef)
 |none=>none
def xd(all:List Oper)(ss p:List Nat)(VC:Ev)(st:St)(en:List Nat)(F:Ev):List Oper->Nat->List Nat->Ev->Option (List Nat×Ev)
 |[],_,en',X=>some (en',X)
 |o::r,i,en',X =>
  match Xt i ss||Xt i en||!Gg all ss p (en'++en) i with
  |true=>xd all ss p VC st en F r (i+1) en' X
  |false =>
   match CD P all VC (X++F) st i o with
   |some v=>xd all ss p VC st en F r (i+1) (i::en') (aput o.dst v X)
   |none=>none
def OI(all:List Oper)(VC F:Ev)(st:St)(p:List Nat):List Nat->Bool
  |[]=>true
  |i::r =>
    (match OR all i p with
     |false=>true
     |true =>
       match all[i]? with
       |some o=>(match CD P all VC F st i o with|some v=>(match o.dst with|some t=>(match look F t with|some u=>LS u v|none=>false)|none=>true)|none=>false)
       |none=>false)&&OI all VC F st p r
def CT(all:List Oper)(ss p en:List Nat)(s:Nat):List Nat->Bool
 |[]=>true
 |x::r=>(Nat.beq x s||(Xt x p||!Gg all ss p en x))&&CT all ss p en s r
def dP(all:List Oper)(ss p en:List Nat):List Nat->Option Nat
 |[]=>none
 |x::r=>match Xt x p||!Gg all ss p en x with|true=>dP all ss p en r|false=>some x
def NG(all:List Oper)(ss:List Nat)(VC:Ev)(p en:List Nat)(F:Ev)(st:St)(s:Nat):Option (List Nat×Ev×St):=
 match all[s]? with
 |some o =>
  match Gx (Xc all VC F s o) (G1 all o.guard),Nq P call o.op (Xc all VC F s o) st with
  |some true,some (av,VO)=>
   match xd P all ss (s::p) VC VO en (aput o.dst av F) all 0 [] []with
   |some (en',X)=>
    match ZH (Za (X++aput o.dst av [])) F&&(Kc all ((s::p)++(en'++en)) (Za (X++aput o.dst av []))&&(match o.dst with|some t=>!Xt t (Za X)|none=>true))with
    |true=>some (en'++en,(X++aput o.dst av [])++F,VO)
    |false=>none
   |none=>none
  |_,_=>none
 |none=>none
def RS(all:List Oper)(ss:List Nat)(VC:Ev):Nat->List Nat->List Nat->Ev->St->Option (Ev×St)
 |0,p,en,F,st =>
  match OI P all VC F st p en&&(Kw all ss p en&&Un p ss)with
  |true=>some (F++KJ (K7 all) VC,st)
  |false=>none
 |n+1,p,en,F,st =>
  match OI P all VC F st p en&&(Kw all ss p en&&!Un p ss)with
  |true =>
   match dP all ss p en ss with
   |some s =>
    match CT all ss p en s ss with
    |true =>
     match NG P call all ss VC p en F st s with
     |some (en2,F2,st2)=>RS all ss VC n (s::p) en2 F2 st2
     |none=>none
    |false=>none
   |none=>none
  |false=>none
def ql(all:List Oper)(ss:List Nat)(VC:Ev):Nat->List Nat->List Nat->Ev->St->Option (Ev×St)
 |0,p,en,F,st=>some (F++KJ (K7 all) VC,st)
 |n+1,p,en,F,st =>
  match dP all ss p en ss with
  |some s =>
   match NG P call all ss VC p en F st s with
   |some (en2,F2,st2)=>ql all ss VC n (s::p) en2 F2 st2
   |none=>none
  |none=>none
def we(k:Nat):List Nat->List Nat->Xv
 |[],_=>[]
 |x::r,done=>match Nat.blt x k||Xt x done with|true=>we k r done|false=>.old x::we k r (x::done)
def dN:Nat->Nat->St->Xv
 |0,_,_=>[]
 |_+1,_,[]=>[]
 |n+1,i,none::r=>.dead::dN n (i+1) r
 |n+1,i,some _::r=>.old i::dN n (i+1) r
def Sf(env:Ev):List Nat->List Nat->List Nat
 |[],a=>a
 |t::r,a=>match look env t with|some v=>CZ v (Sf env r a)|none=>Sf env r a
def CQ(nb0 k:Nat)(ts:List Nat)(env:Ev)(st:St):Option (Ev×St):=
 let e:=Hc [] env
 let L:=dN k 0 st++we k (Sf e ts (Ni st (dY st) (Sf e ts []) [])) []
 match UQ L&&(Hh nb0 L&&Nat.ble nb0 L.length)with
 |true=>match Np L e,L4 L st L with|some e',some s'=>some (e',s')|_,_=>none
 |false=>none
def RV:Ev->Ev->Bool
 |[],_=>true
 |(t,v)::r,e=>(match look e t with|some u=>LS u v|none=>false)&&RV r e
def CY:List (Vt)->List (Vt)->Bool
 |[],[]=>true
 |x::l,y::r=>HY x y&&CY l r
 |_,_=>false
def MH:St->St->Bool
 |[],[]=>true
 |none::l,none::r=>MH l r
 |some (k,a)::l,some (k',b)::r=>(Nat.beq k k'&&CY a b)&&MH l r
 |_,_=>false
def RO(nb0 k:Nat)(ts:List Nat)(E:Ev)(S:St)(all:List Oper)(ss:List Nat)(VC:Ev):Nat->List Nat->List Nat->Ev->St->Bool
 |0,p,en,F,st =>
  OI P all VC F st p en&&(Kw all ss p en&&(Un p ss&&(match CQ nb0 k ts (F++KJ (K7 all) VC) st with|some (e,s)=>RV E e&&MH S s|none=>false)))
 |n+1,p,en,F,st =>
  OI P all VC F st p en&&(Kw all ss p en&&(!Un p ss&&ss.all λs=>Xt s p||(!Gg all ss p en s||(match NG P call all ss VC p en F st s with|some (en2,F2,st2)=>RO nb0 k ts E S all ss VC n (s::p) en2 F2 st2|none=>false))))
end
theorem zEl(ht:xa P op=false)(h:Lh P env st op=some (av,VO)):VO=st:=by
 cases op<;>simp only[xa]at ht<;>try cases ht
 case move=>exact UG (λ_=>rfl) h
 case assign=>exact UG (λ_=>rfl) h
 case pick =>
  simp only[Lh]at h;split at h;.exact UG (λ_=>rfl) h
  .exact UG (λ_=>rfl) h
  cases h
 case load =>
  simp only[Lh]at h;split at h;.exact UG (λ_=>rfl) h
  cases h
 case nilCheck =>
  simp only[Lh]at h;split at h
  .split at h
   .cases h;rfl
   cases h
  cases h
 case binOp =>
  simp only[Lh]at h;split at h;.exact UG (λ_=>rfl) h
  cases h
 case unOp =>
  simp only[Lh]at h;split at h;.exact UG (λ_=>rfl) h
  cases h
 case build =>
  simp only[Lh]at h;split at h
  .split at h
   .exact UG (λ_=>rfl) h
   .split at h
    .exact UG (λ_=>rfl) h
    cases h
   cases h
  cases h
 case makeFunc fn first Fu =>
  cases fn with
  |func f =>
   simp only[Lh]at h;split at h;.cases h;rfl
   .cases h
  |_=>simp only[Lh]at h;cases h
 case extract =>
  simp only[Lh]at h;split at h;.exact UG (λ_=>rfl) h
  cases h
 case fieldAddr =>
  simp only[Lh]at h;split at h
  .split at h
   .exact UG (λ_=>rfl) h
   cases h
  cases h
 case indexAddr =>
  simp only[Lh]at h;split at h
  .split at h
   .split at h
    .exact UG (λ_=>rfl) h
    cases h
   cases h
  cases h
 case field =>
  simp only[Lh]at h;split at h;.exact UG (λ_=>rfl) h
  cases h
 case lookup =>
  simp only[Lh]at h;split at h;.exact UG (λ_=>rfl) h
  cases h
 case index =>
  simp only[Lh]at h;split at h
  .split at h
   .exact UG (λ_=>rfl) h
   cases h
  .split at h
   .split at h
    .exact UG (λ_=>rfl) h
    cases h
   cases h
  cases h
 case convert =>
  split at ht
  .rename_i ti hti;simp only[Lh]at h;split at h
   .rename_i is id v h1 h2 h3;rw[hti]at h2;cases h2;split at h
    .split at h
     .rename_i r hr;cases h;exact zAh ht hr
     exact zCQ h
    cases h
   cases h
  cases ht
 case slice t x lo hi mx =>
  cases mx with
  |some _=>cases ht
  |none =>
   simp only[Lh]at h;split at h
   .split at h
    .split at h
     .exact UG (λ_=>rfl) h
     cases h
    .split at h
     .split at h
      .cases h;rfl
      cases h
     cases h
    cases h
   cases h
 case call c =>
  obtain⟨callee,args,ats⟩:=c;simp only at ht;split at ht
  .simp only[Lh,HE]at h;split at h
   .rename_i h1 _ _;unfold D0 at h;split at h
    .split at h
     .cases h;rfl
     .cases h;rfl
     .split at h
      .cases h;rfl
      cases h
     .cases h;rfl
     cases h
    cases h
   .rename_i h1 _ _;cases h1
   .rename_i h1 _;cases h1
   .rename_i h1 _ _;cases h1
   cases h
  cases ht
theorem yM{o:Oper}(h:CD P all VC F st i o=some v):W1 P all (ea all VC i) st F o v:=by
 unfold CD at h;unfold W1;have e:Xc all VC F i o=LL F (ea all VC i) (Zs all o.after.toList):=rfl;rw[e]at h;split at h
 .rename_i hg
  try rw[hg]
  try simp only
  split at h
  .cases h
  rename_i ht;split at h;.cases h
  rename_i hi;split at h
  .rename_i r hr;cases h;obtain⟨r1,r2⟩:=r;have:=zEl ht hr;subst this;unfold UN
   try rw[hi]
   try simp only
   rw[hr];exact⟨rfl,rfl⟩
  cases h
 .rename_i hg
  try rw[hg]
  try simp only
  cases h;rfl
 cases h
theorem NY{all:List Oper}{VC F:Ev}{st:St}{p:List Nat}:∀{en:List Nat},OI P all VC F st p en=true->U8 P all VC F st p en
 |[],_=>trivial
 |i::r,h=>by
  unfold OI at h;rw[Qd]at h;refine⟨λhp=>?_,NY h.2⟩;have h1:=h.1;rw[hp]at h1;simp only at h1;unfold UU;split at h1
  .rename_i o ho
   try rw[ho]
   try simp only
   split at h1
   .rename_i v hv;split at h1
    .rename_i t ht
     try rw[ht]
     try simp only
     split at h1
     .rename_i u hu;rw[dW h1]at hu;exact⟨v,hu,yM hv⟩
     cases h1
    rename_i ht
    try rw[ht]
    exact⟨v,trivial,yM hv⟩
   cases h1
  cases h1
theorem zFf{X:Ev}{t:Nat}(h:Xt t (Za X)=false):look (X++e) t=look e t:=by
 induction X with
 |nil=>rfl
 |cons p X ih =>
  obtain⟨k,x⟩:=p;simp only[Za,Xt,Qh]at h;simp only[J5,look];rw[YM (λe=>by rw[e]at h;simp at h)];exact ih h.2
theorem yx{all:List Oper}{ss p en:List Nat}{s:Nat}:∀{l:List Nat},CT all ss p en s l=true->∀x,Xt x l=true->Xt x p=false->Gg all ss p en x=true->x=s
 |[],_,x,h,_,_=>by cases h
 |y::r,h,x,hm,hp,hw=>by
  unfold CT at h;rw[Qd]at h;simp only[Xt,Qv]at hm
  rcases hm with hm|hm
  .have e:=Qn hm;subst e;have h1:=h.1;rw[hp,hw]at h1;simp at h1;exact h1
  exact yx h.2 x hm hp hw
theorem UN.mono{op:Op}{env:Ev}{st:St}{K K':AV->St->Prop}(h:UN P op env st K)(hk:∀a s,K a s->K' a s):UN P op env st K':=by
 unfold UN at h ⊢;split at h
 .split at h
  .exact h.mono hk
  exact h.elim
 split at h
 .exact hk _ _ h
 exact h.elim
theorem vh(hc:Bf P call){p en:List Nat}{s:Nat}{F2:Ev}{st2:St}(h:NG P call all ss VC p en F st s=some (en2,F2,st2))(hd:DT P all ss VC K n (s::p) en2 F2 st2):
  match all[s]? with
   |some o=>Gx (LL F (ea all VC s) (Zs all o.after.toList)) (G1 all o.guard)=some true/\UN P o.op (LL F (ea all VC s) (Zs all o.after.toList)) st (λav VO=>∃en' new,
     ZH (Za new) F=true/\Kc all ((s::p)++(en'++en)) (Za new)=true/\(match o.dst with|some t=>look (new++F) t=some av|none=>True)/\DT P all ss VC K n (s::p) (en'++en) (new++F) VO)
   |none=>False:=by
 unfold NG at h;split at h
 case h_2=>cases h
 rename_i o ho;split at h
 case h_2=>cases h
 rename_i av s1 hg hop;refine⟨hg,?_⟩;refine UN.mono (qu hc hop) λa s ⟨e1,e2⟩=>?_;subst e1;subst e2;split at h
 case h_2=>cases h
 rename_i en' X hcl;split at h
 case h_2=>cases h
 rename_i hk;simp only[Qd]at hk;cases h;refine⟨en',X++aput o.dst a [],hk.1,hk.2.1,?_,hd⟩;have hkk:=hk.2.2
 cases hd:o.dst with
 |none=>trivial
 |some t =>
  try simp only
  rw[hd]at hkk;simp only[Qm]at hkk;rw[Q4,zFf hkk];simp[aput,look]
theorem qv(hc:Bf P call){all:List Oper}{ss:List Nat}{VC:Ev}{K:Ev->St->Prop}:∀{n:Nat} {p en:List Nat} {F:Ev} {st:St} {VN:Ev} {VO:St},RS P call all ss VC n p en F st=some (VN,VO)->K VN VO->DT P all ss VC K n p en F st
 |0,p,en,F,st,VN,VO,h,k=>by
  unfold RS at h;split at h;.rename_i hb;simp only[Qd]at hb;cases h;exact⟨NY hb.1,hb.2.1,hb.2.2,k⟩
  .cases h
 |n+1,p,en,F,st,VN,VO,h,k=>by
  unfold RS at h;split at h
  case h_2=>cases h
  rename_i hb;simp only[Qd,Qm]at hb;refine⟨NY hb.1,hb.2.1,hb.2.2,λx hx hp hw=>?_⟩;split at h
  case h_2=>cases h
  rename_i s hs;split at h
  case h_2=>cases h
  rename_i hon;have e:=yx hon x hx hp hw;subst e;split at h
  case h_2=>cases h
  rename_i en2 F2 st2 hstep;exact vh hc hstep (qv hc h k)
theorem t6{E:Ev}:RV E e=true->∀t v,look E t=some v->look e t=some v:=by
 induction E with
 |nil=>intro _ t v h;cases h
 |cons p r ih =>
  obtain⟨k,x⟩:=p;intro h t v hl;simp only[RV,Qd]at h;simp only[look]at hl;split at hl
  .rename_i ekt;subst ekt;cases hl;have h1:=h.1;split at h1;.rename_i u hu;rw[hu,dW h1]
   cases h1
  exact ih h.2 t v hl
theorem vl:∀{a b:List (Vt)},CY a b=true->a=b
 |[],[],_=>rfl
 |x::l,y::r,h=>by
  simp only[CY,Qd]at h;rw[Eb h.1,vl h.2]
 |[],_::_,h=>by cases h
 |_::_,[],h=>by cases h
theorem dU:∀{a b:St},MH a b=true->a=b
 |[],[],_=>rfl
 |none::l,none::r,h=>by
  simp only[MH]at h;rw[dU h]
 |some (k,a)::l,some (k',b)::r,h=>by
  simp only[MH,Qd]at h;rw[Qn h.1.1,vl h.1.2,dU h.2]
 |[],_::_,h=>by cases h
 |none::_,[],h=>by cases h
 |some _::_,[],h=>by cases h
 |none::_,some _::_,h=>by cases h
 |some (_,_)::_,none::_,h=>by cases h
theorem Uo.less{st:St}{L:Xv}{env:Ev}:∀{E e:Ev},Uo st L e env->(∀t v,look E t=some v->look e t=some v)->Hm E=true->Uo st L E env
 |[],_,_,_,_=>trivial
 |(t,v)::r,e,h,hl,ho=>by
  simp only[Hm,Qd,Qm]at ho;refine⟨h.get t v (hl t v (by simp[look])),Uo.less (E:=r) h (λu x hu=>hl u x ?_) ho.2⟩;simp only[look];split;.rename_i ekt;subst ekt;exact absurd (G3.2 (Pc hu)) (by rw[ho.1];decide)
  exact hu
theorem zEX{k:Nat}{E:Ev}{S s:St}(ho:Hm E=true)(h:CQ nb0 k ts env st=some (e,s))(hE:RV E e=true)(hS:MH S s=true):LN nb0 E S env st:=by
 unfold CQ at h;simp only at h;split at h
 case h_2=>cases h
 rename_i hcc;simp only[Qd]at hcc;split at h
 case h_2=>cases h
 rename_i a b ha hb;cases h;have hs:=dU hS;subst hs;refine⟨_,Uo.less (dJ ha (λt v ht=>(N3 ht).2) (λt ht=>R8 ht) SF.1) (t6 hE) ho,hcc.1,NF hb,hcc.2.1,?_⟩;rw[NO hb];exact QE hcc.2.2
theorem y3(hc:Bf P call){nb0 k:Nat}{ts:List Nat}{E:Ev}{S:St}(ho:Hm E=true){all:List Oper}{ss:List Nat}{VC:Ev}:∀{n:Nat} {p en:List Nat} {F:Ev} {st:St},
  RO P call nb0 k ts E S all ss VC n p en F st=true->DT P all ss VC (λenv st=>LN nb0 E S env st) n p en F st
 |0,p,en,F,st,h=>by
  simp only[RO,Qd]at h;refine⟨NY h.1,h.2.1,h.2.2.1,?_⟩;have h1:=h.2.2.2;split at h1;.rename_i e s hf;rw[Qd]at h1;exact zEX ho hf h1.1 h1.2
  .cases h1
 |n+1,p,en,F,st,h=>by
  simp only[RO,Qd,Qm]at h;refine⟨NY h.1,h.2.1,h.2.2.1,λx hx hp hw=>?_⟩;have h1:=Qr.1 h.2.2.2 x (G3.1 hx);rw[hp,hw]at h1;simp only[Qo,QR]at h1;split at h1;.rename_i en2 F2 st2 hstep;exact vh hc hstep (y3 hc ho h1)
  cases h1
def C9(all:List Oper):List Oper->Nat->Ev->St->List Nat
 |[],_,_,_=>[]
 |o::r,i,env,st =>
  match ZQ all env o with
  |some true =>
   match Nq P call o.op env st with
   |some (av,VO)=>match xa P o.op with|true=>i::C9 all r (i+1) (aput o.dst av env) VO|false=>C9 all r (i+1) (aput o.dst av env) VO
   |none=>[]
  |some false=>C9 all r (i+1) (aput o.dst (.lit undef) env) st
  |none=>[]
section
variable (P:Program) (call:FuncId->Vt->St->Option (AV×St))
def di(nb0 n:Nat)(all:List Oper)(env:Ev)(st:St):Option (Ev×St):=
 let ss:=C9 (P:=P) (call:=call) all all 0 env st
 match H3 n all&&Hn all.length ss with
 |true =>
  match xd P all ss [] env st [] [] all 0 [] []with
  |some (en,F)=>
   match Kc all en (Za F)with
   |true =>
    match RS P call all ss env ss.length [] en F st with
    |some r=>some r
    |none =>
     match ql P call all ss env ss.length [] en F st with
     |some (e1,s1)=>
      match CQ nb0 st.length (K7 all) e1 s1 with
      |some (E,S)=>match Hm E&&RO P call nb0 st.length (K7 all) E S all ss env ss.length [] en F st with|true=>some (E,S)|false=>none
      |none=>none
     |none=>none
   |false=>none
  |none=>none
 |false=>none
def Uk(nb0:Nat):Nat->Nat->Code->Ev->St->Option (Exit×Ev×St)
 |0,_,_,_,_=>none
 |f+1,n,c,env,st =>
  match c with
  |.skip=>some (.normal,env,st)
  |.ret=>some (.ret,env,st)
  |.exit id=>some (.exit id,env,st)
  |.seq x y =>
   match Uk nb0 f n x env st with
   |some (.normal,e,s)=>Uk nb0 f n y e s
   |some (.ret,e,s)=>some (.ret,e,s)
   |some (.exit i,e,s)=>some (.exit i,e,s)
   |_=>none
  |.cond c x y =>
   match ev env c with
   |some (.lit (.bool true))=>Uk nb0 f n x env st
   |some (.lit (.bool false))=>Uk nb0 f n y env st
   |_=>none
  |.block id c =>
   match Uk nb0 f n c env st with
   |some (.exit i,e,s)=>match Nat.beq i id with|true=>some (.normal,e,s)|false=>some (.exit i,e,s)
   |some (.normal,e,s)=>some (.normal,e,s)
   |some (.ret,e,s)=>some (.ret,e,s)
   |_=>none
  |.loop c =>
   match Uk nb0 f n c env st with
   |some (.normal,e,s)=>
    match Nat.beq s.length st.length with
    |true=>Uk nb0 f n (.loop c) (Hc [] e) s
    |false=>match db nb0 e s with|some (e',s')=>Uk nb0 f n (.loop c) e' s'|none=>none
   |some (.ret,e,s)=>some (.ret,e,s)
   |some (.exit i,e,s)=>some (.exit i,e,s)
   |_=>none
  |.region _ VS d =>
   match d with
   |false =>
    match VS.toList.all (λo=>o.dst.all (·<n))with
    |true=>match M3 P call VS.toList VS.toList env st with|some (e,s)=>some (.normal,e,s)|none=>none
    |false=>none
   |true=>match di P call nb0 n VS.toList env st with|some (e,s)=>some (.normal,e,s)|none=>none
  |_=>none
end
variable {b:Bool}{c:Int}{kn:List Nat}{r l:List α}{p q:Prop}{s:St}
def RU(r:Exit×Ev×St):Exit->Ev->St->Prop:=λx e s=>(x,e,s)=r
theorem SW.less{P:Program}{n nb0:Nat}{c:Code}{Q:Exit->Ev->St->Prop}{env VN:Ev}{st:St}(hs:∀t v,look VN t=some v->look env t=some v)(h:SW P n nb0 c Q VN st):SW P n nb0 c Q env st:=λA m w a h0 hR hE=>h A m w a h0 hR (hE.less hs)
theorem s6(hc:Bf P call)(hm:P.follows .mixedOrders=true)(h:di P call nb0 n VS.toList env st=some (e,s))(k:Q .normal e s):SW P n nb0 (.region id VS true) Q env st:=by
 unfold di at h;simp only at h;split at h
 case h_2=>cases h
 rename_i h1;rw[Qd]at h1;split at h
 case h_2=>cases h
 rename_i en F hcl;split at h
 case h_2=>cases h
 rename_i hk;split at h;.rename_i r hr;cases h;exact GH _ en F _ hm h1.1 (by simpa using h1.2) hk (qv hc hr k)
 split at h
 case h_2=>cases h
 rename_i e1 s1 hone;split at h
 case h_2=>cases h
 rename_i E S hf;split at h
 case h_2=>cases h
 rename_i ha;rw[Qd]at ha;cases h;exact fL e s _ en F _ hm h1.1 (by simpa using h1.2) hk (y3 hc ha.1 ha.2) k
section
variable (hc:Bf P call) (hm:P.follows .mixedOrders =true)
include hc hm
theorem vp:∀(F f:Nat),f<=F->∀{c:Code} {env:Ev} {st:St} {r:Exit×Ev×St},Uk P call nb0 f n c env st=some r->SW P n nb0 c (RU r) env st
 |_,0,_,_,_,_,_,h=>by cases h
 |0,f+1,hf,_,_,_,_,_=>YA
 |F+1,f+1,hf,c,env,st,r,h=>by
  have go:∀{k:Nat},k<=F->∀{c:Code} {env:Ev} {st:St} {r:Exit×Ev×St},Uk P call nb0 k n c env st=some r->SW P n nb0 c (RU r) env st:=λhk _ _ _ _ h=>vp F _ hk h;have Ge:∀{c:Code} {env:Ev} {st:St} {r:Exit×Ev×St},Uk P call nb0 f n c env st=some r->SW P n nb0 c (RU r) env st:=λh=>go YA h
  cases c<;>simp only[Uk]at h<;>try cases h
  case skip=>exact zc rfl
  case ret=>exact zA rfl
  case exit=>exact zr rfl
  case seq x y =>
   split at h
   .rename_i e s hx;exact ze ((Ge hx).mono λx1 e1 s1 h1=>by cases h1;exact Ge h)
   .rename_i e s hx;cases h;exact ze ((Ge hx).mono λx1 e1 s1 h1=>by cases h1;exact rfl)
   .rename_i e s hx;cases h;exact ze ((Ge hx).mono λx1 e1 s1 h1=>by cases h1;exact rfl)
   cases h
  case cond o x y =>
   split at h
   .rename_i hv;exact UC hv (λ_=>Ge h) (λh1=>by cases h1)
   .rename_i hv;exact UC hv (λh1=>by cases h1) (λ_=>Ge h)
   cases h
  case block id c =>
   split at h
   .rename_i i e s hx;split at h
    .rename_i hb;cases h
     exact zg ((Ge hx).mono λx1 e1 s1 h1=>by
      cases h1;simp only[Bc]
      rw[YK (Qn hb)];rfl)
    rename_i hb;cases h
    exact zg ((Ge hx).mono λx1 e1 s1 h1=>by
     cases h1;simp only[Bc]
     rw[YM (λe=>by rw[e]at hb;simp at hb)];rfl)
   .rename_i hx;cases h;exact zg ((Ge hx).mono λx1 e1 s1 h1=>by cases h1;exact rfl)
   .rename_i hx;cases h;exact zg ((Ge hx).mono λx1 e1 s1 h1=>by cases h1;exact rfl)
   cases h
  case loop c =>
   have h0:Uk P call nb0 (f+1) n (.loop c) env st=some r:=by simp only[Uk];exact h
   clear h;refine d8 (λk env st=>k<=f+1/\∃e2 s2,(LN nb0 e2 s2 env st\/(s2=st/\∀t v,look e2 t=some v->look env t=some v))/\Uk P call nb0 k n (.loop c) e2 s2=some r) (f+1) ⟨Qg _,env,st,.inr ⟨rfl,λ_ _ h=>h⟩,h0⟩ ?_;rintro k env st ⟨hk,e2,s2,hor,h⟩
   cases k with
   |zero=>cases h
   |succ k =>
    have main:SW P n nb0 c (Ng (λenv st=>∃k',k'<k+1/\k'<=f+1/\∃e2 s2,(LN nb0 e2 s2 env st\/(s2=st/\∀t v,look e2 t=some v->look env t=some v))/\Uk P call nb0 k' n (.loop c) e2 s2=some r) (RU r)) e2 s2:=by
     simp only[Uk]at h
     have hk':k<=F:=YA
     split at h
     .rename_i e s hx;refine(go hk' hx).mono λx1 e1 s1 h1=>?_;cases h1;split at h
      .exact⟨k,QL k,YA,_,_,.inr ⟨rfl,λt v ht=>(N3 ht).2⟩,h⟩
      split at h
      .rename_i e' s' ht;exact⟨k,QL k,YA,_,_,.inl (ca ht),h⟩
      cases h
     .rename_i hx;cases h;exact(go hk' hx).mono λx1 e1 s1 h1=>by cases h1;exact rfl
     .rename_i hx;cases h;exact(go hk' hx).mono λx1 e1 s1 h1=>by cases h1;exact rfl
     cases h
    rcases hor with hcan|⟨rfl,hl⟩
    .exact Ba hcan main
    exact SW.less hl main
  case region id VS d =>
   cases d with
   |false =>
    simp only at h;split at h
    .rename_i hd;split at h;.rename_i e s ho;cases h;exact zGo hd λK hK=>dR hc ho (hK _ _ rfl)
     cases h
    .cases h
   |true =>
    simp only at h;split at h;.rename_i e s ho;cases h;exact s6 hc hm ho rfl
    cases h
theorem Ge{f:Nat}{c:Code}{r:Exit×Ev×St}(h:Uk P call nb0 f n c env st=some r):SW P n nb0 c (RU r) env st:=vp hc hm f f (Qg _) h
end
def Nj(P:Program)(kn:List Nat):Nat->FuncId->Vt->St->Option (AV×St)
 |0,_,_,_=>none
 |f+1,g,args,st =>
  match Xt g kn&&args.isEmpty with
  |true=>some (.lit (.bool true),st)
  |false =>
   match P.funcs[g]? with
   |some fn =>
    match fn.body with
    |some c =>
     match fn.name == "runtime.NumGoroutine", Nat.ble args.length fn.ntmps with
     |false,true =>
      match Uk P (Nj P kn f) st.length 100000 fn.ntmps c (Df 0 args) st with
      |some (.normal,e,s)=>match HZ P fn e s with|some av=>(match Nat.beq s.length st.length with|true=>some (av,s)|false=>Nf st.length av s)|none=>none
      |some (.ret,e,s)=>match HZ P fn e s with|some av=>(match Nat.beq s.length st.length with|true=>some (av,s)|false=>Nf st.length av s)|none=>none
      |_=>none
     |_,_=>none
    |none=>none
   |none=>none
theorem rO{fn:Func}(h:(match HZ P fn e s with|some av=>(match Nat.beq s.length nb0 with|true=>some (av,s)|false=>Nf nb0 av s)|none=>none)=some (av,VO)):
  (∃av1,HZ P fn e s=some av1/\av1=av/\s=VO)\/Uy P fn nb0 av VO e s:=by
 split at h
 .rename_i av1 ha;split at h;.cases h;exact .inl ⟨_,ha,rfl,rfl⟩
  exact .inr ⟨av1,ha,zGt h⟩
 cases h
theorem wl{P:Program}{kn:List Nat}(hm:P.follows .mixedOrders=true)(hk:∀g,Xt g kn=true->Xn P g [] (.lit (.bool true))):∀f,Bf P (Nj P kn f)
 |0,g,args,st,av,VO,h=>by cases h
 |f+1,g,args,st,av,VO,h=>by
  unfold Nj at h;split at h;.rename_i hg;cases h;rw[Qd,List.isEmpty_iff]at hg;rw[hg.2];exact ob (hk _ hg.1) .nil ⟨rfl,rfl⟩
  split at h
  case h_2=>cases h
  rename_i fn hfn;split at h
  case h_2=>cases h
  rename_i c hcb;split at h
  case h_2=>cases h
  rename_i h1 h2;have hc:=wl hm hk f
  have fin:∀{x:Exit} {e:Ev} {s:St},Uk P (Nj P kn f) st.length 100000 fn.ntmps c (Df 0 args) st=some (x,e,s)->x=.normal\/x=.ret->
    (match HZ P fn e s with|some av=>(match Nat.beq s.length st.length with|true=>some (av,s)|false=>Nf st.length av s)|none=>none)=some (av,VO)->US P g args st λa s=>a=av/\s=VO:=λ{x e s} hx hxx h=>by
   rcases rO h with ⟨av1,h3,h4,h5⟩|h3
   .refine oc hfn hcb h1 (QE h2) ((Ge hc hm hx).mono λx1 e1 s1 h6=>?_);cases h6
    rcases hxx with rfl|rfl
    .exact⟨av1,h3,h4,h5⟩
    exact⟨av1,h3,h4,h5⟩
   refine zK hfn hcb h1 h2 ((Ge hc hm hx).mono λx1 e1 s1 h6=>?_);cases h6
   rcases hxx with rfl|rfl
   .exact h3
   exact h3
  split at h
  .rename_i hx;exact fin hx (.inl rfl) h
  .rename_i hx;exact fin hx (.inr rfl) h
  cases h
theorem tj{f:Nat}{g:FuncId}(hm:P.follows .mixedOrders=true)(hk:∀g,Xt g kn=true->Xn P g [] (.lit (.bool true)))(h:Nj P kn f g [] []=some (.lit (.bool true),st)):Xn P g [] (.lit (.bool true)):=yN ((wl hm hk f _ _ _ _ _ h).mono λa s ⟨e1,e2⟩=>by subst e1;exact .imm (.lit _))
def j9:Option (AV×St)->Bool
 |some (.lit (.bool b),_)=>b
 |_=>false
theorem Hz{g:FuncId}(kn:List Nat)(f:Nat)(hm:P.follows .mixedOrders=true)(hk:∀g,Xt g kn=true->Xn P g [] (.lit (.bool true)))(h:j9 (Nj P kn f g [] [])=true):Xn P g [] (.lit (.bool true)):=by
 unfold j9 at h;split at h;.rename_i b st hr;subst h;exact tj hm hk hr
 cases h
theorem My{k:Nat}(h:Xn P k [] (.lit (.bool true))):∀g,Xt g [k]=true->Xn P g [] (.lit (.bool true)):=λg hg=>by
 simp only[Xt,Q5]at hg;rw[<-Qn hg];exact h
theorem R.trunc{A:Nat->Prop}{m:BM}{w:World}(hR:R A m w st){l k:Nat}(he:st[l]?=some (some (k,els)))(q:Nat)(hk:Nat.beq k 2=false):R A m w (st.set l (some (k,els.take q))):=by
 have hl:l<st.length:=(Qb.1 he).1
 have Fr:k≠2:=λe=>by subst e;cases hk
 refine⟨hR.aLow,hR.aOwn,hR.inj,λx b hb=>?_,λx k' VM hx=>?_⟩
 .by_cases e:l=x;.subst e;exact⟨els.take q,by rw[QM hl,(hR.at hb he).1]⟩
  obtain⟨els1,h1⟩:=hR.live x b hb;exact⟨els1,by rw[QH e];exact h1⟩
 rw[Jg];by_cases e:l=x
 .subst e;rw[QM hl]at hx;cases hx;obtain⟨b,h1,h2,h3,h4⟩:=hR.blk l k els he;refine⟨b,h1,h2,λhh=>?_,λhh=>by rw[h4 hh];simp⟩;have ho:=h3 hh;refine⟨ho.low,ho.there,ho.free,λhq=>?_,λi hi=>?_,λhq i hi j hj=>?_,λhq=>?_⟩;.refine QK (Nat.add_le_add_left (QZ _ ?_) _) (ho.fit hq);simp;omega
  .simp only[List.getElem_take];exact ho.wide _ _
  .simp only[List.getElem_take]at hj ⊢;exact ho.val hq i (by simp at hi;omega) j hj
  exact absurd (h2.symm.trans (ho.mval hq).1) Fr
 rw[QH e]at hx;exact hR.blk x k' VM hx
theorem zEI(h:XR l 0 c=some r):r=l.take c.toNat:=by
 unfold XR at h;split at h;.cases h;simp
 cases h
section
variable {ty:TypeId}
theorem rP{cd:Code}{b:Nat}(hb:st[b]?=some (some (sz,l.map f)))(hk:Nat.beq sz 2=false)(h:XR l 0 c=some r)(k:SW P n nb0 cd Q env (st.set b (some (sz,r.map f)))):SW P n nb0 cd Q env st:=by
 intro A m w a h0 hR hE
 have e:r.map f=(l.map f).take c.toNat:=by rw[zEI h,List.map_take]
 rw[e]at k
 have VR:(st.set b (some (sz,(l.map f).take c.toNat))).length=st.length:=YC
 exact k A m w a (by rw[VR];exact h0) (hR.trunc hb c.toNat hk) (by rw[VR];exact hE)
theorem slM{t e:TypeId}{ti:TI}{b:Nat}(ht:Xk P t=some ti)(hk:ti.k=.slc e)(he:Xk P e=some te)(hs:te.size=sz)(hx:ev env x=some (.msl b 0 l.length))(hb:st[b]?=some (some (sz,l.map f)))(FD:Z6 env l.length hi=some c.toNat)(h:XR l 0 c=some r)(k:K ((d,.msl b 0 r.length)::env) st):F8 P ⟨some d,.slice t x none hi none,ty,pos,VU,gu⟩ env st K:=X8 rfl (by
   unfold XR at h;split at h
   .rename_i h1;cases h;have e':U7 (.msl b 0 l.length)=some l.length:=rfl;have e0:Z6 env 0 none=some 0:=rfl;simp only[Lh,ht,hk,hx,e',he,FD,e0,W0,hb];rw[YK ⟨hs.symm,YA,YA⟩]
    have:((l.drop (0:Int).toNat).take (c.toNat-(0:Int).toNat)).length=c.toNat-0:=by simp;omega
    rw[this];rfl
   cases h) k
theorem rN{i:Int}{c:α}(h:idx l i=some c)(k:SR P n nb0 all l1 l2 K ((d,.ipt sz [f c] 0 0)::env) st):SR P n nb0 all l1 l2 K ((d,.ipt sz (l.map f) i.toNat 0)::env) st:=by
 intro VS q ho hd hn A m w a h0 hR hE Q hQ;obtain⟨_,hi,hc⟩:=zT h;refine k VS q ho hd hn A m w a h0 hR ⟨hE.size,λt v hl=>?_,hE.defers⟩ Q hQ;simp only[look]at hl;split at hl
 .rename_i e;cases hl;obtain⟨h1,h2⟩:=hE.val t (.ipt sz (l.map f) i.toNat 0) (by simp[look,e]);refine⟨h1,.imm ?_⟩;have h3:=h2.ipt_inv;generalize a.tmps.getD t undef=v at h3
  have hg:(l.map f)[i.toNat]'(by simpa using hi)=f c:=by
   have:=(Qb.1 hc).2;simp[this]
  cases h3 with
  |ipt _ _ _ _ B o vs hA hk hcell hval =>
   have:=VI.ipt (A:=A) (w:=w) sz [f c] 0 0 B (o+i.toNat*sz) (λ_ j=>vs i.toNat j) hA
    (λi' VZ=>by
     have:i'=0:=by simpa using VZ
     subst this;show(f c).length=sz
     rw[<-hg];exact hk _ _)
    (λi' j VZ hj=>by
     have:i'=0:=by simpa using VZ
     subst this;rw[<-hcell i.toNat j (by simpa using hi) hj]
     congr 2;omega)
    (λi' VZ j hj=>by
     have:i'=0:=by simpa using VZ
     subst this
     have hj':j<((l.map f)[i.toNat]'(by simpa using hi)).length:=by rw[hg];exact hj
     have h5:=hval i.toNat (by simpa using hi) j hj'
     have e5:((l.map f)[i.toNat]'(by simpa using hi))[j]=(f c)[j]'hj:=by simp only[hg]
     rw[e5]at h5
     exact h5)
   simpa using this
 rename_i e;exact hE.val t v (by simp[look,e,hl])
theorem rR{t u' e:TypeId}{y:Operand}{ti:TI}(ht:Xk P t=some ti)(hk:ti.k=.slc e)(hx:ev env x=some (.isl sz (l.map f)))(hy:ev env y=some (.lit (.slice none 0 0)))(hh:(l=[]->SR P n nb0 all l1 l2 K ((d,.lit (.bool true))::env) st)/\SR P n nb0 all l1 l2 K ((d,.lit (.bool false))::env) st):SR P n nb0 all (⟨some d,.binOp .eql t x y u',ty,pos,VU,none⟩::l1) l2 K env st:=by
 obtain⟨h1,h2⟩:=hh;intro VS i ho hd hn A m w a h0 hR hE Q hQ;obtain⟨hi,hd',hdo⟩:=dh ho hd hn
 have e:((⟨some d,.binOp .eql t x y u',ty,pos,VU,none⟩:Oper)::l1).length+l2.length=(l1.length+l2.length)+1:=by simp;omega
 rw[e,J6];simp only[wpOps,hi];rw[Wk (b:=true) hE (by rfl)];simp only[YQ];refine .inl ?_;obtain⟨dd,i0,Fj,_,_,_,_,hdk,_⟩:=Zn ht;rw[hk]at hdk;have hds:=Kt hdk;subst hds
 have fin:∀b:Bool,(execOp a.eval ⟨some d,.binOp .eql t x y u',ty,pos,VU,none⟩).run P w=.ok (.value (.bool b)) w->SR P n nb0 all l1 l2 K ((d,.lit (.bool b))::env) st->
   Oper.wp P ⟨some d,.binOp .eql t x y u',ty,pos,VU,none⟩ a w (λa' w'=>wpOps P VS Q (List.range' (i+1) (l1.length+l2.length)) a' w') Q:=λb hr k=>by
  unfold Oper.wp;rw[hr];refine k VS (i+1) ho hd' hn A m w _ h0 hR (hE.aput (d:=some d) hdo (.imm (.lit _))) Q λa2 w2 k2=>?_;have:=hQ a2 w2 k2
  rwa [Qw,Yh l1.length 1,<-QW]at this
 have run:∀(ad:Option Addr) (n1 c1:Nat),a.eval x=.slice ad n1 c1->(execOp a.eval ⟨some d,.binOp .eql t x y u',ty,pos,VU,none⟩).run P w=.ok (.value (.bool ad.isNone)) w:=λad n1 c1 hq=>by
  have hy':=(XD hE hy).lit_inv;have e1:=S9 (P:=P) (w:=w) Fj ad n1 c1;show((do pure (.value (<-(do eqGuard .eql t x y (a.eval x) (a.eval y);binOp .eql t (a.eval x) (a.eval y):Sem Value))):Sem Next).run P w)=_;rw[hq,hy'];simp only[Sem.run_bind,N4,Result.andThen_ok,binOp,e1];rfl
 have hv:=(XD hE hx).isl_inv;generalize hg:l.map f=els at hv;generalize hq:a.eval x=v at hv
 cases hv with
 |isl _ _ B o cap vs hA Fd hk hcell hval=>exact fin _ (run _ _ _ hq) h2
 |inil _ ad cap =>
  have hl:l=[]:=by simpa using hg
  cases ad with
  |none=>exact fin _ (run _ _ _ hq) (h1 hl)
  |some _=>exact fin _ (run _ _ _ hq) h2
theorem dg{v':AV}(e:v=v')(k:SR P n nb0 all l1 l2 K ((d,v')::env) st):SR P n nb0 all l1 l2 K ((d,v)::env) st:=by rw[e];exact k
end
theorem dQ{k:Nat}:rn τ (Xz k f o)=Xz k f o:=by cases o<;>rfl
theorem LO{st:St}{L:Xv}:∀{l:Vt},Zv l=true->Uv st L l l
 |[],_=>trivial
 |_::_,h=>⟨ci (Q0.1 h).1,LO (Q0.1 h).2⟩
theorem Z0{ρ:Nat->Option Nat}:∀{l:Vt},Zv l=true->H0 ρ l l
 |[],_=>trivial
 |_::_,h=>⟨Ln (Q0.1 h).1,Z0 (Q0.1 h).2⟩
theorem qc{b k:Nat}(hD:Kj L b=false)(hb:st[b]?=some (some (k,[row])))(h:Uv st L cs row)(hi:Zv cs=true):Rs st L (.ipt k [cs] 0 j) (.mpt b 0 j):=
 .slp hD hb rfl (λr hr y hy=>by obtain rfl:=QC.1 hr;exact(UD hi).mem y hy) (λq h1 h2=>by
  have:q=0:=by simpa using h1
  subst this;exact h.get.1.symm) (λq h1 h2 j h3 h4=>by
  have:q=0:=by simpa using h1
  subst this;exact h.get.2 j h4 h3)
section
variable {b c d e f g h i j k l:AV} {x y:Vt}
theorem RE(p:Zv [a,b,c,d,e,f,g,h,i,j,k,l]=true)(q:Uv st L x y):Uv st L (a::b::c::d::e::f::g::h::i::j::k::l::x) (a::b::c::d::e::f::g::h::i::j::k::l::y):=by obtain⟨h1,h2,h3,h4,h5,h6,h7,h8,h9,h10,h11,h12,_⟩:=LO (st:=st) (L:=L) p;exact⟨h1,h2,h3,h4,h5,h6,h7,h8,h9,h10,h11,h12,q⟩
theorem Hd(p:Zv [a,b,c,d,e,f,g,h,i,j,k,l]=true)(q:H0 ρ x y):H0 ρ (a::b::c::d::e::f::g::h::i::j::k::l::x) (a::b::c::d::e::f::g::h::i::j::k::l::y):=by obtain⟨h1,h2,h3,h4,h5,h6,h7,h8,h9,h10,h11,h12,_⟩:=Z0 (ρ:=ρ) p;exact⟨h1,h2,h3,h4,h5,h6,h7,h8,h9,h10,h11,h12,q⟩
end
theorem rA(z:p:=by repeat' (first|exact True.intro|exact cn|exact .msl rfl|exact .mpt rfl|exact ci rfl|exact .nil|exact XL λ_=>rfl|refine cv rfl ?_ ?_|exact Gu rfl rfl λ_=>rfl|refine yR rfl rfl ?_|exact ci (Zo λ_=>rfl)|exact .mmp rfl|refine RE rfl ?_|refine XN ?_|refine C4 ?_|refine⟨_,rfl,?_⟩|refine And.intro ?_ ?_|refine RM ?_|refine dx ?_|exact rfl)):p:=z
theorem rX(z:p:=by repeat' (first|exact True.intro|exact .msl rfl|exact .mpt rfl|exact .mmp rfl|exact Ln rfl|exact LD λ_=>rfl|refine Hd rfl ?_|exact Z0 rfl|refine⟨_,rfl,?_⟩|refine And.intro ?_ ?_|exact rfl)):p:=z
theorem zl(L:Xv)(h1:Uo st L VC env:=by refine rA)(h2:UQ L=true:=by exact rfl)(h3:Kd st L L VJ:=by refine rA)(h4:Hh nb0 L=true:=by exact rfl)(h5:nb0<=VJ.length:=by exact QE rfl):LN nb0 VC VJ env st:=⟨L,h1,h2,h3,h4,h5⟩
theorem Xb{Fv:AV}(L:Xv)(h1:Rs st L Fv av:=by refine rA)(h2:UQ L=true:=by exact rfl)(h3:Kd st L L VJ:=by refine rA)(h4:Hh nb0 L=true:=by exact rfl)(h5:nb0<=VJ.length:=by exact QE rfl):RJ nb0 Fv VJ av st:=⟨L,h1,h2,h3,h4,h5⟩
section
variable {ty:TypeId}
theorem sx(L:List Nat){c:Call}{g:FuncId}{Fh:Vt}{bs0 bs1:Vz}(h:SC P g Fh bs0 av bs1)(k:K ((d,rn (LR L st.length) av)::env) (CL L st bs1))(hc:ZW (.call c)=true:=by exact rfl)(hg:KG env (.call c)=some (g,args):=by exact rfl)(hnd:NB L=true:=by exact rfl)(hlt:RN st.length L=true:=by exact rfl)(ha:H0 (λi=>L[i]?) Fh args:=by refine rX)(hs:MF (λi=>L[i]?) st L bs0:=by refine rX):F8 P ⟨some d,.call c,ty,pos,VU,gu⟩ env st K:=sc L h hc hg hnd hlt ha hs k
end
theorem nz(h:b=false:=by exact rfl):b=true->q:=λe=>by rw[h]at e;cases e
theorem nw(h:b=false:=by exact rfl):p->b=true->q:=λ_ e=>by rw[h]at e;cases e
theorem nv(h:b=true:=by exact rfl):b=false->p->q:=λe=>by rw[h]at e;cases e
section
variable {p en:List Nat}
theorem pb{G:Prop}{t:Nat}{o:Oper}(ho:all[i]?=some o)(h:F8 P o (LL F (ea all VC i) (Zs all o.after.toList)) st λVN VO=>VN=(t,v)::LL F (ea all VC i) (Zs all o.after.toList)/\VO=st)(hd:o.dst=some t:=by exact rfl)(hg:o.guard=none:=by exact rfl)(hv:look F t=some v:=by exact rfl):G->UU P all VC F st i:=λ_=>pa ho hd hg hv h
theorem wy{p:Prop}(z:p:=by first|exact mv rfl ⟨rfl,rfl⟩|exact fa ti rfl rfl rfl ⟨rfl,rfl⟩|exact ld ti rfl rfl ⟨rfl,rfl⟩|exact nc rfl rfl ⟨rfl,rfl⟩|exact Lw rfl ⟨rfl,rfl⟩|exact ex rfl rfl ⟨rfl,rfl⟩|exact nt rfl ⟨rfl,rfl⟩|exact pk rfl rfl ⟨rfl,rfl⟩|exact fM rfl (by assumption) rfl ⟨rfl,rfl⟩|exact lss ti rfl rfl ⟨rfl,rfl⟩|exact leq ti rfl rfl ⟨rfl,rfl⟩|exact gtr ti rfl rfl ⟨rfl,rfl⟩|exact geq ti rfl rfl ⟨rfl,rfl⟩|exact eql ti rfl rfl ⟨rfl,rfl⟩|exact neq ti rfl rfl ⟨rfl,rfl⟩|exact add ti rfl rfl ⟨rfl,rfl⟩|exact seq ti rfl rfl ⟨rfl,rfl⟩|exact MI ti rfl rfl ⟨rfl,rfl⟩):p:=z
theorem pe(h:b=true->UU P all VC F st i:=by(first|exact nz|(refine λ_=>pa rfl rfl rfl rfl ?_;refine wy)|exact λ_=>ww rfl rfl rfl rfl rfl rfl|exact λ_=>ww rfl rfl rfl rfl (by assumption) rfl|exact λ_=>fN rfl rfl rfl rfl rfl|(refine λ_=>Le rfl rfl rfl rfl rfl rfl ?_;refine wy)|(refine λ_=>Le rfl rfl rfl rfl (by assumption) rfl ?_;refine wy))):b=true->UU P all VC F st i:=h
theorem Z1(h1:U8 P all VC F st p en)(h4:DW P all ss VC K n p en F st ss)(h2:Kw all ss p en=true:=by kernel_rfl)(h3:Un p ss=false:=by exact rfl):DT P all ss VC K (n+1) p en F st:=wD h1 h2 h3 h4
theorem U5(h1:U8 P all VC F st p en)(h4:K (F++KJ (K7 all) VC) st)(h2:Kw all ss p en=true:=by kernel_rfl)(h3:Un p ss=true:=by exact rfl):DT P all ss VC K 0 p en F st:=wE h1 h2 h3 h4
theorem jZ(h4:DW P all ss VC K n p en F st ss)(h1:U8 P all VC F st p en:=by repeat' (first|exact True.intro|refine pe|refine And.intro ?_ ?_))(h2:Kw all ss p en=true:=by kernel_rfl)(h3:Un p ss=false:=by exact rfl):DT P all ss VC K (n+1) p en F st:=wD h1 h2 h3 h4
theorem M5(h4:K (F++KJ (K7 all) VC) st)(h1:U8 P all VC F st p en:=by repeat' (first|exact True.intro|refine pe|refine And.intro ?_ ?_))(h2:Kw all ss p en=true:=by kernel_rfl)(h3:Un p ss=true:=by exact rfl):DT P all ss VC K 0 p en F st:=wE h1 h2 h3 h4
end
theorem kz{α:Sort _}{a b:α}(h:a=b:=by kernel_rfl):a=b:=h
theorem Lc{y:Code}(E:Ev)(S:St)(ss en:List Nat)(F:Ev)(k:Nat)(h:DT P VS.toList ss env (λenv st=>LN nb0 E S env st) k [] en F st)(hy:SW P n nb0 y Q E S)(hm:P.follows .mixedOrders=true:=by kernel_rfl)(VW:H3 n VS.toList=true:=by kernel_rfl)(FO:Hn VS.size ss=true:=by exact rfl)(Fx:Kc VS.toList en (Za F)=true:=by kernel_rfl):
  SW P n nb0 (.seq (.region id VS true) y) Q env st:=rd E S ss en F k hm VW FO Fx h hy
theorem XA(E:Ev)(S:St)(ss en:List Nat)(F:Ev)(k:Nat)(h:DT P VS.toList ss env (λenv st=>LN nb0 E S env st) k [] en F st)(hy:Q .normal E S)(hm:P.follows .mixedOrders=true:=by kernel_rfl)(VW:H3 n VS.toList=true:=by kernel_rfl)(FO:Hn VS.size ss=true:=by exact rfl)(Fx:Kc VS.toList en (Za F)=true:=by kernel_rfl):
  SW P n nb0 (.region id VS true) Q env st:=fL E S ss en F k hm VW FO Fx h hy

end
end Go.Proofs.YthmnlfenkhmmhaaGreat
