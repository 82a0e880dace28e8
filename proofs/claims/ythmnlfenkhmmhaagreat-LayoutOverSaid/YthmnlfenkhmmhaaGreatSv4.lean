/- LayoutOver: for every input the law returns true, and each argument reads as it read before. No further condition. Part 4 of 8. -/
import Derived.Test.YthmnlfenkhmmhaaGreatSv3
namespace Go.Proofs.YthmnlfenkhmmhaaGreat
set_option linter.unusedSimpArgs false
set_option linter.unusedVariables false
set_option linter.unusedSectionVars false
theorem zoW {t:Nat}:∀ {all:List Oper},t∈zpu all→∃ j,zai all j=some t
  | [],h=>by cases h
  | o :: l,h=>by
    unfold zpu at h
    cases hd:o.dst with
    | none =>
      rw [hd] at h
      obtain ⟨j,hj⟩:=zoW h
      exact ⟨j+1,by unfold zai at hj ⊢; rw [List.getElem?_cons_succ]; exact hj⟩
    | some d =>
      rw [hd] at h
      rcases List.mem_cons.1 h with rfl | h
      · exact ⟨0,by unfold zai; simp [hd]⟩
      · obtain ⟨j,hj⟩:=zoW h
        exact ⟨j+1,by unfold zai at hj ⊢; rw [List.getElem?_cons_succ]; exact hj⟩
theorem zoc {all:List Oper} {p ck:List Nat}:∀ {en:List Nat},zse all p ck en=true→∀ i,zV i en=true→zV i ck=true∨zhO all i p=false∨∃ o,all[i]?=some o∧zk9 o.op=true
  | [],_,i,h=>by cases h
  | j :: en,h,i,hi=>by
    unfold zse at h
    rw [Bool.and_eq_true] at h
    rcases zL.1 hi with rfl | hi
    · have h1:=h.1
      simp only [Bool.or_eq_true,Bool.not_eq_true'] at h1
      rcases h1 with h1 | h1 | h1
      · exact .inl h1
      · exact .inr (.inl h1)
      · split at h1
        · rename_i o ho; exact .inr (.inr ⟨o,ho,h1⟩)
        · cases h1
    · exact zoc h.2 i hi
theorem zpM {P:Program} {all:List Oper} {ss p:List Nat}:∀ {l en en2:List Nat},zkv P all ss p l en=some en2→∃ q,en2=q++en
  | [],en,en2,h=>by cases h; exact ⟨[],rfl⟩
  | i :: l,en,en2,h=>by
    unfold zkv at h
    split at h
    · obtain ⟨q,hq⟩:=zpM h
      exact ⟨q++[i],by rw [hq]; simp⟩
    · cases h
theorem zpN {P:Program} {all:List Oper} {ss p:List Nat}:∀ {l en en2 en':List Nat},zkv P all ss p l en=some en2→en2=en'++en→∀ j,zV j en'=true→zV j en=false
  | [],en,en2,en',h,he,j,hj=>by
    cases h
    have:en'=[]:=by
      have:=congrArg List.length he
      simp at this
      exact this
    rw [this] at hj
    cases hj
  | i :: l,en,en2,en',h,he,j,hj=>by
    unfold zkv at h
    split at h
    · rename_i hk
      simp only [Bool.and_eq_true,Bool.not_eq_true'] at hk
      obtain ⟨q,hq⟩:=zpM h
      have e1:en'=q++[i]:=by
        have:q++(i :: en)=en'++en:=hq.symm.trans he
        rw [show q++(i :: en)=(q++[i])++en by simp] at this
        exact (List.append_cancel_right this).symm
      rw [e1] at hj
      rcases zbI.1 hj with h1 | h1
      · have:=zpN h hq j h1
        cases hm:zV j en with
        | false=>rfl
        | true=>rw [zL.2 (.inr hm)] at this; cases this
      · have:j=i:=by simpa [zV,Nat.beq_eq] using (zL.1 h1).resolve_right (by simp [zV])
        subst this
        exact hk.2.1
    · cases h
section
variable {P : Program} {c : Cl} {r : Xo} {all : List Oper} {ss : List Nat} {env0 : Ev}
theorem zpG {o:Oper} {env:Ev} {st:St} {v:XV} {s':Sx} (ht:zio P o.op=false) (h:ziA P o.op env st (fun a st'=>a=dec v∧ze7 s' st')):aop P env st o.op=some (dec v,st)∧ze7 s' st∧zdB o.op=false:=by
  have hi:=zm4 ht
  unfold ziA at h
  rw [hi] at h
  simp only at h
  cases ha:aop P env st o.op with
  | none=>rw [ha] at h; exact h.elim
  | some x =>
    obtain ⟨a,st'⟩:=x
    rw [ha] at h
    obtain ⟨rfl,h2⟩:=h
    have:=zn3 ht ha
    subst this
    exact ⟨rfl,h2,hi⟩
variable (hc : zsS P c) (hr : r ≠ .no) (hu : ∀ i j t, zai all i = some t → zai all j = some t → i = j)
include hc hr hu
theorem zsv {p en:List Nat} {F:Ev} {e:Fe} {s:Sx} {st:St} {i:Nat} {kx:Kx} (h:(ztF P all i kx).go c e s=r) (hI:Inv P all ss env0 p en F e) (hP:zoK P all env0 p en F st) (hs:ze7 s st)
    (hiS:zV i ss=false) (hiE:zV i en=false) (hw:zcT all ss p en i=true) (hro:zi4 all (p++en) i=true) (htn:∃ o,all[i]?=some o∧zio P o.op=false) :
    ∃ F' e' s' new,kx c e' s'=r∧ze7 s' st∧Inv P all ss env0 p (i :: en) F' e'∧zoK P all env0 p (i :: en) F' st∧F'=new++F∧(∀ t,t∈zaB new→zai all i=some t)∧(∀ t u,zJ F t=some u→zJ F' t=some u):=by
  obtain ⟨o,ho,ht⟩:=htn
  · have hdone:=zlp hw
    obtain ⟨g1,g2⟩:=hI.reads ho hdone hro
    have h':(cgd P all o kx).go c e s=r:=by unfold ztF at h; rw [ho] at h; exact h
    obtain ⟨f,hf,hcase⟩:=zuy (st:=st) hc hr h' g1 hs g2
    have hp:zV i p=false:=by
      cases hm:zV i p with
      | false=>rfl
      | true=>rw [hI.pN i hm] at hiS; cases hiS
    have hdi:zai all i=o.dst:=by unfold zai; rw [ho]; rfl
    have main:∀ (v:XV) (s':Sx),kx c (f v e) s'=r→ze7 s' st→znS P all (ea all env0 i) st F o (dec v) →
        ∃ F' e' s' new,kx c e' s'=r∧ze7 s' st∧Inv P all ss env0 p (i :: en) F' e'∧zoK P all env0 p (i :: en) F' st∧F'=new++F∧(∀ t,t∈zaB new→zai all i=some t)∧(∀ t u,zJ F t=some u→zJ F' t=some u):=fun v s' q1 q2 q3=>by
      obtain ⟨x1,x2,x3,x4⟩:=hI.ext hu ho hp hiE hf v
      have hPi:zcE P all env0 (aput o.dst (dec v) F) st i:=by
        unfold zcE
        rw [ho]
        refine ⟨dec v,?_,?_⟩
        · cases hd:o.dst with
          | none=>trivial
          | some t =>
            have:=(x4 t (by rw [hdi,hd])).1
            rw [hd] at this
            exact this
        · unfold znS at q3 ⊢
          rw [znI (F:=F) fun t ht=>by
            obtain ⟨u,hu'⟩:=hI.dep ho hdone ht
            exact ⟨u,hu',x2 t u hu'⟩]
          exact q3
      refine ⟨aput o.dst (dec v) F,f v e,s',aput o.dst (dec v) [],q1,q2,⟨x1,fun t u htu=>?_,fun j t hj hd=>?_,fun j hj x hx=>?_,fun j hj=>?_,hI.pN,fun j hj=>?_⟩,fun j hj hpe=>?_,?_,fun t ht'=>?_,x2⟩
      · rcases x3 t u htu with h | h
        · exact ⟨i,h,.inr (zL.2 (.inl rfl))⟩
        · obtain ⟨j,h1,h2⟩:=hI.keys t u h
          exact ⟨j,h1,h2.imp id (fun h=>zL.2 (.inr h))⟩
      · rcases hj with hj | hj
        · obtain ⟨u,h1⟩:=hI.has j t (.inl hj) hd
          exact ⟨u,x2 t u h1⟩
        · rcases zL.1 hj with rfl | hj
          · exact ⟨_,(x4 t hd).1⟩
          · obtain ⟨u,h1⟩:=hI.has j t (.inr hj) hd
            exact ⟨u,x2 t u h1⟩
      · have:zV x p=true∨zV x en=true:=by
          rcases hj with hj | hj
          · exact hI.deps j (.inl hj) x hx
          · rcases zL.1 hj with rfl | hj
            · exact hdone x hx
            · exact hI.deps j (.inr hj) x hx
        exact this.imp id (fun h=>zL.2 (.inr h))
      · rcases zL.1 hj with rfl | hj
        · exact hiS
        · exact hI.enN j hj
      · rcases zL.1 hj with rfl | hj
        · exact ⟨o,ho,ht⟩
        · exact hI.pT j hj
      · rcases zL.1 hj with rfl | hj
        · exact hPi
        · exact hI.more x2 (.inr hj) (hP j hj hpe)
      · cases o.dst <;> rfl
      · cases hd:o.dst with
        | none=>rw [hd] at ht'; cases ht'
        | some d =>
          rw [hd] at ht'
          have:t=d:=by simpa [aput,zaB] using ht'
          rw [hdi,hd,this]
    rcases hcase with ⟨hg,v,s',q1,q2⟩ | ⟨hg,q1⟩
    · obtain ⟨a1,a2,a3⟩:=zpG ht q2
      refine main v s' q1 a2 ?_
      unfold znS
      rw [hg]
      simp only
      unfold ziA
      rw [a3]
      simp only
      rw [a1]
      exact ⟨rfl,rfl⟩
    · refine main (.p 7 0 0 0) s q1 hs ?_
      unfold znS
      rw [hg]
      rfl
theorem zrG {p:List Nat}:∀ {l:List Nat} {en en2:List Nat} {F:Ev} {e:Fe} {s:Sx} {st:St} {kx:Kx},(zoT P all l kx).go c e s=r→Inv P all ss env0 p en F e→zoK P all env0 p en F st→ze7 s st→zkv P all ss p l en=some en2 →
    ∃ F' e' s' new en',kx c e' s'=r∧ze7 s' st∧Inv P all ss env0 p en2 F' e'∧zoK P all env0 p en2 F' st∧F'=new++F∧en2=en'++en∧(∀ t,t∈zaB new→∃ j,zV j en'=true∧zai all j=some t)∧(∀ t u,zJ F t=some u→zJ F' t=some u)
  | [],en,en2,F,e,s,st,kx,h,hI,hP,hs,ho=>by
    cases ho
    exact ⟨F,e,s,[],[],h,hs,hI,hP,rfl,rfl,(fun t h=>absurd h List.not_mem_nil),fun _ _ h=>h⟩
  | i :: l,en,en2,F,e,s,st,kx,h,hI,hP,hs,ho=>by
    unfold zkv at ho
    split at ho
    · rename_i hk
      simp only [Bool.and_eq_true,Bool.not_eq_true'] at hk
      have h':(match zoT P all l kx with | .f k=>ztF P all i k).go c e s=r:=h
      cases hl:zoT P all l kx with
      | f k1 =>
        rw [hl] at h'
        obtain ⟨F1,e1,s1,n1,a1,a2,a3,a4,a5,a6,a7⟩:=zsv hc hr hu h' hI hP hs hk.1 hk.2.1 hk.2.2.1 hk.2.2.2.1 (by
          have h5:=hk.2.2.2.2
          cases ho:all[i]? with
          | none=>rw [ho] at h5; cases h5
          | some o=>rw [ho] at h5; exact ⟨o,rfl,by simpa using h5⟩)
        obtain ⟨F2,e2,s2,n2,en',b1,b2,b3,b4,b5,b6,b7,b8⟩:=zrG (l:=l) (kx:=kx) (by rw [hl]; exact a1) a3 a4 a2 ho
        refine ⟨F2,e2,s2,n2++n1,en'++[i],b1,b2,b3,b4,by rw [b5,a5,List.append_assoc],by rw [b6]; simp,fun t ht=>?_,fun t u h=>b8 t u (a7 t u h)⟩
        have:t∈zaB n2∨t∈zaB n1:=by
          clear b5 b6 b7 b8
          induction n2 with
          | nil=>exact .inr ht
          | cons x n2 ih =>
            obtain ⟨q,y⟩:=x
            rcases List.mem_cons.1 ht with h | h
            · exact .inl (by rw [h]; simp [zaB])
            · exact (ih h).imp (fun h=>List.mem_cons_of_mem _ h) id
        rcases this with h | h
        · obtain ⟨j,h1,h2⟩:=b7 t h
          exact ⟨j,zi2.2 (.inl h1),h2⟩
        · exact ⟨i,zi2.2 (.inr (by simp [zV])),a6 t h⟩
    · cases ho
theorem zwn {p en:List Nat} {F:Ev} {e:Fe} {s:Sx} {st:St} {i:Nat} {kx:Kx} (h:(cCk P all i kx).go c e s=r) (hI:Inv P all ss env0 p en F e) (hs:ze7 s st) (hi:zV i en=true) (hro:zi4 all (p++en) i=true) (hOld:zhO all i p=true→∃ st0,zcE P all env0 F st0 i) :
    ∃ s',kx c e s'=r∧ze7 s' st∧(zhO all i p=true→zcE P all env0 F st i):=by
  obtain ⟨o,ho,ht⟩:=hI.pT i hi
  have hdone:=hI.deps i (.inr hi)
  obtain ⟨g1,g2⟩:=hI.reads ho hdone hro
  have hdi:zai all i=o.dst:=by unfold zai; rw [ho]; rfl
  have fin:∀ {g:Cl→Fe→Sx→Xo},zvk P o kx=.f g→g c e s=r→zdn (zs0 all env0 F i o) (zcN all o.guard)=some true→∃ s',kx c e s'=r∧ze7 s' st∧(zhO all i p=true→zcE P all env0 F st i):=fun {g} hx hg hgu=>by
    have close:∀ {v:XV} {s':Sx},ziA P o.op (zs0 all env0 F i o) st (fun a st'=>a=dec v∧ze7 s' st')→(match o.dst with | some t=>zJ F t=some (dec v) | none=>True)→ze7 s' st∧zcE P all env0 F st i:=fun {v s'} q1 q2=>by
      obtain ⟨a1,a2,a3⟩:=zpG ht q1
      refine ⟨a2,?_⟩
      unfold zcE
      rw [ho]
      refine ⟨dec v,q2,?_⟩
      unfold znS
      rw [show zdn (sel F (ea all env0 i) (zbd all o.after.toList)) (zcN all o.guard)=some true from hgu]
      simp only
      unfold ziA
      rw [a3]
      simp only
      rw [a1]
      exact ⟨rfl,rfl⟩
    unfold zvk at hx
    cases hd:o.dst with
    | none =>
      rw [hd] at hx
      have hx':cop P (fun c v e s=>kx c e s) o.op=.f g:=hx
      have h2:(cop P (fun c v e s=>kx c e s) o.op).go c e s=r:=by rw [hx']; exact hg
      obtain ⟨v,s',h3,h4⟩:=zsf hr hs hc h2 g1
      obtain ⟨a,b⟩:=close h4 (by rw [hd]; trivial)
      exact ⟨s',h3,a,fun _=>b⟩
    | some t =>
      rw [hd] at hx
      simp only at hx
      cases htm:ctm t with
      | g hh =>
        rw [htm] at hx
        simp only at hx
        have h2:(cop P (fun c v e s=>hh e fun u=>ifB (zun v u) (kx c e s)) o.op).go c e s=r:=by rw [hx]; exact hg
        obtain ⟨v,s',h3,h4⟩:=zsf hr hs hc h2 g1
        obtain ⟨u,h5,h6,h7⟩:=zoV htm h3 hr
        obtain ⟨h8,h9⟩:=zaa h7 hr
        have e1:=zpv h8
        subst e1
        have h10:zJ F t=some (dec v):=by
          obtain ⟨u,hu'⟩:=hI.has i t (.inr hi) (by rw [hdi,hd])
          have:=hI.env t v trivial h5 h6
          rw [zmi,hu'] at this
          rw [hu']; exact this
        obtain ⟨a,b⟩:=close h4 (by rw [hd]; exact h10)
        exact ⟨s',h9,a,fun _=>b⟩
  unfold cCk at h
  rw [ho] at h
  simp only at h
  cases hx:zvk P o kx with
  | f g =>
    rw [hx] at h
    simp only at h
    cases hg:o.guard with
    | none =>
      rw [hg] at h
      exact fin hx h (by rw [hg]; rfl)
    | some jw =>
      obtain ⟨j,w⟩:=jw
      rw [hg] at h
      simp only at h
      cases hj:zai all j with
      | none=>rw [hj] at h; exact absurd h.symm hr
      | some t' =>
        rw [hj] at h
        simp only at h
        cases htm:ctm t' with
        | g hh =>
          rw [htm] at h
          obtain ⟨v,h1,h2,h3⟩:=zoV htm h hr
          obtain ⟨tt,b,_,_,rfl,h4⟩:=zhn h3 hr
          have hl:=g2 j w t' _ hg hj h1 h2
          have hgo:zcN all o.guard=some (some t',w):=by rw [hg]; show some (zai all j,w)=_; rw [hj]
          have undefd:zdn (zs0 all env0 F i o) (zcN all o.guard)=some false→kx c e s=r→∃ s',kx c e s'=r∧ze7 s' st∧(zhO all i p=true→zcE P all env0 F st i):=fun hgu hk=>by
            refine ⟨s,hk,hs,fun hp=>?_⟩
            obtain ⟨st0,hO⟩:=hOld hp
            unfold zcE at hO ⊢
            rw [ho] at hO ⊢
            obtain ⟨u,o1,o2⟩:=hO
            refine ⟨u,o1,?_⟩
            unfold znS at o2 ⊢
            rw [show zdn (sel F (ea all env0 i) (zbd all o.after.toList)) (zcN all o.guard)=some false from hgu] at o2 ⊢
            exact o2
          cases h7:Nat.beq tt 3 with
          | true =>
            rw [h7] at h4
            rw [zP h7] at hl
            have hl':zJ (zs0 all env0 F i o) t'=some (.lit (.bool (!Nat.beq b 0))):=hl
            cases hb:Bool.xor (!(Nat.beq b 0)) w with
            | false =>
              rw [hb] at h4
              have:((!Nat.beq b 0) == w)=true:=by revert hb; cases (!Nat.beq b 0) <;> cases w <;> simp
              exact fin hx h4 (by rw [hgo]; unfold zdn; simp only; rw [hl']; simp only; rw [this])
            | true =>
              rw [hb] at h4
              have:((!Nat.beq b 0) == w)=false:=by revert hb; cases (!Nat.beq b 0) <;> cases w <;> simp
              exact undefd (by rw [hgo]; unfold zdn; simp only; rw [hl']; simp only; rw [this]) h4
          | false =>
            rw [h7] at h4
            obtain ⟨h8,h9⟩:=zaa h4 hr
            rw [zP h8] at hl
            have hl':zJ (zs0 all env0 F i o) t'=some (.lit (.tuple #[])):=hl
            exact undefd (by rw [hgo]; unfold zdn; simp only; rw [hl']) h9
theorem zuA {p en:List Nat} {F:Ev} {e:Fe} {st:St} (hI:Inv P all ss env0 p en F e) (hOld:∀ i,zV i en=true→zhO all i p=true→∃ st0,zcE P all env0 F st0 i):∀ {l:List Nat} {s:Sx} {kx:Kx},(zum P all l kx).go c e s=r→ze7 s st→(l.all fun i=>zV i en&&zi4 all (p++en) i)=true →
    ∃ s',kx c e s'=r∧ze7 s' st∧∀ i,zV i l=true→zhO all i p=true→zcE P all env0 F st i
  | [],s,kx,h,hs,ha=>⟨s,h,hs,fun i hi=>by cases hi⟩
  | i :: l,s,kx,h,hs,ha=>by
    simp only [List.all_cons,Bool.and_eq_true] at ha
    have h':(match zum P all l kx with | .f k=>cCk P all i k).go c e s=r:=h
    cases hl:zum P all l kx with
    | f k1 =>
      rw [hl] at h'
      obtain ⟨s1,a1,a2,a3⟩:=zwn hc hr hu h' hI hs ha.1.1 ha.1.2 (hOld i ha.1.1)
      obtain ⟨s2,b1,b2,b3⟩:=zuA hI hOld (l:=l) (kx:=kx) (by rw [hl]; exact a1) a2 (by simpa using ha.2)
      refine ⟨s2,b1,b2,fun j hj=>?_⟩
      rcases zL.1 hj with rfl | hj
      · exact a3
      · exact b3 j hj
theorem zqk {F:Ev} {st st':St} {i:Nat} {o:Oper} (ho:all[i]?=some o) (ht:zio P o.op=false) (hpl:zk9 o.op=true) (h:zcE P all env0 F st i):zcE P all env0 F st' i:=by
  unfold zcE at h ⊢
  rw [ho] at h ⊢
  obtain ⟨v,h1,h2⟩:=h
  refine ⟨v,h1,?_⟩
  unfold znS at h2 ⊢
  split at h2
  · rename_i hg
    try rw [hg]
    try simp only
    unfold ziA at h2 ⊢
    rw [zm4 ht] at h2 ⊢
    simp only at h2 ⊢
    cases ha:aop P (sel F (ea all env0 i) (zbd all o.after.toList)) st o.op with
    | none=>rw [ha] at h2; exact h2.elim
    | some x =>
      obtain ⟨a,s1⟩:=x
      rw [ha] at h2
      rw [zsu hpl ha st']
      exact ⟨h2.1,rfl⟩
  · rename_i hg
    try rw [hg]
    exact h2
  · exact h2.elim
theorem ztd (hok:∀ (i:Nat) o,all[i]?=some o→∀ ed∈o.after.toList,Region.binds .any ed=true→ed.on < i):∀ {gs:List Stg} {p en:List Nat} {F:Ev} {e:Fe} {s:Sx} {st:St},(zqP P all gs (fun _ e s=>.nm e s)).go c e s=r→Inv P all ss env0 p en F e→zoK P all env0 p en F st→ze7 s st→zmY P all ss gs p en=true →
    DTf P all ss env0 (fun env st=>QX r .normal env st) (gs.map (·.s)) p en F st
  | [],p,en,F,e,s,st,h,hI,hP,hs,ho=>by
    have h':Xo.nm e s=r:=h
    subst h'
    have ho':(zeN all ss p en&&zjp p ss)=true:=ho
    rw [Bool.and_eq_true] at ho'
    refine ⟨zoJ hP,ho'.1,rfl,fun t v _ ht hv=>?_,hs⟩
    have h1:=hI.env t v trivial ht hv
    rw [zmi] at h1 ⊢
    cases hF:zJ F t with
    | some u=>rw [hF] at h1; exact h1
    | none =>
      rw [hF] at h1
      simp only at h1 ⊢
      rw [zkg fun hm=>?_]
      · exact h1
      · have key:∀ j,j < all.length→(zV j p=true∨zV j en=true):=fun j=>by
          induction j using Nat.strongRecOn with
          | _ j ih =>
            intro hj
            cases hjs:zV j ss with
            | true=>exact .inl (ziB ho'.2 j hjs)
            | false =>
              have hcl:=(List.all_eq_true.1 ho'.1) j (List.mem_range.2 hj)
              rw [hjs,Bool.false_or] at hcl
              have hw:zcT all ss p en j=true:=by
                unfold zcT
                rw [List.getElem?_eq_getElem hj]
                simp only [List.all_eq_true,Bool.or_eq_true,Bool.not_eq_true']
                intro ed hed
                cases hb:Region.binds .any ed with
                | false=>exact .inl rfl
                | true =>
                  refine .inr ?_
                  have hlt:=hok j all[j] (List.getElem?_eq_getElem hj) ed hed hb
                  have:=ih ed.on hlt (by omega)
                  split
                  · rename_i hq; exact ziB ho'.2 _ hq
                  · rename_i hq
                    rcases this with h | h
                    · rw [hI.pN _ h] at hq; exact absurd rfl hq
                    · exact h
              rw [hw] at hcl
              exact .inr (by simpa using hcl)
        obtain ⟨j,hj⟩:∃ j,zai all j=some t:=zoW hm
        have hjl:j < all.length:=by
          unfold zai at hj
          cases hq:all[j]? with
          | none=>rw [hq] at hj; cases hj
          | some o=>exact (List.getElem?_eq_some_iff.1 hq).1
        obtain ⟨u,h2⟩:=hI.has j t (key j hjl) hj
        rw [hF] at h2
        cases h2
  | g :: gs,p,en,F,e,s,st,h,hI,hP,hs,ho=>by
    unfold zmY at ho
    simp only [Bool.and_eq_true,Bool.not_eq_true'] at ho
    obtain ⟨o1,o2,o3,o4,o5,o6,o7,o8⟩:=ho
    split at o8
    case h_2=>cases o8
    rename_i en2 hro
    refine ⟨zoJ hP,o1,?_⟩
    have h':(match zqP P all gs (fun _ e s=>.nm e s) with | .f k=>(match zoT P all g.rs k with | .f k=>(match zum P all g.ck k with | .f k=>ztF P all g.s k))).go c e s=r:=h
    cases hl:zqP P all gs (fun _ e s=>Xo.nm e s) with
    | f k1 =>
      cases hl2:zoT P all g.rs k1 with
      | f k2 =>
        cases hl3:zum P all g.ck k2 with
        | f k3 =>
          rw [hl] at h'
          simp only at h'
          rw [hl2] at h'
          simp only at h'
          rw [hl3] at h'
          simp only at h'
          unfold ztF at h'
          cases ho:all[g.s]? with
          | none=>rw [ho] at h'; exact absurd h'.symm hr
          | some o =>
            rw [ho] at h'
            simp only at h' ⊢
            have hdone:=zlp o4
            obtain ⟨g1,g2⟩:=hI.reads ho hdone o5
            obtain ⟨f,hf,hcase⟩:=zuy (st:=st) hc hr h' g1 hs g2
            have hdi:zai all g.s=o.dst:=by unfold zai; rw [ho]; rfl
            have hsen:zV g.s en=false:=by
              cases hm:zV g.s en with
              | false=>rfl
              | true=>rw [hI.enN _ hm] at o2; cases o2
            have main:∀ (v:XV) (s':Sx) (st':St),k3 c (f v e) s'=r→ze7 s' st'→(∃ en' new,(∀ i,zV i en'=true→zV i ss=false)∧zcy (zaB new) F=true∧zfI all ((g.s :: p)++(en'++en)) (zaB new)=true∧(match o.dst with | some t=>zJ (new++F) t=some (dec v) | none=>True) ∧
                DTf P all ss env0 (fun env st=>QX r .normal env st) (gs.map (·.s)) (g.s :: p) (en'++en) (new++F) st'):=fun v s' st' q1 q2=>by
              obtain ⟨x1,x2,x3,x4⟩:=hI.ext hu ho o3 hsen hf v
              have hI1:Inv P all ss env0 (g.s :: p) en (aput o.dst (dec v) F) (f v e):=by
                refine ⟨x1,fun t u htu=>?_,fun j t hj hd=>?_,fun j hj x hx=>?_,hI.enN,fun j hj=>?_,hI.pT⟩
                · rcases x3 t u htu with h | h
                  · exact ⟨g.s,h,.inl (zL.2 (.inl rfl))⟩
                  · obtain ⟨j,h1,h2⟩:=hI.keys t u h
                    exact ⟨j,h1,h2.imp (fun h=>zL.2 (.inr h)) id⟩
                · rcases hj with hj | hj
                  · rcases zL.1 hj with rfl | hj
                    · exact ⟨_,(x4 t hd).1⟩
                    · obtain ⟨u,h1⟩:=hI.has j t (.inl hj) hd
                      exact ⟨u,x2 t u h1⟩
                  · obtain ⟨u,h1⟩:=hI.has j t (.inr hj) hd
                    exact ⟨u,x2 t u h1⟩
                · have:zV x p=true∨zV x en=true:=by
                    rcases hj with hj | hj
                    · rcases zL.1 hj with rfl | hj
                      · exact hdone x hx
                      · exact hI.deps j (.inl hj) x hx
                    · exact hI.deps j (.inr hj) x hx
                  exact this.imp (fun h=>zL.2 (.inr h)) id
                · rcases zL.1 hj with rfl | hj
                  · exact o2
                  · exact hI.pN j hj
              have hold:∀ i,zV i en=true→zhO all i (g.s :: p)=true→zcE P all env0 (aput o.dst (dec v) F) st i:=fun i hi hpe=>by
                unfold zhO at hpe
                rw [Bool.and_eq_true] at hpe
                exact hI.more x2 (.inr hi) (hP i hi hpe.2)
              obtain ⟨s2,a1,a2,a3⟩:=zuA hc hr hu hI1 (fun i hi hpe=>⟨st,hold i hi hpe⟩) (l:=g.ck) (kx:=k2) (by rw [hl3]; exact q1) q2 (by
                rw [List.all_eq_true] at o7 ⊢
                exact o7)
              have hP1:zoK P all env0 (g.s :: p) en (aput o.dst (dec v) F) st':=fun i hi hpe=>by
                have hck:=zoc o6 i hi
                rcases hck with h | h | ⟨oi,h,h2⟩
                · exact a3 i h hpe
                · rw [hpe] at h; cases h
                · obtain ⟨oi',h3,h4⟩:=hI.pT i hi
                  rw [h] at h3
                  cases h3
                  exact zqk hc hr hu h h4 h2 (hold i hi hpe)
              obtain ⟨F2,e2,s3,newR,en',b1,b2,b3,b4,b5,b6,b7,b8⟩:=zrG hc hr hu (l:=g.rs) (kx:=k1) (by rw [hl2]; exact a1) hI1 hP1 a2 hro
              have hsplit:F2=(newR++aput o.dst (dec v) [])++F:=by rw [b5]; cases o.dst <;> simp [aput]
              have hks:∀ t,t∈zaB (newR++aput o.dst (dec v) [])→∃ j,zV j ((g.s :: p)++(en'++en))=true∧zai all j=some t∧zV j p=false∧zV j en=false:=fun t ht=>by
                have:t∈zaB newR∨o.dst=some t:=by
                  clear hsplit b5 b7
                  induction newR with
                  | nil =>
                    cases hd:o.dst with
                    | none=>rw [hd] at ht; cases ht
                    | some d =>
                      rw [hd] at ht
                      have:t=d:=by simpa [aput,zaB] using ht
                      exact .inr (by rw [this])
                  | cons x n2 ih =>
                    obtain ⟨q,y⟩:=x
                    rcases List.mem_cons.1 ht with h | h
                    · exact .inl (by rw [h]; simp [zaB])
                    · exact (ih h).imp (fun h=>List.mem_cons_of_mem _ h) id
                rcases this with h | h
                · obtain ⟨j,h1,h2⟩:=b7 t h
                  refine ⟨j,zi2.2 (.inr (zi2.2 (.inl h1))),h2,?_,?_⟩
                  · cases hm:zV j p with
                    | false=>rfl
                    | true =>
                      have:=b3.enN j (by rw [b6]; exact zi2.2 (.inl h1))
                      rw [hI.pN j hm] at this; cases this
                  · cases hm:zV j en with
                    | false=>rfl
                    | true=>exact absurd hm (by rw [zpN hro b6 j h1]; simp)
                · exact ⟨g.s,zi2.2 (.inl (zL.2 (.inl rfl))),by rw [hdi,h],o3,hsen⟩
              refine ⟨en',newR++aput o.dst (dec v) [],fun i hi=>b3.enN i (by rw [b6]; exact zi2.2 (.inl hi)),zmU fun t ht=>?_,zoj fun t ht=>?_,?_,?_⟩
              · obtain ⟨j,h1,h2,h3,h4⟩:=hks t ht
                cases hF:zJ F t with
                | none=>rfl
                | some u =>
                  obtain ⟨j',h5,h6⟩:=hI.keys t u hF
                  have:=hu _ _ _ h5 h2
                  subst this
                  rcases h6 with h6 | h6
                  · rw [h3] at h6; cases h6
                  · rw [h4] at h6; cases h6
              · obtain ⟨j,h1,h2,_,_⟩:=hks t ht
                exact ⟨j,h1,h2⟩
              · rw [← hsplit]
                cases hd:o.dst with
                | none=>trivial
                | some t =>
                  have h5:=(x4 t (by rw [hdi,hd])).1
                  exact b8 t _ h5
              · rw [← hsplit,← b6]
                exact ztd hok (gs:=gs) (by rw [hl]; exact b1) b3 b4 b2 o8
            rcases hcase with ⟨hg,v,s',q1,q2⟩ | ⟨hg,q1⟩
            · rw [show zdn (sel F (ea all env0 g.s) (zbd all o.after.toList)) (zcN all o.guard)=some true from hg]
              exact q2.mono fun a st' ⟨e1,e2⟩=>by subst e1; exact main v s' st' q1 e2
            · rw [show zdn (sel F (ea all env0 g.s) (zbd all o.after.toList)) (zcN all o.guard)=some false from hg]
              exact main (.p 7 0 0 0) s st q1 hs
end
end Go.Proofs.YthmnlfenkhmmhaaGreat
namespace Go.Proofs.YthmnlfenkhmmhaaGreat
set_option linter.unusedSimpArgs false
set_option linter.unusedVariables false
set_option linter.unusedSectionVars false
theorem zo1 {all:List Oper} {ms:List Nat}:∀ {n s q:Nat},zq9 all ms n s q=true→TW all s q
  | 0,s,q,h=>by cases h
  | n+1,s,q,h=>by
    unfold zq9 at h
    cases hw:ze6 all s q with
    | true=>exact .one hw
    | false =>
      rw [hw,Bool.false_or] at h
      split at h
      · rename_i j hj
        have:=List.find?_some hj
        rw [Bool.and_eq_true] at this
        exact .more this.1 (zo1 h)
      · cases h
theorem zsN {all:List Oper} {i s:Nat} (h:ze6 all i s=true):i < all.length:=by
  unfold ze6 at h
  cases ho:all[i]? with
  | none=>rw [ho] at h; cases h
  | some o=>exact (List.getElem?_eq_some_iff.1 ho).1
theorem zob {all:List Oper} {ms:List Nat}:∀ {l:List Nat} {q:Nat},zkM all ms l (some q)=true→znR all (q :: l)
  | [],_,_=>trivial
  | s :: l,q,h=>by
    unfold zkM at h
    rw [Bool.and_eq_true] at h
    refine ⟨?_,zob h.2⟩
    have h1:=h.1
    unfold zsh
    cases ho:all[s]? with
    | none=>rw [ho] at h1; cases h1
    | some o =>
      rw [ho] at h1
      simp only at h1 ⊢
      cases hf:zuo o with
      | true =>
        rw [hf] at h1
        intro i hi
        have:=List.all_eq_true.1 h1 i (List.mem_range.2 (zsN hi))
        rw [hi] at this
        exact zo1 (by simpa using this)
      | false =>
        rw [hf] at h1
        exact zo1 h1
theorem zqT {all:List Oper} {ms:List Nat}:∀ {l:List Nat},zkM all ms l none=true→znR all l
  | [],_=>trivial
  | s :: l,h=>zob h
theorem zrM {P:Program} {all:List Oper} {ss:List Nat}:∀ {gs:List Stg} {p en:List Nat},zmY P all ss gs p en=true→(∀ i,i∈gs.map (·.s)→zV i ss=true)∧(∀ i,zV i ss=true→zV i p=true∨i∈gs.map (·.s))
  | [],p,en,h=>by
    have h':(zeN all ss p en&&zjp p ss)=true:=h
    rw [Bool.and_eq_true] at h'
    exact ⟨fun i hi=>(by cases hi),fun i hi=>.inl (ziB h'.2 i hi)⟩
  | g :: gs,p,en,h=>by
    unfold zmY at h
    simp only [Bool.and_eq_true] at h
    obtain ⟨o1,o2,o3,o4,o5,o6,o7,o8⟩:=h
    split at o8
    · obtain ⟨h1,h2⟩:=zrM o8
      refine ⟨fun i hi=>?_,fun i hi=>?_⟩
      · rcases List.mem_cons.1 hi with rfl | hi
        · exact o2
        · exact h1 i hi
      · rcases h2 i hi with h | h
        · rcases zL.1 h with rfl | h
          · exact .inr (by simp)
          · exact .inl h
        · exact .inr (List.mem_cons_of_mem _ h)
    · cases o8
theorem zuE {P:Program} (hm:P.follows .mixedOrders=true):zpm P:=by
  intro c n nb0 id ops e s env st r hc hr h hE hs
  unfold ztB at h
  generalize zvb P ops.toList 0=rows at h
  simp only at h
  cases hp:zt7 rows 0 [] with
  | mk r0 D =>
    rw [hp] at h
    simp only at h
    generalize zwf rows ops.toList.length D 0=gs at h
    cases hk:zvP P n ops.toList (cmS rows) (zv7 rows) r0 gs with
    | false=>rw [hk] at h; exact absurd h.symm hr
    | true =>
      rw [hk] at h
      simp only at h
      generalize zv7 rows=ss at hk
      generalize cmS rows=ms at hk
      unfold zvP at hk
      simp only [Bool.and_eq_true] at hk
      obtain ⟨⟨q1,q2⟩,q3,q4,q5,q6⟩:=hk
      split at q6
      case h_2=>cases q6
      rename_i en0 hro
      obtain ⟨hok1,huniq⟩:=zkJ q2
      cases hl:zqP P ops.toList gs (fun _ e s=>Xo.nm e s) with
      | f k =>
        rw [hl] at h
        simp only at h
        have hI0:Inv P ops.toList ss env [] [] [] e:=⟨hE,fun t v h=>(by cases h),fun j t hj=>(by rcases hj with hj | hj <;> cases hj),fun j hj=>(by rcases hj with hj | hj <;> cases hj),fun j hj=>(by cases hj),fun j hj=>(by cases hj),fun j hj=>(by cases hj)⟩
        obtain ⟨F0,e0,s0,new,en',b1,b2,b3,b4,b5,b6,b7,b8⟩:=zrG hc hr huniq (l:=r0) (kx:=k) h hI0 (fun i hi=>by cases hi) hs hro
        have hD:=ztd hc hr huniq (fun i o ho=>(hok1 i o ho).2) (gs:=gs) (p:=[]) (by rw [hl]; exact b1) b3 b4 b2 q6
        obtain ⟨i1,i2⟩:=zrM q6
        intro A m w a h0 hR hE'
        have hg:zix w { w with drawn:=w.drawn+1 }:=⟨Nat.le_refl _,fun _ _=>rfl,rfl,rfl,rfl⟩
        obtain ⟨hR1,hS1⟩:=hR.grow' hg
        refine wp_region_any hm ?_
        have hf:∀ j,(Array.replicate ops.size false).getD j false=false:=fun j=>by simp [Array.getD]
        refine zuh (n:=n) (nb0:=nb0) (A0:=A) (m0:=m) (w0:=w) (K:=fun env st=>QX r .normal env st) (Q:=fun x a' w'=>zgB A m nb0 w n (QX r x) a' w') q2 (fun i hi=>by simpa using zmj q3 i hi) (fun a w h=>h) (fun i hi=>?_)
          (ops.size+(gs.map (·.s)).length+1) ops.size (gs.map (·.s)) [] en0 F0 st [] _ A m _ a (by omega) hD (zqT q5) (zjj q4) (fun i hi=>⟨i1 i hi,rfl⟩) i2 (fun i hi=>by cases hi) (fun i _ hl=>by rw [hf] at hl; cases hl) (fun i hl=>by rw [hf] at hl; cases hl) b3.enN (fun i hi=>by cases hi) (fun x hx=>by cases hx) (by simp) (by simp)
          (fun s i hs=>by rw [hf] at hs; cases hs) b3.keys (fun j t hl=>by rw [hf] at hl; cases hl) (by simp) ?_ hR1 (hS1.weak h0) hE'.size hE'.defers (fun t v hJ=>?_)
        · unfold zsh at hi
          cases ho:ops.toList[i]? with
          | none=>rw [ho] at hi; cases hi
          | some o =>
            rw [ho] at hi
            simp only at hi
            have h1:=List.all_eq_true.1 q1 o (List.mem_of_getElem? ho)
            rw [hi] at h1
            unfold zuo at hi
            split at hi
            · rename_i hgd
              split at hi
              · rename_i t hop
                rw [hop] at h1
                simp only [Bool.not_true,Bool.false_or] at h1
                cases ht:zR P t with
                | none=>rw [ht] at h1; cases h1
                | some ti=>exact ⟨o,t,ti,by simpa using ho,hgd,hop,ht⟩
              · cases hi
            · cases hi
        · refine Nat.le_trans (List.countP_le_length) ?_
          simp
        · rcases hJ with ⟨hJ,_⟩ | ⟨j,hj,_⟩
          · exact (hE'.step hR hS1).val t v hJ
          · rw [hf] at hj; cases hj
theorem zjd {P:Program} {g:FuncId} (kn:List Nat) (N f:Nat) (hm:P.follows .mixedOrders=true) (hk:∀ g,zV g kn=true→zu P g [] (.lit (.bool true))) (h:zwl (zpl P kn N f g zlf (.st 0 .lf))=true):zu P g [] (.lit (.bool true)) :=
  zvi kn N f (zuE hm) hk h
end Go.Proofs.YthmnlfenkhmmhaaGreat
namespace Go.Proofs.YthmnlfenkhmmhaaGreat
set_option linter.unusedSimpArgs false
set_option linter.unusedVariables false
open Go.ChangeShapes Go.WideShapes Go.ChangeAt Go.RowKit Go.WideMaps Go.WideElems
open Go.ChangeMaps (open_string shut_string)
theorem zix.below {w w':World} (h:zix w w'):Below w.heap.size w w':=⟨h.os,h.tape,h.output,h.size,h.heap⟩
theorem Tryz.ownNot:ownKnob Tryz.prog.godebug=none:=by kernel_rfl
theorem Tryz.laidOut:laidOutB Tryz.prog=true:=by kernel_rfl
section
variable {H : Type} {enc : TypeId × Value → H} {P : Program}
theorem zn6 (hl:laidOutB P=true) {W W':World} (hg:zix W W') {sp:Nat→Bool}:∀ {ts:List TypeId} {vs:List Value} {ds:List (DataW H)} {ps:List MemPlace},
    ts.all (fun t=>P.readableRec t&&decide (t < P.types.size))=true→DataW.TrodAll enc P W 0 (fun _=>true) true ts vs ds ps→(∀ p∈ps,p.block < W.heap.size)→(∀ p∈ps,sp p.block=true)→DataW.TrodAll enc P W' 0 sp true ts vs ds ps
  | [],[],[],ps,_,h,_,_=>h
  | t :: ts,v :: vs,d :: ds,ps,ht,h,hlt,hs=>by
    obtain ⟨p,q,h1,h2,rfl⟩:=h
    simp only [List.all_cons,Bool.and_eq_true,decide_eq_true_eq] at ht
    exact ⟨p,q,WideElems.Trod_stays hl ht.1.1 ht.1.2 h1 (fun x hx=>hg.below.same (hlt x (by simp [hx]))) (fun x hx=>hs x (by simp [hx])),
      zn6 hl hg ht.2 h2 (fun x hx=>hlt x (by simp [hx])) (fun x hx=>hs x (by simp [hx])),rfl⟩
  | [],_ :: _,_,_,_,h,_,_=>h.elim
  | [],[],_ :: _,_,_,h,_,_=>h.elim
  | _ :: _,[],_,_,_,h,_,_=>h.elim
  | _ :: _,_ :: _,[],_,_,h,_,_=>h.elim
theorem zru {f:Func} {s:ChangeSpec} {apart fresh handsOn again:Bool} {W W':World} {args:Array Value} {ds gs:List (DataW H)} {before:List MemPlace} {tb:TypeId}
    (hl:laidOutB P=true) (hW:DataW.Whole enc P f.params.toList s.vars apart W args.toList ds gs before) (hg:zix W W')
    (hts:f.params.toList.all (fun t=>P.readableRec t&&decide (t < P.types.size))=true) (hvars:s.vars=[]) (hr:f.resultTypes=#[tb]) (hb:P.underlying tb=some .bool)
    (hfn:s.fn H (ds++gs)={ results:=[.lit (.bool true)],args:=ds }) :
    s.post enc P f apart fresh handsOn again W args (.bool true) W':=by
  have hlt:=hW.lt
  have hW':=hW
  obtain ⟨p,q,hA,hV,hpq,hz,hn⟩:=hW'
  rw [hvars] at hV
  obtain ⟨rfl,rfl⟩:=trodVars_none hV
  simp only [List.append_nil] at hpq
  subst hpq
  have hargs:∀ sp:Nat→Bool,(∀ x∈before,sp x.block=true)→DataW.TrodAll enc P W' 0 sp true f.params.toList args.toList ds before:=fun sp hsp=>zn6 hl hg hts hA hlt hsp
  have hres:∀ (b:Nat) (sp:Nat→Bool) (hd:Bool),DataW.TrodAll enc P W' b sp hd f.resultTypes.toList ((Value.bool true).resultList f.resultTypes.size) [.lit (.bool true)] []:=fun b sp hd=>by
    rw [hr]; exact trodAll_mk1 (shut_bool hb true)
  have hvs:∀ sp:Nat→Bool,DataW.TrodVars enc P W' sp s.vars ([]:List (DataW H)) []:=fun sp=>by rw [hvars]; rfl
  refine ⟨ds,[],before,[],before,[],hW,by rw [hfn]; exact hres _ _ _,by rw [hfn]; exact hargs _ (fun x hx=>by simpa using hlt x hx),by rw [hfn]; exact hvs _,hg.below.frame _,fun _=>⟨?_,_,_,([]++before)++[],⟨[]++before,[],trodAll_append (hargs _ (fun _ _=>rfl)) (hres _ _ _),hvs _,rfl,?_,?_⟩,?_⟩⟩
  · exact ok_one hr rfl (okWide_bool_mk hb _)
  · intro b off hp
    have hp':MemPlace.cell b off∈before:=by simpa using hp
    rw [hg.below.frozen (p:=⟨b,off,none⟩) (hlt _ hp')]
    exact hz b off hp'
  · intro ha
    simpa using hn ha
  · intro x hx _
    simpa using hx
theorem zu.truly {f:FuncId} {args:List AV} (h:zu P f args (.lit (.bool true))) {W:World} {vals:Array Value} (hv:VIL (fun B=>B < W.heap.size) W args vals) :
    Calls P f vals W fun e w'=>e=.returned (.bool true)∧zix W w' :=
  (h.2 _ W vals (fun _ h=>h) hv).mono fun e w' ⟨v,he,hg,hvi⟩=>by
    cases hvi
    exact ⟨he,hg⟩
theorem zug {A w}:VIL A w [] #[]:=⟨rfl,fun i h=>by simp at h⟩
theorem zpS {A w} {c:AV} {v:Value} {cs:List AV} {vs:List Value} (h:VI A w c v) (t:VIL A w cs vs.toArray):VIL A w (c :: cs) (v :: vs).toArray:=by
  obtain ⟨h1,h2⟩:=t
  refine ⟨by simpa using h1,fun i hi=>?_⟩
  cases i with
  | zero=>simpa using h
  | succ i =>
    have:=h2 i (by simpa using hi)
    simpa [Array.getD] using this
end
end Go.Proofs.YthmnlfenkhmmhaaGreat
namespace Go.Proofs.YthmnlfenkhmmhaaGreat
set_option linter.unusedSimpArgs false
set_option linter.unusedVariables false
open Go.ChangeShapes Go.WideShapes Go.ChangeAt Go.RowKit Go.WideMaps Go.WideElems
def zok (P:Program):Nat→List Field→Option Nat
  | o,[]=>some o
  | o,f :: r=>if f.offset=o then zok P (o+P.cellsOf f.type) r else none
def zow (P:Program):Nat→TypeId→Bool
  | 0,_=>false
  | n+1,t =>
    match P.underlying t with
    | some .bool=>true
    | some (.int _)=>true
    | some .string=>true
    | some (.slice e)=>Nat.blt 0 (P.cellsOf e)&&zow P n e
    | some (.struct fs)=>(zok P 0 fs.toList == some (P.cellsOf t))&&fs.toList.all fun f=>zow P n f.type
    | _=>false
def zpT (P:Program):Nat→TypeId→List AV→Prop
  | 0,_,_=>False
  | n+1,t,avs =>
    match P.underlying t with
    | some .bool=>∃ b,avs=[.lit (.bool b)]
    | some (.int k)=>∃ m,avs=[.lit (.int k m)]∧(Lit.int k m).wf=true
    | some .string=>∃ s:List UInt8,avs=[.lit (.string (B s))]∧s.length≤9223372036854775807
    | some (.slice e)=>∃ els,avs=[.isl (P.cellsOf e) els]∧els.length≤9223372036854775807∧∀ r∈els,zpT P n e r
    | some (.struct fs)=>∃ parts:List (List AV),avs=parts.flatten∧parts.length=fs.size∧∀ (i:Nat) f p,fs[i]?=some f→parts[i]?=some p→zpT P n f.type p
    | _=>False
section
variable {H : Type} {enc : TypeId × Value → H} {P : Program} {W : World}
abbrev zm6 (W:World) (avs:List AV) (cs:List Value):Prop:=avs.length=cs.length∧∀ (i:Nat) av v,avs[i]?=some av→cs[i]?=some v→VI (fun B=>B < W.heap.size) W av v
theorem zoz {a b:List AV} {cs ds:List Value} (h:zm6 W a cs) (k:zm6 W b ds):zm6 W (a++b) (cs++ds):=by
  refine ⟨by simp [h.1,k.1],fun i av v h1 h2=>?_⟩
  by_cases hi:i < a.length
  · rw [List.getElem?_append_left hi] at h1
    rw [List.getElem?_append_left (by rw [← h.1]; exact hi)] at h2
    exact h.2 i av v h1 h2
  · rw [List.getElem?_append_right (by omega)] at h1
    rw [List.getElem?_append_right (by rw [← h.1]; omega),← h.1] at h2
    exact k.2 _ av v h1 h2
theorem zhQ {av:AV} {v:Value} (h:VI (fun B=>B < W.heap.size) W av v):zm6 W [av] [v] :=
  ⟨rfl,fun i a u h1 h2=>by
    cases i with
    | zero=>cases h1; cases h2; exact h
    | succ i=>simp at h1⟩
theorem zqS {w:World} {base:Nat} {a:Addr} {n:Nat} {cs:List Value} (h:w.cells? base a n=some cs):cs.length=n∧∀ j,j < n→w.cell? (a.add j)=cs[j]?:=by
  unfold World.cells? at h
  split at h
  · have key:∀ (l:List Nat) (r:List Value),l.mapM (fun i=>w.cell? (a.add i))=some r→r.length=l.length∧∀ (j:Nat) x,l[j]?=some x→w.cell? (a.add x)=r[j]?:=by
      intro l
      induction l with
      | nil=>intro r hr; simp at hr; subst hr; exact ⟨rfl,fun j x hx=>by simp at hx⟩
      | cons y l ih =>
        intro r hr
        simp only [List.mapM_cons,Option.bind_eq_bind,Option.pure_def] at hr
        cases h1:w.cell? (a.add y) with
        | none=>simp [h1] at hr
        | some b =>
          cases h2:l.mapM (fun i=>w.cell? (a.add i)) with
          | none=>simp [h1,h2] at hr
          | some r' =>
            simp [h1,h2] at hr
            subst hr
            obtain ⟨k1,k2⟩:=ih r' h2
            refine ⟨by simp [k1],fun j x hx=>?_⟩
            cases j with
            | zero=>simp at hx; subst hx; simpa using h1
            | succ j=>simpa using k2 j x (by simpa using hx)
    obtain ⟨h1,h2⟩:=key _ _ h
    refine ⟨by simpa using h1,fun j hj=>h2 j j (by simp [hj])⟩
  · cases h
theorem znH:∀ (n fuel:Nat) (t:TypeId) (cs:List Value) (x:DataW H×List MemPlace),zow P n t=true→DataW.trod enc P W 0 (fun _=>true) true fuel t cs=some x→(∀ p∈x.2,p.block < W.heap.size)→∃ avs,zpT P n t avs∧zm6 W avs cs
  | 0,_,_,_,_,h,_,_=>by cases h
  | n+1,fuel,t,cs,x,hp,hx,hlt=>by
    have hmax:maxLen=9223372036854775807:=by unfold maxLen; decide
    unfold zow at hp
    unfold zpT
    cases hu:P.underlying t with
    | none=>rw [hu] at hp; cases hp
    | some d =>
      rw [hu] at hp
      cases d with
      | bool =>
        obtain ⟨b,rfl,_⟩:=DataW.trod_bool hu hx
        exact ⟨_,⟨b,rfl⟩,zhQ (.lit _)⟩
      | int k =>
        obtain ⟨m,rfl,_,hw⟩:=DataW.trod_int hu hx
        exact ⟨_,⟨m,rfl,hw⟩,zhQ (.lit _)⟩
      | string =>
        obtain ⟨s,rfl,_,hl⟩:=DataW.trod_string hu hx
        exact ⟨_,⟨s.data.toList,rfl,by rw [← hmax]; exact hl⟩,zhQ (.lit _)⟩
      | slice e =>
        simp only [Bool.and_eq_true] at hp
        have hk:0 < P.cellsOf e:=Nat.le_of_ble_eq_true hp.1
        rcases DataW.trod_slice hu hx with ⟨rfl,rfl⟩ | ⟨a,len,cap,elems,rest,n',rfl,rfl,rfl,hb,hl,hm,hlen,hel,hsp,hns⟩
        · exact ⟨_,⟨[],rfl,by simp,fun r hr=>by cases hr⟩,zhQ (.inil _ _ _)⟩
        rcases Nat.eq_zero_or_pos len with h0 | h0
        · subst h0
          exact ⟨_,⟨[],rfl,by simp,fun r hr=>by cases hr⟩,zhQ (.inil _ _ _)⟩
        have hrow:∀ i,∃ r,i < len→zpT P n e r∧r.length=P.cellsOf e∧∃ cl:List Value,cl.length=P.cellsOf e∧(∀ j,j < P.cellsOf e→W.cell? ((a.add (i * P.cellsOf e)).add j)=cl[j]?)∧zm6 W r cl:=fun i=>by
          by_cases hi:i < len
          · have h1:=hel i hi
            have h2:elems[i]?=some elems[i]:=List.getElem?_eq_getElem (by omega)
            rw [h2] at h1
            cases hc:W.cells? 0 (a.add (i * P.cellsOf e)) (P.cellsOf e) with
            | none=>rw [hc] at h1; cases h1
            | some cl =>
              rw [hc] at h1
              obtain ⟨k1,k2⟩:=zqS hc
              obtain ⟨r,g1,g2⟩:=znH n n' e cl elems[i] hp.2 h1 (fun p hpp=>hlt p (by
                simp only [List.mem_append,List.mem_flatMap]
                exact .inr ⟨elems[i],.inl (List.getElem_mem _),hpp⟩))
              exact ⟨r,fun _=>⟨g1,by rw [g2.1,k1],cl,k1,k2,g2⟩⟩
          · exact ⟨[],fun h=>absurd h hi⟩
        obtain ⟨f,hf⟩:=Classical.axiomOfChoice hrow
        have hspot:a.spot=none:=by
          obtain ⟨_,_,cl,k1,k2,_⟩:=hf 0 h0
          have h2:=k2 0 hk
          rw [List.getElem?_eq_getElem (by omega)] at h2
          simp only [Nat.zero_mul,Addr.add,if_true] at h2
          cases hs:a.spot with
          | none=>rfl
          | some q =>
            rw [World.cell?] at h2
            split at h2
            · rw [hs] at h2; simp at h2
            · cases h2
        obtain ⟨B,o,p⟩:=a
        simp only at hspot
        subst hspot
        have hB:B < W.heap.size:=hlt (.cell B (o+0)) (by
          refine List.mem_append.2 (.inl (List.mem_map.2 ⟨0,List.mem_range.2 ?_,rfl⟩))
          exact Nat.mul_pos (by omega) hk)
        have hadd:∀ i j,(((⟨B,o,none⟩:Addr).add (i * P.cellsOf e)).add j)=⟨B,o+i * P.cellsOf e+j,none⟩:=fun i j=>by rw [zf4,zf4]
        refine ⟨_,⟨(List.range len).map f,rfl,by simp; omega,fun r hr=>?_⟩,zhQ ?_⟩
        · obtain ⟨i,hi,rfl⟩:=List.mem_map.1 hr
          exact (hf i (List.mem_range.1 hi)).1
        · have hl2:((List.range len).map f).length=len:=by simp
          have:=VI.isl (A:=fun B=>B < W.heap.size) (w:=W) (P.cellsOf e) ((List.range len).map f) B o cap (fun i j=>(W.cell? ⟨B,o+i * P.cellsOf e+j,none⟩).getD undef) hB (by rw [hl2]; exact hl)
            (fun i hi=>by simp at hi; simpa using (hf i hi).2.1)
            (fun i j hi hj=>by
              rw [hl2] at hi
              obtain ⟨_,_,cl,k1,k2,_⟩:=hf i hi
              have:=k2 j hj
              rw [hadd,List.getElem?_eq_getElem (by omega)] at this
              rw [this]; rfl)
            (fun i hi j hj=>by
              have hi':i < len:=by rw [hl2] at hi; exact hi
              obtain ⟨_,g,cl,k1,k2,g2⟩:=hf i hi'
              have e1:((List.range len).map f)[i]=f i:=by simp
              have hj':j < (f i).length:=by rw [e1] at hj; exact hj
              have h3:=k2 j (by omega)
              rw [hadd] at h3
              show VI _ W _ ((W.cell? _).getD undef)
              rw [h3,List.getElem?_eq_getElem (by omega)]
              have h4:=g2.2 j (f i)[j] cl[j] (List.getElem?_eq_getElem hj') (List.getElem?_eq_getElem (by omega))
              have e2:((List.range len).map f)[i][j]=(f i)[j]:=by simp
              rw [e2]
              exact h4)
          rw [hl2] at this
          exact this
      | struct fs =>
        simp only [Bool.and_eq_true,beq_iff_eq,List.all_eq_true] at hp
        obtain ⟨xs,n',rfl,rfl,hcl,hxl,hfs⟩:=DataW.trod_struct hu hx
        have hfs':∀ (i:Nat) (f:Field),fs.toList[i]?=some f→DataW.trod enc P W 0 (fun _=>true) true n' f.type ((cs.drop f.offset).take (P.cellsOf f.type))=xs[i]?:=fun i f h=>hfs i f (by simpa using h)
        have key:∀ (l:List Field) (k o e:Nat),fs.toList.drop k=l→zok P o l=some e→∃ parts:List (List AV),parts.length=l.length∧(∀ (i:Nat) f p,l[i]?=some f→parts[i]?=some p→zpT P n f.type p)∧zm6 W parts.flatten ((cs.drop o).take (e - o))∧o≤e:=by
          intro l
          induction l with
          | nil =>
            intro k o e _ hl
            simp only [zok,Option.some.injEq] at hl
            subst hl
            exact ⟨[],rfl,fun i f p h=>by simp at h,⟨by simp,fun i av v h=>by simp at h⟩,Nat.le_refl _⟩
          | cons f l ih =>
            intro k o e hd hl
            unfold zok at hl
            split at hl
            · rename_i hoff
              have hk:fs.toList[k]?=some f:=by
                have:(fs.toList.drop k)[0]?=some f:=by rw [hd]; rfl
                simpa using this
              have hd':fs.toList.drop (k+1)=l:=by
                have:=congrArg List.tail hd
                simpa [List.tail_drop] using this
              obtain ⟨parts,p1,p2,p3,p4⟩:=ih (k+1) _ e hd' hl
              have hr:=hfs' k f hk
              have hkl:k < xs.length:=by
                have:=(List.getElem?_eq_some_iff.1 hk).1
                simp at this; omega
              rw [List.getElem?_eq_getElem hkl,hoff] at hr
              obtain ⟨r,g1,g2⟩:=znH n n' f.type _ xs[k] (hp.2 f (List.mem_of_getElem? hk)) hr (fun p hpp=>hlt p (List.mem_flatMap.2 ⟨xs[k],List.getElem_mem _,hpp⟩))
              refine ⟨r :: parts,by simp [p1],fun i f' p h1 h2=>?_,?_,by omega⟩
              · cases i with
                | zero=>simp at h1 h2; subst h1 h2; exact g1
                | succ i=>exact p2 i f' p (by simpa using h1) (by simpa using h2)
              · have e1:(cs.drop o).take (e - o)=(cs.drop o).take (P.cellsOf f.type)++(cs.drop (o+P.cellsOf f.type)).take (e - (o+P.cellsOf f.type)):=by
                  have:e - o=P.cellsOf f.type+(e - (o+P.cellsOf f.type)):=by omega
                  rw [this,List.take_add,List.drop_drop]
                rw [e1,List.flatten_cons]
                exact zoz g2 p3
            · cases hl
        obtain ⟨parts,p1,p2,p3,_⟩:=key fs.toList 0 0 _ rfl hp.1
        refine ⟨parts.flatten,⟨parts,rfl,by simpa using p1,fun i f p h1 h2=>p2 i f p (by simpa using h1) h2⟩,?_⟩
        rwa [List.drop_zero,Nat.sub_zero,List.take_of_length_le (by omega)] at p3
      | _=>cases hp
theorem zsA {n:Nat} {t:TypeId} {v:Value} {d:DataW H} {ps:List MemPlace} (hp:zow P n t=true) (h:DataW.Trod enc P W 0 (fun _=>true) true t v d ps) (hlt:∀ p∈ps,p.block < W.heap.size):∃ avs,zpT P n t avs∧zm6 W avs v.cells.toList:=by
  obtain ⟨fuel,hf⟩:=h
  exact znH n fuel t _ _ hp hf hlt
end
section
variable {P : Program} {n : Nat} {t : TypeId} {avs : List AV}
abbrev wI (k:IntKind) (x:Int):Prop:=(Lit.int k x).wf=true
abbrev wT {α:Type} (_:α):Prop:=True
abbrev wL {α:Type} (w:α→Prop) (l:List α):Prop:=l.length≤9223372036854775807∧∀ y∈l,w y
theorem gdB (hu:P.underlying t=some .bool) (h:zpT P (n+1) t avs):∃ x:Bool,avs=rB x∧wT x:=by
  unfold zpT at h; rw [hu] at h; obtain ⟨b,rfl⟩:=h; exact ⟨b,rfl,trivial⟩
theorem gdL {α:Type} {e:TypeId} {k:Nat} {f:α→List AV} {w:α→Prop} (hu:P.underlying t=some (.slice e)) (hc:P.cellsOf e=k) (he:∀ {r},zpT P n e r→∃ x:α,r=f x∧w x) (h:zpT P (n+1) t avs):∃ x:List α,avs=rL k f x∧wL w x:=by
  unfold zpT at h; rw [hu] at h; obtain ⟨els,rfl,hl,hg⟩:=h
  subst hc
  have key:∀ els:List (List AV),(∀ r∈els,zpT P n e r)→∃ x:List α,els=x.map f∧∀ y∈x,w y:=by
    intro els
    induction els with
    | nil=>intro _; exact ⟨[],rfl,fun y hy=>by cases hy⟩
    | cons r els ih =>
      intro h
      obtain ⟨x,rfl,hx⟩:=he (h r (by simp))
      obtain ⟨xs,rfl,hxs⟩:=ih fun r hr=>h r (by simp [hr])
      exact ⟨x :: xs,rfl,fun y hy=>by
        rcases List.mem_cons.1 hy with rfl | hy
        · exact hx
        · exact hxs y hy⟩
  obtain ⟨x,rfl,hx⟩:=key els hg
  exact ⟨x,rfl,by simpa using hl,hx⟩
variable {W : World}
theorem ztt {av:AV} {v:Value} (h:zm6 W [av] v.cells.toList) (hv:v.cells.toList=[v]):VI (fun B=>B < W.heap.size) W av v:=by
  rw [hv] at h
  exact h.2 0 av v rfl rfl
end
end Go.Proofs.YthmnlfenkhmmhaaGreat
namespace Go.Proofs.YthmnlfenkhmmhaaGreat
theorem y7:zu Tryz.prog 254 [] (.lit (.bool true)):=zjd [] 100000 90 (by kernel_rfl) (fun g h=>by cases h) (by kernel_rfl)
theorem y8:zu Tryz.prog 95 [] (.lit (.bool true)):=zjd [254] 100000 90 (by kernel_rfl) (kn1 y7) (by kernel_rfl)
theorem y9:zu Tryz.prog 117 [] (.lit (.bool true)):=zjd [95] 100000 90 (by kernel_rfl) (kn1 y8) (by kernel_rfl)
theorem y10:zu Tryz.prog 120 [] (.lit (.bool true)):=zjd [117] 100000 90 (by kernel_rfl) (kn1 y9) (by kernel_rfl)
theorem y11:zu Tryz.prog 123 [] (.lit (.bool true)):=zjd [120] 100000 90 (by kernel_rfl) (kn1 y10) (by kernel_rfl)
end Go.Proofs.YthmnlfenkhmmhaaGreat
namespace Go.Proofs.YthmnlfenkhmmhaaGreat
theorem zmF {r:Bool} (_:true=r):zu Tryz.prog 40 [] (bA true):=zjd [123] 100000 90 (by kernel_rfl) (kn1 y11) (by kernel_rfl)
end Go.Proofs.YthmnlfenkhmmhaaGreat
namespace Go.Proofs
open Go.Shelf
def Tryz.lays190_ren:Go.Shelf.Ren:=⟨fun | 190=>338 | 125=>369 | 258=>368 | 128=>390 | 129=>391 | 302=>381 | 303=>382 | 304=>383 | 305=>384 | 306=>385 | 307=>386 | 308=>387 | 309=>388 | 310=>389 | 333=>392 | 329=>393 | 330=>394 | 334=>395 | 335=>396 | 336=>397 | 344=>398 | n=>n,fun | 31=>22 | 9=>9 | 3=>3 | 46=>211 | 0=>0 | 51=>319 | 53=>210 | 4=>4 | 183=>313 | 182=>312 | 131=>157 | 5=>5 | 218=>321 | 222=>325 | 228=>327 | 229=>248 | n=>n,fun | n=>n⟩
theorem Tryz.lays190:Go.Proofs.Lays.n190 Tryz.prog Tryz.lays190_ren:={
  mixed:=by kernel_rfl
  f125:=Tryz.func369.trans (congrArg some (by kernel_rfl))
  f128:=Tryz.func390.trans (congrArg some (by kernel_rfl))
  f129:=Tryz.func391.trans (congrArg some (by kernel_rfl))
  f190:=Tryz.func338.trans (congrArg some (by kernel_rfl))
  f258:=Tryz.func368.trans (congrArg some (by kernel_rfl))
  f302:=Tryz.func381.trans (congrArg some (by kernel_rfl))
  f303:=Tryz.func382.trans (congrArg some (by kernel_rfl))
  f304:=Tryz.func383.trans (congrArg some (by kernel_rfl))
  f305:=Tryz.func384.trans (congrArg some (by kernel_rfl))
  f306:=Tryz.func385.trans (congrArg some (by kernel_rfl))
  f307:=Tryz.func386.trans (congrArg some (by kernel_rfl))
  f308:=Tryz.func387.trans (congrArg some (by kernel_rfl))
  f309:=Tryz.func388.trans (congrArg some (by kernel_rfl))
  f310:=Tryz.func389.trans (congrArg some (by kernel_rfl))
  f329:=Tryz.func393.trans (congrArg some (by kernel_rfl))
  f330:=Tryz.func394.trans (congrArg some (by kernel_rfl))
  f333:=Tryz.func392.trans (congrArg some (by kernel_rfl))
  f334:=Tryz.func395.trans (congrArg some (by kernel_rfl))
  f335:=Tryz.func396.trans (congrArg some (by kernel_rfl))
  f336:=Tryz.func397.trans (congrArg some (by kernel_rfl))
  f344:=Tryz.func398.trans (congrArg some (by kernel_rfl))
  t0:=Tryz.underlying0
  a0:=Tryz.isAgg0
  z0:=Tryz.sizeOf0
  v0:=Tryz.zeroValue0
  t3:=Tryz.underlying3
  a3:=Tryz.isAgg3
  z3:=Tryz.sizeOf3
  v3:=Tryz.zeroValue3
  t4:=Tryz.underlying4
  a4:=Tryz.isAgg4
  z4:=Tryz.sizeOf4
  v4:=Tryz.zeroValue4
  t5:=Tryz.underlying5
  a5:=Tryz.isAgg5
  z5:=Tryz.sizeOf5
  v5:=Tryz.zeroValue5
  t9:=Tryz.underlying9
  a9:=Tryz.isAgg9
  z9:=Tryz.sizeOf9
  v9:=Tryz.zeroValue9
  t31:=Tryz.underlying22
  a31:=Tryz.isAgg22
  z31:=Tryz.sizeOf22
  v31:=Tryz.zeroValue22
  t46:=Tryz.underlying211
  a46:=Tryz.isAgg211
  z46:=Tryz.sizeOf211
  v46:=Tryz.zeroValue211
  t51:=Tryz.underlying319
  a51:=Tryz.isAgg319
  z51:=Tryz.sizeOf319
  v51:=Tryz.zeroValue319
  t53:=Tryz.underlying210
  a53:=Tryz.isAgg210
  z53:=Tryz.sizeOf210
  v53:=Tryz.zeroValue210
  t131:=Tryz.underlying157
  a131:=Tryz.isAgg157
  z131:=Tryz.sizeOf157
  v131:=Tryz.zeroValue157
  t182:=Tryz.underlying312
  a182:=Tryz.isAgg312
  z182:=Tryz.sizeOf312
  v182:=Tryz.zeroValue312
  t183:=Tryz.underlying313
  a183:=Tryz.isAgg313
  z183:=Tryz.sizeOf313
  v183:=Tryz.zeroValue313
  t218:=Tryz.underlying321
  a218:=Tryz.isAgg321
  z218:=Tryz.sizeOf321
  v218:=Tryz.zeroValue321
  t222:=Tryz.underlying325
  a222:=Tryz.isAgg325
  z222:=Tryz.sizeOf325
  v222:=Tryz.zeroValue325
  t228:=Tryz.underlying327
  a228:=Tryz.isAgg327
  z228:=Tryz.sizeOf327
  v228:=Tryz.zeroValue327
  t229:=Tryz.underlying248
  a229:=Tryz.isAgg248
  z229:=Tryz.sizeOf248
  v229:=Tryz.zeroValue248 }
end Go.Proofs
namespace Go.Proofs.YthmnlfenkhmmhaaGreat
set_option linter.unusedSimpArgs false
set_option linter.unusedVariables false
open Go.Sort Go.RowKit
theorem R.redo {A:Nat→Prop} {m:BM} {w w':World} {st:St} (hR:R A m w st) {l k:Nat} {els els':List (List AV)} (hl:st[l]?=some (some (k,els))) {b:Blk} (hb:m l=some b) (hh:b.has=true) (hm:b.mp=false)
    (hsize:w.heap.size≤w'.heap.size) (hos:w'.os=w.os) (htape:w'.tape=w.tape) (hout:w'.output=w.output) (hother:∀ B,B < w.heap.size→B≠b.B→w'.heap[B]?=w.heap[B]?)
    (hlen:els'.length=els.length) (hthere:∀ off,off < b.top→∃ v,w'.cell? ⟨b.B,off,none⟩=some v) (hfree:∀ off,off < b.top→fz w' ⟨b.B,off,none⟩=false) (hw:∀ i (h:i < els'.length),els'[i].length=b.k)
    (hv:∀ i (h:i < els'.length) j (h':j < els'[i].length),∃ v,w'.cell? ⟨b.B,b.o+i * b.k+j,none⟩=some v∧V A m st.length w els'[i][j] v) :
    R A m w' (st.set l (some (k,els')))∧zct A m st.length w A m st.length w':=by
  obtain ⟨hbk,hok,_⟩:=hR.at hb hl
  replace hok:=hok hh
  have hS:zct A m st.length w A m st.length w' :=
    ⟨Nat.le_refl _,hsize,fun _ h=>h,fun _ h=>.inl h,fun _ _=>.inl rfl,fun l b h hh=>.inr ⟨l,b,h,hh,rfl⟩,fun B hB ho=>hother B hB (fun e=>ho l b hb hh e.symm),hos,htape,hout⟩
  have hV:∀ av v,V A m st.length w av v→V A m st.length w' av v:=fun av v h=>h.step hR hS
  have hlt:l < st.length:=hR.lt hb
  refine ⟨⟨fun B hB=>Nat.lt_of_lt_of_le (hR.aLow B hB) hsize,hR.aOwn,hR.inj,fun l' b' h=>?_,fun l' k' els1 he=>?_⟩,hS⟩
  · obtain ⟨els1,he⟩:=hR.live l' b' h
    by_cases e:l'=l
    · subst e
      have:b'=b:=Option.some.inj (h.symm.trans hb)
      subst this
      exact ⟨els',by simp [hlt,hbk]⟩
    · exact ⟨els1,by rw [List.getElem?_set_ne (Ne.symm e)]; exact he⟩
  · rw [List.length_set]
    by_cases e:l'=l
    · subst e
      rw [List.getElem?_set_self hlt] at he
      simp at he
      obtain ⟨rfl,rfl⟩:=he
      refine ⟨b,hb,hbk,fun _=>zlR.blk ⟨Nat.lt_of_lt_of_le hok.low hsize,hthere,hfree,by rw [hlen]; exact hok.fit hm,hw,fun i hi j hj=>?_⟩ hm,fun h=>by rw [hh] at h; cases h⟩
      obtain ⟨v,h1,h2⟩:=hv i hi j hj
      exact ⟨v,h1,hV _ _ h2⟩
    · rw [List.getElem?_set_ne (Ne.symm e)] at he
      obtain ⟨b',h1,h2,h3,h4⟩:=hR.blk l' k' els1 he
      refine ⟨b',h1,h2,fun hh'=>(h3 hh').keep hsize (hother _ (h3 hh').low (fun e'=>e (hR.inj l' l b' b h1 hb hh' hh e'))) hV,h4⟩
def ztP (s:List UInt8):List (List UInt8)→List (List UInt8)
  | []=>[s]
  | x :: r=>if s≤x then s :: x :: r else x :: ztP s r
def zmd:List (List UInt8)→List (List UInt8)
  | []=>[]
  | x :: r=>ztP x (zmd r)
theorem zmb (s:List UInt8):∀ l,(ztP s l).Perm (s :: l)
  | []=>.refl _
  | x :: r=>by
    unfold ztP
    split
    · exact .refl _
    · exact (List.Perm.cons x (zmb s r)).trans (List.Perm.swap s x r)
theorem zh8:∀ l,(zmd l).Perm l
  | []=>.refl _
  | x :: r=>(zmb x (zmd r)).trans (List.Perm.cons x (zh8 r))
theorem zs7 (a b:List UInt8):a≤b∨b≤a:=List.le_total a b
theorem zmc (s:List UInt8):∀ {l:List (List UInt8)},l.Pairwise (·≤·)→(ztP s l).Pairwise (·≤·)
  | [],_=>by simp [ztP]
  | x :: r,h=>by
    obtain ⟨h1,h2⟩:=List.pairwise_cons.1 h
    unfold ztP
    split
    · rename_i hs
      refine List.pairwise_cons.2 ⟨fun y hy=>?_,h⟩
      rcases List.mem_cons.1 hy with rfl | hy
      · exact hs
      · exact List.le_trans hs (h1 y hy)
    · rename_i hs
      refine List.pairwise_cons.2 ⟨fun y hy=>?_,zmc s h2⟩
      rcases List.mem_cons.1 ((zmb s r).mem_iff.1 hy) with rfl | hy
      · exact (zs7 y x).resolve_left hs
      · exact h1 y hy
theorem zkj:∀ l:List (List UInt8),(zmd l).Pairwise (·≤·)
  | []=>List.Pairwise.nil
  | x :: r=>zmc x (zkj r)
theorem zq7 (l:List (List UInt8)):(l.mergeSort fun x y=>decide (x≤y))=zmd l:=by
  have h1:(l.mergeSort fun x y=>decide (x≤y)).Pairwise (·≤·):=by
    have:=List.pairwise_mergeSort (le:=fun x y:List UInt8=>decide (x≤y)) (fun a b c h1 h2=>decide_eq_true (List.le_trans (of_decide_eq_true h1) (of_decide_eq_true h2))) (fun a b=>by
      rcases zs7 a b with h | h
      · simp [h]
      · simp [h]) l
    exact this.imp fun h=>of_decide_eq_true h
  exact List.Perm.eq_of_pairwise (fun a b _ _ h1 h2=>List.le_antisymm h1 h2) h1 (zkj l) ((List.mergeSort_perm l _).trans (zh8 l).symm)
def zrI (l:List (List UInt8)):Option (List (List UInt8)):=if l.length < 4611686018427387904 then some (zmd l) else none
theorem zrJ {l r:List (List UInt8)} (h:zrI l=some r):r.length=l.length:=by
  unfold zrI at h
  split at h
  · cases h; exact (zh8 _).length_eq
  · cases h
theorem zsj {w w':World} {b:Nat} (h:∀ c e fr,w.heap[b]?=some (.cells c e fr)→∃ c',w'.heap[b]?=some (.cells c' e fr)) (hc:∃ c e fr,w.heap[b]?=some (.cells c e fr)) (off:Nat):fz w' ⟨b,off,none⟩=fz w ⟨b,off,none⟩:=by
  obtain ⟨c,e,fr,h1⟩:=hc
  obtain ⟨c',h2⟩:=h c e fr h1
  simp only [fz,h1,h2]
theorem zsF (l:List (List UInt8)) {r:List (List UInt8)} (h:zrI l=some r):SC Tryz.prog 338 [.msl 0 0 (List.length l)] [.many 1 (List.map zi l)] (.tup []) [.many 1 (List.map zi r)]:=by
  unfold zrI at h
  split at h
  case isFalse=>cases h
  rename_i hsz
  cases h
  refine ⟨⟨zeU (sz:=1) (fun _=>rfl),trivial⟩,?_⟩
  cases l with
  | nil =>
    exact zrz (kn:=[]) (by kernel_rfl) (fun g h=>by cases h) 40 _ _ _ _ _ (by kernel_rfl)
  | cons x l =>
    generalize hl:x :: l=ss at *
    have hne:0 < ss.length:=by rw [← hl]; simp
    refine ⟨⟨_,Tryz.func338,by kernel_rfl,by kernel_rfl⟩,fun A m w vals hR hv=>?_⟩
    have h0:V A m 1 w (.msl 0 0 ss.length) (vals.getD 0 undef):=hv.2 0 (by simp)
    obtain ⟨hlt,a,n',cap,hval,hb⟩:=h0.msl_inv
    obtain ⟨b,h1,h2,h3,h4⟩:=hR.blk 0 1 (List.map zi ss) rfl
    obtain ⟨rfl,hcap,hc⟩:=hb b h1
    rcases hc with rfl | ⟨hh,hm,rfl,hfit⟩
    · omega
    have hok:=(h3 hh).cells hm
    have hvals:vals=#[.slice (some ⟨b.B,b.o,none⟩) ss.length cap]:=by
      have h5:vals.size=1:=hv.1
      obtain ⟨u,rfl⟩:=Array.size_eq_one_iff.1 h5
      have:u=.slice (some ⟨b.B,b.o+0 * b.k,none⟩) ss.length cap:=hval
      rw [this]; simp
    subst hvals
    rw [h2] at hfit
    have hcell:∀ j (hj:j < ss.length),w.cell? ⟨b.B,b.o+j,none⟩=some (.string (B ss[j])):=fun j hj=>by
      obtain ⟨v,h5,h6⟩:=hok.val j (by simpa using hj) 0 (by simp [zi])
      rw [h2] at h5
      have e1:(List.map zi ss)[j]'(by simpa using hj)=[.lit (.string (B ss[j]))]:=by simp [zi]
      have h7:V A m 1 w (.lit (.string (B ss[j]))) v:=by
        have:((List.map zi ss)[j]'(by simpa using hj))[0]'(by simp [zi])=.lit (.string (B ss[j])):=by simp [zi]
        rw [← this]; exact h6
      rw [h7.lit_inv] at h5
      simpa using h5
    have hH:Holds encStr w b.B b.o ss.toArray:=fun j hj=>by
      have hj':j < ss.length:=by simpa using hj
      refine ⟨?_,zkh (hok.free _ (by omega))⟩
      rw [hcell j hj']
      congr 1
      simp [encStr,hj']
    refine (Any.slices_Sort_string Tryz.lays190 b.B b.o cap ss w hH hok.low hsz).mono fun e w' ⟨he,n,os,hw'⟩=>?_
    rw [zq7] at hw'
    generalize hso:zmd ss=so at hw' ⊢
    have hsl:so.length=ss.length:=by rw [← hso]; exact (zh8 _).length_eq
    have hsa:so.toArray.size=ss.toArray.size:=by simp [hsl]
    have hlow:=hok.low
    have hheap:∀ B,B < w.heap.size→B≠b.B→w'.heap[B]?=w.heap[B]?:=fun B hB hne=>by
      rw [hw',heap_grow_old _ _ (by simpa using hB)]
      show ((Go.Sort.ahead w n).heap.modify b.B _)[B]?=_
      rw [Array.getElem?_modify,if_neg (Ne.symm hne)]; rfl
    have hcs:∀ a:Addr,a.block=b.B→w'.cell? a=(putRow encStr w b.B b.o so.toArray).cell? a:=fun a ha=>by
      rw [hw',cell?_grow _ _ _ (by rw [ha]; simpa using hlow)]; rfl
    have hin:∀ j (hj:j < so.length),w'.cell? ⟨b.B,b.o+j,none⟩=some (.string (B so[j])):=fun j hj=>by
      rw [hcs _ rfl,cell?_putRow encStr w b.B b.o ss.toArray so.toArray hH hsa j (by simpa using hj)]
      simp [encStr,hj]
    have hobj:∃ c e fr,w.heap[b.B]?=some (.cells c e fr):=by
      obtain ⟨v,h5⟩:=hok.there b.o (by omega)
      unfold World.cell? at h5
      split at h5
      · rename_i c e fr hq; exact ⟨c,e,_,hq⟩
      · cases h5
    have hred:=hR.redo (w':=w') (l:=0) (k:=1) (els:=List.map zi ss) (els':=List.map zi so) rfl h1 hh hm (by rw [hw']; simp) (by rw [hw']; rfl) (by rw [hw']; rfl) (by rw [hw']; rfl) hheap (by simp [hsl])
      (fun off ho=>by
        rw [hcs _ rfl]
        by_cases hin2:b.o≤off∧off < b.o+so.length
        · have:=hin (off - b.o) (by omega)
          rw [hcs _ rfl,show b.o+(off - b.o)=off by omega] at this
          exact ⟨_,this⟩
        · rw [cell?_putRow_other _ _ _ _ _ _ (by right; simp; omega)]
          exact hok.there off ho)
      (fun off ho=>by
        rw [zsj (w:=w) (fun c e fr hq=>?_) hobj]
        · exact hok.free off ho
        · refine ⟨putCells encStr b.o so.toArray c,?_⟩
          rw [hw',heap_grow_old _ _ (by simpa using hlow)]
          show ((Go.Sort.ahead w n).heap.modify b.B _)[b.B]?=_
          rw [Array.getElem?_modify,if_pos rfl]
          show (w.heap[b.B]?).map _=_
          rw [hq]; rfl)
      (fun i hi=>by rw [h2]; simp [zi])
      (fun i hi j hj=>by
        have hi':i < so.length:=by simpa using hi
        have hj0:j=0:=by simp [zi] at hj; exact hj
        subst hj0
        refine ⟨.string (B so[i]),by rw [h2,Nat.mul_one,Nat.add_zero]; exact hin i hi',?_⟩
        have:(List.map zi so)[i][0]'hj=.lit (.string (B so[i])):=by simp [zi]
        rw [this]; exact .imm (.lit _))
    exact ⟨.tuple #[],A,m,_,.tup [],he,hred.1,hred.2,.imm (.tup _ _ rfl fun i hi=>by cases hi),rfl,rfl⟩
end Go.Proofs.YthmnlfenkhmmhaaGreat
namespace Go.Proofs.YthmnlfenkhmmhaaGreat
noncomputable section
set_option linter.unusedSimpArgs false
set_option linter.unusedVariables false
set_option maxRecDepth 100000
set_option maxHeartbeats 4000000
structure zA where
  Op:Int
  A:Int
  C:List UInt8
  M:List UInt8
def zw (x:zA):List AV:=[iA x.Op,iA x.A,sA x.C,sA x.M]
def zjh (a:UInt8):Bool :=
  ((decide (97≤(a.toNat:Int)))&&(decide ((a.toNat:Int)≤122)))
theorem zkm (b:UInt8) {r:Bool} (h:zjh b=r):zu Tryz.prog 237 [.lit (.int .u8 (b.toNat:Int))] (bA r):=by
 refine zn Tryz.func237 j0 (by kernel_rfl) j0 j0 ?_
 unfold zjh at h
 refine rg j0<|u<|asg j0<|za ?_
 refine rg j0<|u<|mv j0<|u<|geq ti5 j0 j0<|u<|mv j0<|za7 (j:=2) 2 j0 j0 j0 j0 j0 gpn (fun a=>g j0 a<|mv j0<|g j0 a<|leq ti5 j0 j0<|za (egA [6,7] 2 a j0 j0 j0 j0)) ziy<|u<|asg j0<|za ?_
 refine zj ?_
 obtain rfl:=h
 exact ⟨_,j0,[],ci j0,j0,j5,j0,j1⟩
def zjg (a:UInt8):Bool :=
  ((decide (65≤(a.toNat:Int)))&&(decide ((a.toNat:Int)≤90)))
theorem zkl (b:UInt8) {r:Bool} (h:zjg b=r):zu Tryz.prog 249 [.lit (.int .u8 (b.toNat:Int))] (bA r):=by
 refine zn Tryz.func249 j0 (by kernel_rfl) j0 j0 ?_
 unfold zjg at h
 refine rg j0<|u<|asg j0<|za ?_
 refine rg j0<|u<|mv j0<|u<|geq ti5 j0 j0<|u<|mv j0<|za7 (j:=2) 2 j0 j0 j0 j0 j0 gpn (fun a=>g j0 a<|mv j0<|g j0 a<|leq ti5 j0 j0<|za (egA [6,7] 2 a j0 j0 j0 j0)) ziy<|u<|asg j0<|za ?_
 refine zj ?_
 obtain rfl:=h
 exact ⟨_,j0,[],ci j0,j0,j5,j0,j1⟩
def zk1 (a:UInt8):Bool :=
  ((decide (48≤(a.toNat:Int)))&&(decide ((a.toNat:Int)≤57)))
theorem znt (b:UInt8) {r:Bool} (h:zk1 b=r):zu Tryz.prog 322 [.lit (.int .u8 (b.toNat:Int))] (bA r):=by
 refine zn Tryz.func322 j0 (by kernel_rfl) j0 j0 ?_
 unfold zk1 at h
 refine rg j0<|u<|asg j0<|za ?_
 refine rg j0<|u<|mv j0<|u<|geq ti5 j0 j0<|u<|mv j0<|za7 (j:=2) 2 j0 j0 j0 j0 j0 gpn (fun a=>g j0 a<|mv j0<|g j0 a<|leq ti5 j0 j0<|za (egA [6,7] 2 a j0 j0 j0 j0)) ziy<|u<|asg j0<|za ?_
 refine zj ?_
 obtain rfl:=h
 exact ⟨_,j0,[],ci j0,j0,j5,j0,j1⟩
def ziT (a:List UInt8):Option (Bool) :=
  some ((!(a == []))&&(decide ((List.length a:Int)≤8)))
def ziU (b:List UInt8) (a:Int):Option (Sum (Int) (Sum (Unit) (Bool))) :=
  cond (decide (a < (List.length b:Int))) ((idx b a).bind fun i=>(cond (!(zjh i)) ((idx b a).bind fun c=>some (!(zjg c))) (some false)).bind fun d=>(cond d ((idx b a).bind fun e=>some (!(zk1 e))) (some false)).bind fun f=>cond f (some (.inr (.inr false))) (some (.inl (IntKind.i64.wrap (a+1))))) (some (.inr (.inl ())))
def zkn (a:List UInt8):Option (Bool) :=
  (zab (fun z=>ziU a z) 0).bind fun o=>zaJ o (fun b=>ziT a) some
theorem zll (i:List UInt8) {r:Bool} (h:zkn i=some r):zu Tryz.prog 236 [sA i] (bA r):=by
 refine zn Tryz.func236 j0 (by kernel_rfl) j0 j0 ?_
 unfold zkn at h
 refine rg j0<|u<|asg j0<|za ?_
 refine zl ?_
 refine rg j0<|u<|mv j0<|u<|lnS ti9 j0 j0<|u<|mv j0<|za ?_
 obtain ⟨o,ho,h⟩:=bs h
 refine zT (X:=Int) (B:=Unit) (R:=Bool) (fun z=>[(0,sA i),(5,iA (List.length i:Int)),(6,iA z)]) (fun z=>[]) (fun b=>[(0,sA i)]) (fun b=>[]) (fun r env st=>zaC Tryz.prog Tryz.f236 0 (bA r) [] env st) ho ⟨[],ce j0 j0<|ce j0 j0<|ce j0 j0<|cn,j0,j5,j0,j1⟩ ?_ ?_ ?_
 ·
  rintro E r h
  replace h:ziU i E=some r:=h
  unfold ziU at h
  refine rg j0<|u<|lss ti3 j0 j0<|za ?_
  refine zl ?_
  refine zh j0 (fun l=>?_) (fun l=>?_)
  ·
   replace h:=bT l h
   refine zk ?_
   refine zl ?_
   refine zq ?_
   refine rg j0<|u<|mv j0<|u<|asg j0<|za ?_
   obtain ⟨F,n,h⟩:=bs h
   obtain ⟨p,d,h⟩:=bs h
   obtain ⟨q,e,h⟩:=bs h
   refine rg j0<|u<|mv j0<|u<|mv j0<|u<|ixS ti9 j0 j0 j0 n<|u<|pc (zkm F j0) j0 j0 j0<|u<|nt j0<|u<|mv j0<|za7 (x:=p) (j:=5) 5 j0 j0 j0 j0 j0 gpn (fun a=>by replace d:=bT a d; obtain ⟨s,v,d⟩:=bs d; obtain rfl:=sm d; exact g j0 a<|mv j0<|g j0 a<|mv j0<|g j0 a<|ixS ti9 j0 j0 j0 v<|g j0 a<|pc (zkl s j0) j0 j0 j0<|g j0 a<|nt j0<|za (eg [15,16,17,18,19] 5 j0 j0 j0 j0)) (fun hb=>(sm (bF hb d)).symm)<|u<|mv j0<|za7 (x:=q) (j:=12) 5 j0 j0 j0 j0 j0 gpn (fun c=>by replace e:=bT c e; obtain ⟨C,D,e⟩:=bs e; obtain rfl:=sm e; exact g j0 c<|mv j0<|g j0 c<|mv j0<|g j0 c<|ixS ti9 j0 j0 j0 D<|g j0 c<|pc (znt C j0) j0 j0 j0<|g j0 c<|nt j0<|za (eg [22,23,24,25,26] 5 j0 j0 j0 j0)) (fun hb=>(sm (bF hb e)).symm)<|za ?_
   refine zh j0 (fun m=>?_) (fun m=>?_)
   ·
    replace h:=bT m h
    refine rg j0<|u<|asg j0<|za ?_
    refine zj ?_
    obtain rfl:=sm h
    exact ⟨_,j0,_,j0,[],ci j0,j0,j5,j0,j1⟩
   ·
    replace h:=bF m h
    refine zk ?_
    refine rl j0<|u<|add ti3 j0 j0<|u<|mv j0<|za ?_
    obtain rfl:=sm h
    exact ⟨_,j0,[],ce j0 j0<|ce j0 j0<|ce j0 j0<|cn,j0,j5,j0,j1⟩
  ·
   replace h:=bF l h
   refine zz ?_
   obtain rfl:=sm h
   exact ⟨j0,_,j0,[],ce j0 j0<|cn,j0,j5,j0,j1⟩
 ·
  rintro ⟨⟩ rfl
  replace h:ziT i=some r:=h
  unfold ziT at h
  refine zv ?_
  refine rg j0<|u<|mv j0<|u<|sne ti9 j0 j0<|u<|mv j0<|za7 (j:=2) 3 j0 j0 j0 j0 j0 gpn (fun f=>g j0 f<|mv j0<|g j0 f<|lnS ti9 j0 j0<|g j0 f<|leq ti3 j0 j0<|za (egA [32,33,34] 3 f j0 j0 j0 j0)) ziy<|u<|asg j0<|za ?_
  refine zj ?_
  obtain rfl:=sm h
  exact ⟨_,j0,[],ci j0,j0,j5,j0,j1⟩
 ·
  rintro r' rfl env st hp
  obtain rfl:=sm h
  exact hp
def zfw (a:List UInt8):Option (Bool) :=
  (zkn a).bind fun b=>(cond (b&&(decide (1 < (List.length a:Int)))) ((idx a 0).bind fun c=>some (zjg c)) (some false)).bind fun d=>some d
theorem zeC (d:List UInt8) {r:Bool} (h:zfw d=some r):zu Tryz.prog 158 [sA d] (bA r):=by
 refine zn Tryz.func158 j0 (by kernel_rfl) j0 j0 ?_
 unfold zfw at h
 refine rg j0<|u<|asg j0<|za ?_
 obtain ⟨m,e,h⟩:=bs h
 obtain ⟨f,c,h⟩:=bs h
 refine rg j0<|u<|mv j0<|u<|pc (zll d e) j0 j0 j0<|u<|mv j0<|za7 (j:=2) 3 j0 j0 j0 j0 j0 gpn (fun a=>g j0 a<|mv j0<|g j0 a<|lnS ti9 j0 j0<|g j0 a<|gtr ti3 j0 j0<|za (egA [6,7,8] 3 a j0 j0 j0 j0)) ziy<|u<|mv j0<|za7 (x:=f) (j:=7) 3 j0 j0 j0 j0 j0 gpn (fun b=>by replace c:=bT b c; obtain ⟨i,l,c⟩:=bs c; obtain rfl:=sm c; exact g j0 b<|mv j0<|g j0 b<|ixS ti9 j0 j0 j0 l<|g j0 b<|pc (zkl i j0) j0 j0 j0<|za (eg [11,12,13] 3 j0 j0 j0 j0)) (fun hb=>(sm (bF hb c)).symm)<|u<|asg j0<|za ?_
 refine zj ?_
 obtain rfl:=sm h
 exact ⟨_,j0,[],ci j0,j0,j5,j0,j1⟩
def ziR (a:List UInt8):Option (Bool) :=
  (cond (a == [36,105,110,105,116]) (some true) ((zkn a).bind fun b=>(cond b ((idx a 0).bind fun c=>some (zjh c)) (some false)).bind fun d=>some d)).bind fun e=>some e
theorem ziS (e:List UInt8) {r:Bool} (h:ziR e=some r):zu Tryz.prog 152 [sA e] (bA r):=by
 refine zn Tryz.func152 j0 (by kernel_rfl) j0 j0 ?_
 unfold ziR at h
 refine rg j0<|u<|asg j0<|za ?_
 obtain ⟨f,a,h⟩:=bs h
 refine rg j0<|u<|mv j0<|u<|seq ti9 j0 j0<|u<|mv j0<|zfo (x:=f) (j:=2) 7 j0 j0 j0 j0 j0 gpn (fun b=>by replace a:=bF b a; obtain ⟨o,i,a⟩:=bs a; obtain ⟨l,d,a⟩:=bs a; obtain rfl:=sm a; exact g j0 b<|mv j0<|g j0 b<|pc (zll e i) j0 j0 j0<|g j0 b<|mv j0<|za7 (x:=l) (j:=5) 3 j0 j0 j0 j0 j0 (gps j0 j0 b) (fun c=>by replace d:=bT c d; obtain ⟨m,n,d⟩:=bs d; obtain rfl:=sm d; exact g j0 c<|mv j0<|g j0 c<|ixS ti9 j0 j0 j0 n<|g j0 c<|pc (zkm m j0) j0 j0 j0<|za (eg [9,10,11] 3 j0 j0 j0 j0)) (fun hb=>(sm (bF hb d)).symm)<|za (eg [6,7,8,9,10,11,12] 4 j0 j0 j0 j0)) (fun hb=>(sm (bT hb a)).symm)<|u<|asg j0<|za ?_
 refine zj ?_
 obtain rfl:=sm h
 exact ⟨_,j0,[],ci j0,j0,j5,j0,j1⟩
def zcm (b:List UInt8) (a:List UInt8):Option (Bool) :=
  (cond (decide ((List.length a:Int)≤(List.length b:Int))) ((zmE b 0 (List.length a:Int)).bind fun c=>some (c == a)) (some false)).bind fun d=>some d
theorem zfH (f:List UInt8) (e:List UInt8) {r:Bool} (h:zcm f e=some r):zu Tryz.prog 168 [sA f,sA e] (bA r):=by
 refine zn Tryz.func168 j0 (by kernel_rfl) j0 j0 ?_
 unfold zcm at h
 refine rg j0<|u<|asg j0<|za ?_
 obtain ⟨l,d,h⟩:=bs h
 refine rg j0<|u<|mv j0<|u<|lnS ti9 j0 j0<|u<|mv j0<|u<|lnS ti9 j0 j0<|u<|geq ti3 j0 j0<|u<|mv j0<|za7 (x:=l) (j:=5) 6 j0 j0 j0 j0 j0 gpn (fun c=>by replace d:=bT c d; obtain ⟨m,i,d⟩:=bs d; obtain rfl:=sm d; exact g j0 c<|mv j0<|g j0 c<|mv j0<|g j0 c<|lnS ti9 j0 j0<|g j0 c<|slS (a:=0) (b:=(List.length e:Int)) ti9 j0 j0 j0 (zn8 j0 i) i<|g j0 c<|mv j0<|g j0 c<|seq ti9 j0 j0<|za (eg [11,12,13,14,15,16] 6 j0 j0 j0 j0)) (fun hb=>(sm (bF hb d)).symm)<|u<|asg j0<|za ?_
 refine zj ?_
 obtain rfl:=sm h
 exact ⟨_,j0,[],ci j0,j0,j5,j0,j1⟩
def zch (a:List UInt8) (b:List UInt8):Option ((List UInt8)) :=
  (zcm a b).bind fun c=>cond c ((zmE a (List.length b:Int) (List.length a:Int)).bind fun d=>some d) (some a)
theorem zfy (d:List UInt8) (e:List UInt8) {r:(List UInt8)} (h:zch d e=some r):zu Tryz.prog 323 [sA d,sA e] (sA r):=by
 refine zn Tryz.func323 j0 (by kernel_rfl) j0 j0 ?_
 unfold zch at h
 refine rg j0<|u<|asg j0<|za ?_
 refine zl ?_
 obtain ⟨j,i,h⟩:=bs h
 refine rg j0<|u<|mv j0<|u<|mv j0<|u<|pc (zfH d e i) j0 j0 j0<|za ?_
 refine zh j0 (fun c=>?_) (fun c=>?_)
 ·
  replace h:=bT c h
  obtain ⟨l,f,h⟩:=bs h
  refine rg j0<|u<|mv j0<|u<|mv j0<|u<|lnS ti9 j0 j0<|u<|slS (a:=(List.length e:Int)) (b:=(List.length d:Int)) ti9 j0 j0 (zqF j0 f) j0 f<|u<|asg j0<|za ?_
  refine zj ?_
  obtain rfl:=sm h
  exact ⟨_,j0,[],ci j0,j0,j5,j0,j1⟩
 ·
  replace h:=bF c h
  refine zk ?_
  refine rg j0<|u<|mv j0<|u<|asg j0<|za ?_
  refine zj ?_
  obtain rfl:=sm h
  exact ⟨_,j0,[],ci j0,j0,j5,j0,j1⟩
def zd7 (a:List UInt8) (b:List UInt8):Option ((List UInt8)) :=
  (zch a b).bind fun c=>some c
theorem zgd (a:List UInt8) (b:List UInt8) {r:(List UInt8)} (h:zd7 a b=some r):zu Tryz.prog 238 [sA a,sA b] (sA r):=by
 refine zn Tryz.func238 j0 (by kernel_rfl) j0 j0 ?_
 unfold zd7 at h
 refine rg j0<|u<|asg j0<|za ?_
 obtain ⟨d,c,h⟩:=bs h
 refine rg j0<|u<|mv j0<|u<|mv j0<|u<|pc (zfy a b c) j0 j0 j0<|u<|asg j0<|za ?_
 refine zj ?_
 obtain rfl:=sm h
 exact ⟨_,j0,[],ci j0,j0,j5,j0,j1⟩
def zgC (b:List UInt8):Option (Bool) :=
  (zd7 b [91]).bind fun c=>(zd7 c [91]).bind fun a=>(cond (a == [73]) (some true) ((zfw a).bind fun d=>some d)).bind fun e=>some e
theorem zfj (c:List UInt8) {r:Bool} (h:zgC c=some r):zu Tryz.prog 153 [sA c] (bA r):=by
 refine zn Tryz.func153 j0 (by kernel_rfl) j0 j0 ?_
 unfold zgC at h
 refine rg j0<|u<|asg j0<|za ?_
 obtain ⟨d,e,h⟩:=bs h
 obtain ⟨f,i,h⟩:=bs h
 refine rg j0<|u<|mv j0<|u<|pc (zgd c [91] e) j0 j0 j0<|u<|pc (zgd d [91] i) j0 j0 j0<|u<|asg j0<|za ?_
 obtain ⟨l,a,h⟩:=bs h
 refine rg j0<|u<|mv j0<|u<|seq ti9 j0 j0<|u<|mv j0<|zfo (x:=l) (j:=2) 2 j0 j0 j0 j0 j0 gpn (fun b=>by replace a:=bF b a; obtain ⟨n,m,a⟩:=bs a; obtain rfl:=sm a; exact g j0 b<|mv j0<|g j0 b<|pc (zeC f m) j0 j0 j0<|za (eg [9,10] 2 j0 j0 j0 j0)) (fun hb=>(sm (bT hb a)).symm)<|u<|asg j0<|za ?_
 refine zj ?_
 obtain rfl:=sm h
 exact ⟨_,j0,[],ci j0,j0,j5,j0,j1⟩
def zjf (a:List UInt8):Option (Bool) :=
  (cond (!(a == [73])) ((zgC a).bind fun b=>some b) (some false)).bind fun c=>some c
theorem zh9 (c:List UInt8) {r:Bool} (h:zjf c=some r):zu Tryz.prog 107 [sA c] (bA r):=by
 refine zn Tryz.func107 j0 (by kernel_rfl) j0 j0 ?_
 unfold zjf at h
 refine rg j0<|u<|asg j0<|za ?_
 obtain ⟨d,a,h⟩:=bs h
 refine rg j0<|u<|mv j0<|u<|sne ti9 j0 j0<|u<|mv j0<|za7 (x:=d) (j:=2) 2 j0 j0 j0 j0 j0 gpn (fun b=>by replace a:=bT b a; obtain ⟨f,e,a⟩:=bs a; obtain rfl:=sm a; exact g j0 b<|mv j0<|g j0 b<|pc (zfj c e) j0 j0 j0<|za (eg [6,7] 2 j0 j0 j0 j0)) (fun hb=>(sm (bF hb a)).symm)<|u<|asg j0<|za ?_
 refine zj ?_
 obtain rfl:=sm h
 exact ⟨_,j0,[],ci j0,j0,j5,j0,j1⟩
def zfx (a:Int) (b:Int) (c:Int):Bool :=
  ((decide (b≤a))&&(decide (a≤c)))
theorem zeF (b:Int) (c:Int) (d:Int) {r:Bool} (h:zfx b c d=r):zu Tryz.prog 288 [iA b,iA c,iA d] (bA r):=by
 refine zn Tryz.func288 j0 (by kernel_rfl) j0 j0 ?_
 unfold zfx at h
 refine rg j0<|u<|asg j0<|za ?_
 refine rg j0<|u<|mv j0<|u<|mv j0<|u<|geq ti3 j0 j0<|u<|mv j0<|za7 (j:=3) 3 j0 j0 j0 j0 j0 gpn (fun a=>g j0 a<|mv j0<|g j0 a<|mv j0<|g j0 a<|leq ti3 j0 j0<|za (egA [11,12,13] 3 a j0 j0 j0 j0)) ziy<|u<|asg j0<|za ?_
 refine zj ?_
 obtain rfl:=h
 exact ⟨_,j0,[],ci j0,j0,j5,j0,j1⟩
def znF (a:Int):Bool :=
  (zfx a 1 61)
theorem zo5 (a:Int) {r:Bool} (h:znF a=r):zu Tryz.prog 360 [iA a] (bA r):=by
 refine zn Tryz.func360 j0 (by kernel_rfl) j0 j0 ?_
 unfold znF at h
 refine rg j0<|u<|asg j0<|za ?_
 refine rg j0<|u<|mv j0<|u<|pc (zeF a 1 61 j0) j0 j0 j0<|u<|asg j0<|za ?_
 refine zj ?_
 obtain rfl:=h
 exact ⟨_,j0,[],ci j0,j0,j5,j0,j1⟩
def zkr (a:Int):Bool :=
  (zfx a 20 36)
theorem zj3 (a:Int) {r:Bool} (h:zkr a=r):zu Tryz.prog 201 [iA a] (bA r):=by
 refine zn Tryz.func201 j0 (by kernel_rfl) j0 j0 ?_
 unfold zkr at h
 refine rg j0<|u<|asg j0<|za ?_
 refine rg j0<|u<|mv j0<|u<|pc (zeF a 20 36 j0) j0 j0 j0<|u<|asg j0<|za ?_
 refine zj ?_
 obtain rfl:=h
 exact ⟨_,j0,[],ci j0,j0,j5,j0,j1⟩
def zo6 (a:Int) (b:Int):Bool :=
  cond (a == (1:Int)) ((zfx b (-2147483648) 2147483647)) (cond ((a == (3:Int))||(a == (4:Int))) ((zfx b 0 15)) (cond (zkr a) ((zfx b 0 99)) ((b == (0:Int)))))
theorem zqf (f:Int) (a:Int) {r:Bool} (h:zo6 f a=r):zu Tryz.prog 361 [iA f,iA a] (bA r):=by
 refine zn Tryz.func361 j0 (by kernel_rfl) j0 j0 ?_
 unfold zo6 at h
 refine rg j0<|u<|asg j0<|za ?_
 refine zl ?_
 refine zq ?_
 refine rg j0<|u<|mv j0<|u<|eql ti3 j0 j0<|u<|asg j0<|za ?_
 refine zh j0 (fun b=>?_) (fun b=>?_)
 ·
  replace h:=bT b h
  refine rg j0<|u<|mv j0<|u<|pc (zeF a (-2147483648) 2147483647 j0) j0 j0 j0<|u<|asg j0<|za ?_
  refine zj ?_
  obtain rfl:=h
  exact ⟨_,j0,[],ci j0,j0,j5,j0,j1⟩
 ·
  replace h:=bF b h
  refine rg j0<|u<|mv j0<|u<|eql ti3 j0 j0<|u<|mv j0<|zfo (j:=2) 2 j0 j0 j0 j0 j0 gpn (fun c=>g j0 c<|mv j0<|g j0 c<|eql ti3 j0 j0<|za (egO [14,15] 2 c j0 j0 j0 j0)) orT<|u<|asg j0<|za ?_
  refine zh j0 (fun d=>?_) (fun d=>?_)
  ·
   replace h:=bT d h
   refine rg j0<|u<|mv j0<|u<|pc (zeF a 0 15 j0) j0 j0 j0<|u<|asg j0<|za ?_
   refine zj ?_
   obtain rfl:=h
   exact ⟨_,j0,[],ci j0,j0,j5,j0,j1⟩
  ·
   replace h:=bF d h
   refine rg j0<|u<|mv j0<|u<|pc (zj3 f j0) j0 j0 j0<|u<|asg j0<|za ?_
   refine zh j0 (fun e=>?_) (fun e=>?_)
   ·
    replace h:=bT e h
    refine rg j0<|u<|mv j0<|u<|pc (zeF a 0 99 j0) j0 j0 j0<|u<|asg j0<|za ?_
    refine zj ?_
    obtain rfl:=h
    exact ⟨_,j0,[],ci j0,j0,j5,j0,j1⟩
   ·
    replace h:=bF e h
    refine zk ?_
    refine rg j0<|u<|mv j0<|u<|eql ti3 j0 j0<|u<|asg j0<|za ?_
    refine zj ?_
    obtain rfl:=h
    exact ⟨_,j0,[],ci j0,j0,j5,j0,j1⟩
def zlM (a:Int):Bool :=
  (((a == (50:Int))||(a == (56:Int)))||(a == (57:Int)))
theorem zmk (c:Int) {r:Bool} (h:zlM c=r):zu Tryz.prog 380 [iA c] (bA r):=by
 refine zn Tryz.func380 j0 (by kernel_rfl) j0 j0 ?_
 unfold zlM at h
 refine rg j0<|u<|asg j0<|za ?_
 refine rg j0<|u<|mv j0<|u<|eql ti3 j0 j0<|u<|mv j0<|zfo (j:=2) 2 j0 j0 j0 j0 j0 gpn (fun a=>g j0 a<|mv j0<|g j0 a<|eql ti3 j0 j0<|za (egO [6,7] 2 a j0 j0 j0 j0)) orT<|u<|mv j0<|zfo (j:=6) 2 j0 j0 j0 j0 j0 gpn (fun b=>g j0 b<|mv j0<|g j0 b<|eql ti3 j0 j0<|za (egO [10,11] 2 b j0 j0 j0 j0)) orT<|u<|asg j0<|za ?_
 refine zj ?_
 obtain rfl:=h
 exact ⟨_,j0,[],ci j0,j0,j5,j0,j1⟩
def zvq (a:Int):Bool :=
  (zfx a 38 45)
theorem zrs (a:Int) {r:Bool} (h:zvq a=r):zu Tryz.prog 373 [iA a] (bA r):=by
 refine zn Tryz.func373 j0 (by kernel_rfl) j0 j0 ?_
 unfold zvq at h
 refine rg j0<|u<|asg j0<|za ?_
 refine rg j0<|u<|mv j0<|u<|pc (zeF a 38 45 j0) j0 j0 j0<|u<|asg j0<|za ?_
 refine zj ?_
 obtain rfl:=h
 exact ⟨_,j0,[],ci j0,j0,j5,j0,j1⟩
def zvQ (a:Int):Bool :=
  (((a == (37:Int))||(zvq a))||(zlM a))
theorem zt4 (c:Int) {r:Bool} (h:zvQ c=r):zu Tryz.prog 372 [iA c] (bA r):=by
 refine zn Tryz.func372 j0 (by kernel_rfl) j0 j0 ?_
 unfold zvQ at h
 refine rg j0<|u<|asg j0<|za ?_
 refine rg j0<|u<|mv j0<|u<|eql ti3 j0 j0<|u<|mv j0<|zfo (j:=2) 2 j0 j0 j0 j0 j0 gpn (fun a=>g j0 a<|mv j0<|g j0 a<|pc (zrs c j0) j0 j0 j0<|za (egO [6,7] 2 a j0 j0 j0 j0)) orT<|u<|mv j0<|zfo (j:=6) 2 j0 j0 j0 j0 j0 gpn (fun b=>g j0 b<|mv j0<|g j0 b<|pc (zmk c j0) j0 j0 j0<|za (egO [10,11] 2 b j0 j0 j0 j0)) orT<|u<|asg j0<|za ?_
 refine zj ?_
 obtain rfl:=h
 exact ⟨_,j0,[],ci j0,j0,j5,j0,j1⟩
def zo7 (b:Int) (a:List UInt8):Option (Bool) :=
  cond (zlM b) ((zjf a).bind fun c=>some c) (cond (zvQ b) ((zfw a).bind fun d=>some d) (some (a == [])))
theorem zqg (c:Int) (d:List UInt8) {r:Bool} (h:zo7 c d=some r):zu Tryz.prog 362 [iA c,sA d] (bA r):=by
 refine zn Tryz.func362 j0 (by kernel_rfl) j0 j0 ?_
 unfold zo7 at h
 refine rg j0<|u<|asg j0<|za ?_
 refine zl ?_
 refine zq ?_
 refine rg j0<|u<|mv j0<|u<|pc (zmk c j0) j0 j0 j0<|u<|asg j0<|za ?_
 refine zh j0 (fun a=>?_) (fun a=>?_)
 ·
  replace h:=bT a h
  obtain ⟨i,e,h⟩:=bs h
  refine rg j0<|u<|mv j0<|u<|pc (zh9 d e) j0 j0 j0<|u<|asg j0<|za ?_
  refine zj ?_
  obtain rfl:=sm h
  exact ⟨_,j0,[],ci j0,j0,j5,j0,j1⟩
 ·
  replace h:=bF a h
  refine rg j0<|u<|mv j0<|u<|pc (zt4 c j0) j0 j0 j0<|u<|asg j0<|za ?_
  refine zh j0 (fun b=>?_) (fun b=>?_)
  ·
   replace h:=bT b h
   obtain ⟨j,f,h⟩:=bs h
   refine rg j0<|u<|mv j0<|u<|pc (zeC d f) j0 j0 j0<|u<|asg j0<|za ?_
   refine zj ?_
   obtain rfl:=sm h
   exact ⟨_,j0,[],ci j0,j0,j5,j0,j1⟩
  ·
   replace h:=bF b h
   refine zk ?_
   refine rg j0<|u<|mv j0<|u<|seq ti9 j0 j0<|u<|asg j0<|za ?_
   refine zj ?_
   obtain rfl:=sm h
   exact ⟨_,j0,[],ci j0,j0,j5,j0,j1⟩
def zo8 (b:Int) (a:List UInt8):Option (Bool) :=
  cond (zvq b) ((ziR a).bind fun c=>some (c&&(!(a == [36,105,110,105,116])))) (some (a == []))
theorem zqh (c:Int) (d:List UInt8) {r:Bool} (h:zo8 c d=some r):zu Tryz.prog 363 [iA c,sA d] (bA r):=by
 refine zn Tryz.func363 j0 (by kernel_rfl) j0 j0 ?_
 unfold zo8 at h
 refine rg j0<|u<|asg j0<|za ?_
 refine zl ?_
 refine rg j0<|u<|mv j0<|u<|pc (zrs c j0) j0 j0 j0<|za ?_
 refine zh j0 (fun a=>?_) (fun a=>?_)
 ·
  replace h:=bT a h
  obtain ⟨f,e,h⟩:=bs h
  refine rg j0<|u<|mv j0<|u<|pc (ziS d e) j0 j0 j0<|u<|mv j0<|za7 (j:=2) 2 j0 j0 j0 j0 j0 gpn (fun b=>g j0 b<|mv j0<|g j0 b<|sne ti9 j0 j0<|za (egA [10,11] 2 b j0 j0 j0 j0)) ziy<|u<|asg j0<|za ?_
  refine zj ?_
  obtain rfl:=sm h
  exact ⟨_,j0,[],ci j0,j0,j5,j0,j1⟩
 ·
  replace h:=bF a h
  refine zk ?_
  refine rg j0<|u<|mv j0<|u<|seq ti9 j0 j0<|u<|asg j0<|za ?_
  refine zj ?_
  obtain rfl:=sm h
  exact ⟨_,j0,[],ci j0,j0,j5,j0,j1⟩
def zrm (a:zA):Option (Bool) :=
  (cond ((znF a.Op)&&(zo6 a.Op a.A)) ((zo7 a.Op a.C).bind fun b=>some b) (some false)).bind fun c=>(cond c ((zo8 a.Op a.M).bind fun d=>some d) (some false)).bind fun e=>some e
theorem zrn (d:zA) {r:Bool} (h:zrm d=some r):zu Tryz.prog 326 [.agg (zw d)] (bA r):=by
 refine zn Tryz.func326 j0 (by kernel_rfl) j0 j0 ?_
 unfold zrm at h
 refine rg j0<|u<|bx 0 4 j0 j0 j0 j0<|u<|asg j0<|za ?_
 obtain ⟨i,e,h⟩:=bs h
 obtain ⟨l,f,h⟩:=bs h
 refine rg j0<|u<|fa zcI j0 j0 j0<|u<|ld ti3 j0 j0<|u<|pc (zo5 d.Op j0) j0 j0 j0<|u<|mv j0<|za7 (j:=3) 5 j0 j0 j0 j0 j0 gpn (fun a=>g j0 a<|fa zcI j0 j0 j0<|g j0 a<|ld ti3 j0 j0<|g j0 a<|fa zcI j0 j0 j0<|g j0 a<|ld ti3 j0 j0<|g j0 a<|pc (zqf d.Op d.A j0) j0 j0 j0<|za (egA [7,8,9,10,11] 5 a j0 j0 j0 j0)) ziy<|u<|mv j0<|za7 (x:=i) (j:=10) 5 j0 j0 j0 j0 j0 gpn (fun b=>by replace e:=bT b e; obtain ⟨o,m,e⟩:=bs e; obtain rfl:=sm e; exact g j0 b<|fa zcI j0 j0 j0<|g j0 b<|ld ti3 j0 j0<|g j0 b<|fa zcI j0 j0 j0<|g j0 b<|ld ti9 j0 j0<|g j0 b<|pc (zqg d.Op d.C m) j0 j0 j0<|za (eg [14,15,16,17,18] 5 j0 j0 j0 j0)) (fun hb=>(sm (bF hb e)).symm)<|u<|mv j0<|za7 (x:=l) (j:=17) 5 j0 j0 j0 j0 j0 gpn (fun c=>by replace f:=bT c f; obtain ⟨p,n,f⟩:=bs f; obtain rfl:=sm f; exact g j0 c<|fa zcI j0 j0 j0<|g j0 c<|ld ti3 j0 j0<|g j0 c<|fa zcI j0 j0 j0<|g j0 c<|ld ti9 j0 j0<|g j0 c<|pc (zqh d.Op d.M n) j0 j0 j0<|za (eg [21,22,23,24,25] 5 j0 j0 j0 j0)) (fun hb=>(sm (bF hb f)).symm)<|u<|asg j0<|za ?_
 refine zj ?_
 obtain rfl:=sm h
 exact ⟨_,j0,[],ci j0,j0,j5,j0,j1⟩
def zeE (a:Bool):Bool :=
  cond a (true) (false)
def znD (a:Int):Bool :=
  cond (a == (20:Int)) (zeE (a == (20:Int))) (cond (a == (46:Int)) (zeE (a == (46:Int))) (cond (a == (47:Int)) (zeE (a == (47:Int))) (cond (a == (48:Int)) (zeE (a == (48:Int))) (cond (a == (58:Int)) (zeE (a == (58:Int))) (zeE (a == (61:Int)))))))
theorem zmX (a:Int) {r:Bool} (h:znD a=r):zu Tryz.prog 203 [iA a] (bA r):=by
 refine zn Tryz.func203 j0 (by kernel_rfl) j0 j0 ?_
 unfold znD at h
 refine rg j0<|u<|asg j0<|za ?_
 refine zl ?_
 refine rg j0<|u<|mv j0<|za ?_
 refine zq ?_
 refine zcD (X:=Bool) (fun z=>[(4,bA z)]) (fun z=>[]) (fun z=>zeE z=r) ?_ ?_
 ·
  refine rg j0<|u<|eql ti3 j0 j0<|u<|asg j0<|za ?_
  refine zh j0 (fun b=>?_) (fun b=>?_)
  ·
   replace h:=bT b h
   refine zk ?_
   exact ⟨(a == (20:Int)),h,[],ce j0 j0<|cn,j0,j5,j0,j1⟩
  ·
   replace h:=bF b h
   refine rg j0<|u<|eql ti3 j0 j0<|u<|asg j0<|za ?_
   refine zh j0 (fun c=>?_) (fun c=>?_)
   ·
    replace h:=bT c h
    refine zk ?_
    exact ⟨(a == (46:Int)),h,[],ce j0 j0<|cn,j0,j5,j0,j1⟩
   ·
    replace h:=bF c h
    refine rg j0<|u<|eql ti3 j0 j0<|u<|asg j0<|za ?_
    refine zh j0 (fun d=>?_) (fun d=>?_)
    ·
     replace h:=bT d h
     refine zk ?_
     exact ⟨(a == (47:Int)),h,[],ce j0 j0<|cn,j0,j5,j0,j1⟩
    ·
     replace h:=bF d h
     refine rg j0<|u<|eql ti3 j0 j0<|u<|asg j0<|za ?_
     refine zh j0 (fun e=>?_) (fun e=>?_)
     ·
      replace h:=bT e h
      refine zk ?_
      exact ⟨(a == (48:Int)),h,[],ce j0 j0<|cn,j0,j5,j0,j1⟩
     ·
      replace h:=bF e h
      refine rg j0<|u<|eql ti3 j0 j0<|u<|asg j0<|za ?_
      refine zh j0 (fun f=>?_) (fun f=>?_)
      ·
       replace h:=bT f h
       refine zk ?_
       exact ⟨(a == (58:Int)),h,[],ce j0 j0<|cn,j0,j5,j0,j1⟩
      ·
       replace h:=bF f h
       exact rl j0<|u<|eql ti3 j0 j0<|u<|asg j0<|za (⟨(a == (61:Int)),h,[],ce j0 j0<|cn,j0,j5,j0,j1⟩)
 ·
  rintro j h
  replace h:zeE j=r:=h
  unfold zeE at h
  refine zh j0 (fun i=>?_) (fun i=>?_)
  ·
   replace h:=bT i h
   refine rg j0<|u<|asg j0<|za ?_
   refine zj ?_
   obtain rfl:=h
   exact ⟨_,j0,[],ci j0,j0,j5,j0,j1⟩
  ·
   replace h:=bF i h
   refine zk ?_
   refine rg j0<|u<|asg j0<|za ?_
   refine zj ?_
   obtain rfl:=h
   exact ⟨_,j0,[],ci j0,j0,j5,j0,j1⟩
def zeW (a:List UInt8):Option ((List UInt8)×Bool) :=
  (zgC a).bind fun b=>(cond (!b) (some true) ((idx a 0).bind fun c=>some (!((c.toNat:Int) == (91:Int))))).bind fun d=>cond d (some ([],false)) ((zmE a 1 (List.length a:Int)).bind fun e=>some (e,true))
theorem zdo (f:List UInt8) {r:(List UInt8)×Bool} (h:zeW f=some r):zu Tryz.prog 220 [sA f] (.tup [sA r.1,bA r.2]):=by
 refine zn Tryz.func220 j0 (by kernel_rfl) j0 j0 ?_
 unfold zeW at h
 refine rg j0<|u<|asg j0<|u<|asg j0<|za ?_
 refine zl ?_
 obtain ⟨o,l,h⟩:=bs h
 obtain ⟨m,d,h⟩:=bs h
 refine rg j0<|u<|mv j0<|u<|pc (zfj f l) j0 j0 j0<|u<|nt j0<|u<|mv j0<|zfo (x:=m) (j:=3) 3 j0 j0 j0 j0 j0 gpn (fun c=>by replace d:=bF c d; obtain ⟨p,n,d⟩:=bs d; obtain rfl:=sm d; exact g j0 c<|mv j0<|g j0 c<|ixS ti9 j0 j0 j0 n<|g j0 c<|neq ti5 j0 j0<|za (eg [8,9,10] 3 j0 j0 j0 j0)) (fun hb=>(sm (bT hb d)).symm)<|za ?_
 refine zh j0 (fun e=>?_) (fun e=>?_)
 ·
  replace h:=bT e h
  refine rg j0<|u<|asg j0<|u<|asg j0<|za ?_
  refine zj ?_
  obtain rfl:=sm h
  exact ⟨_,j0,[],z8 ⟨(ci j0),(ci j0),j5⟩,j0,j5,j0,j1⟩
 ·
  replace h:=bF e h
  refine zk ?_
  obtain ⟨q,i,h⟩:=bs h
  refine rg j0<|u<|mv j0<|u<|slS (a:=1) (b:=(List.length f:Int)) ti9 j0 j0 (zqF j0 i) j0 i<|u<|asg j0<|u<|asg j0<|za ?_
  refine zj ?_
  obtain rfl:=sm h
  exact ⟨_,j0,[],z8 ⟨(ci j0),(ci j0),j5⟩,j0,j5,j0,j1⟩
end
end Go.Proofs.YthmnlfenkhmmhaaGreat
namespace Go.Proofs.YthmnlfenkhmmhaaGreat
noncomputable section
set_option linter.unusedSimpArgs false
set_option linter.unusedVariables false
set_option maxRecDepth 100000
set_option maxHeartbeats 4000000
structure zG where
  Name:List UInt8
  Type_:List UInt8
  Static:Bool
def zH (x:zG):List AV:=[sA x.Name,sA x.Type_,bA x.Static]
structure zaX where
  At:Int
  Locals:List (List UInt8)
  Stack:List (List UInt8)
def zac (x:zaX):List AV:=[iA x.At,.isl 1 (List.map zi x.Locals),.isl 1 (List.map zi x.Stack)]
structure zU where
  From:Int
  To:Int
  At:Int
  C:List UInt8
def zW (x:zU):List AV:=[iA x.From,iA x.To,iA x.At,sA x.C]
structure ze where
  Name:List UInt8
  Params:List (List UInt8)
  Ret:List UInt8
  Static:Bool
  Abstract:Bool
  Locals:Int
  Stack:Int
  Code:List zA
  Maps:List zaX
  Traps:List zU
def zf (x:ze):List AV:=[sA x.Name,.isl 1 (List.map zi x.Params),sA x.Ret,bA x.Static,bA x.Abstract,iA x.Locals,iA x.Stack,.isl 4 (List.map zw x.Code),.isl 3 (List.map zac x.Maps),.isl 4 (List.map zW x.Traps)]
structure zc where
  Name:List UInt8
  Super:List UInt8
  Interface:Bool
  Impl:List (List UInt8)
  Fields:List zG
  Methods:List ze
def zb (x:zc):List AV:=[sA x.Name,sA x.Super,bA x.Interface,.isl 1 (List.map zi x.Impl),.isl 3 (List.map zH x.Fields),.isl 10 (List.map zf x.Methods)]
def zjC (a:zG):Option (Bool) :=
  (ziR a.Name).bind fun b=>(cond (b&&(!(a.Name == [36,105,110,105,116]))) ((zgC a.Type_).bind fun c=>some c) (some false)).bind fun d=>some d
theorem zmz (d:zG) {r:Bool} (h:zjC d=some r):zu Tryz.prog 151 [.agg (zH d)] (bA r):=by
 refine zn Tryz.func151 j0 (by kernel_rfl) j0 j0 ?_
 unfold zjC at h
 refine rg j0<|u<|bx 0 3 j0 j0 j0 j0<|u<|asg j0<|za ?_
 obtain ⟨l,e,h⟩:=bs h
 obtain ⟨f,c,h⟩:=bs h
 refine rg j0<|u<|fa zhG j0 j0 j0<|u<|ld ti9 j0 j0<|u<|pc (ziS d.Name e) j0 j0 j0<|u<|mv j0<|za7 (j:=3) 3 j0 j0 j0 j0 j0 gpn (fun a=>g j0 a<|fa zhG j0 j0 j0<|g j0 a<|ld ti9 j0 j0<|g j0 a<|sne ti9 j0 j0<|za (egA [7,8,9] 3 a j0 j0 j0 j0)) ziy<|u<|mv j0<|za7 (x:=f) (j:=8) 3 j0 j0 j0 j0 j0 gpn (fun b=>by replace c:=bT b c; obtain ⟨m,i,c⟩:=bs c; obtain rfl:=sm c; exact g j0 b<|fa zhG j0 j0 j0<|g j0 b<|ld ti9 j0 j0<|g j0 b<|pc (zfj d.Type_ i) j0 j0 j0<|za (eg [12,13,14] 3 j0 j0 j0 j0)) (fun hb=>(sm (bF hb c)).symm)<|u<|asg j0<|za ?_
 refine zj ?_
 obtain rfl:=sm h
 exact ⟨_,j0,[],ci j0,j0,j5,j0,j1⟩
def zcv (a:zG):(List UInt8) :=
  a.Name
theorem zju (a:zG) {r:(List UInt8)} (h:zcv a=r):zu Tryz.prog 150 [.agg (zH a)] (sA r):=by
 refine zn Tryz.func150 j0 (by kernel_rfl) j0 j0 ?_
 unfold zcv at h
 refine rg j0<|u<|bx 0 3 j0 j0 j0 j0<|u<|asg j0<|za ?_
 refine rg j0<|u<|fa zhG j0 j0 j0<|u<|ld ti9 j0 j0<|u<|asg j0<|za ?_
 refine zj ?_
 obtain rfl:=h
 exact ⟨_,j0,[],ci j0,j0,j5,j0,j1⟩
def zeb (a:zG) (b:List UInt8) (c:List UInt8) (d:Bool):Bool :=
  ((zcv (zG.mk b c d)) == (zcv a))
theorem zhK (a:zG) (b:List UInt8) (c:List UInt8) (d:Bool) {r:Bool} (h:zeb a b c d=r):zu Tryz.prog 235 [.agg (zH a),.ipt 1 [[.fn (.func 150) [] []]] 0 0,.ipt 3 [[sA b,sA c,bA d]] 0 0] (bA r):=by
 refine zn Tryz.func235 j0 (by kernel_rfl) j0 j0 ?_
 unfold zeb at h
 refine rg j0<|u<|bx 0 3 j0 j0 j0 j0<|u<|asg j0<|za ?_
 refine rd [(4,bA ((zcv (zG.mk b c d)) == (zcv a)))] [] [] [7,6,5,4,3,2,1,0] [(4,bA ((zcv (zG.mk b c d)) == (zcv a))),(11,bA ((zcv (zG.mk b c d)) == (zcv a))),(10,sA (zcv a)),(9,.agg (zH a)),(8,.fn (.func 150) [] []),(7,sA (zcv (zG.mk b c d))),(6,.agg [sA b,sA c,bA d]),(5,.fn (.func 150) [] [])] 0 (by kernel_rfl) (by kernel_rfl) j0 (by kernel_rfl) (dt0 ⟨(fun _=>pa j0 j0 j0 j0 (asg j0<|j4)),(fun _=>pa j0 j0 j0 j0 (seq ti9 j0 j0<|j4)),(fun _=>pa j0 j0 j0 j0 (pc (zju a j0) j0 j0 j0<|j4)),(fun _=>pa j0 j0 j0 j0 (ld zhG j0 j0<|j4)),(fun _=>pa j0 j0 j0 j0 (ld zvf j0 j0<|j4)),(fun _=>pa j0 j0 j0 j0 (pc (zju (zG.mk b c d) j0) j0 j0 j0<|j4)),(fun _=>pa j0 j0 j0 j0 (ld zhG j0 j0<|j4)),(fun _=>pa j0 j0 j0 j0 (ld zvf j0 j0<|j4)),j5⟩ (by kernel_rfl) j0 ⟨[],ce j0 j0<|cn,j0,j5,j0,j1⟩) ?_
 refine zj ?_
 obtain rfl:=h
 exact ⟨_,j0,[],ci j0,j0,j5,j0,j1⟩
def za0:Option (Int) :=
  some (-1)
def za1 (b:List zG) (c:List UInt8) (d:List UInt8) (e:Bool) (a:Int):Option (Sum (Int) (Sum (Unit) (Int))) :=
  cond (decide (a < (List.length b:Int))) ((idx b a).bind fun f=>cond (zeb f c d e) (some (.inr (.inr a))) (some (.inl (IntKind.i64.wrap (a+1))))) (some (.inr (.inl ())))
def zbr (a:List zG) (c:List UInt8) (d:List UInt8) (e:Bool):Option (Int) :=
  (zab (fun z=>za1 a c d e z) 0).bind fun o=>zaJ o (fun b=>za0) some
theorem zev (a:List zG) (c:List UInt8) (d:List UInt8) (e:Bool) {r:Int} (h:zbr a c d e=some r):zu Tryz.prog 315 [.isl 3 (List.map zH a),.fn (.func 235) [] [.ipt 1 [[.fn (.func 150) [] []]] 0 0,.ipt 3 [[sA c,sA d,bA e]] 0 0]] (iA r):=by
 refine zn Tryz.func315 j0 (by kernel_rfl) j0 j0 ?_
 unfold zbr at h
 refine rg j0<|u<|asg j0<|za ?_
 refine zl ?_
 refine rg j0<|u<|mv j0<|u<|lnI zm0 j0 j0<|u<|mv j0<|za ?_
 obtain ⟨o,ho,h⟩:=bs h
 refine zT (X:=Int) (B:=Unit) (R:=Int) (fun z=>[(0,.isl 3 (List.map zH a)),(1,.fn (.func 235) [] [.ipt 1 [[.fn (.func 150) [] []]] 0 0,.ipt 3 [[sA c,sA d,bA e]] 0 0]),(7,iA (List.length a:Int)),(8,iA z)]) (fun z=>[]) (fun b=>[]) (fun b=>[]) (fun r env st=>zaC Tryz.prog Tryz.f315 0 (iA r) [] env st) ho ⟨[],ce j0 j0<|ce j0 j0<|ce j0 j0<|ce j0 j0<|cn,j0,j5,j0,j1⟩ ?_ ?_ ?_
 ·
  rintro l r h
  replace h:za1 a c d e l=some r:=h
  unfold za1 at h
  refine rg j0<|u<|lss ti3 j0 j0<|za ?_
  refine zl ?_
  refine zh j0 (fun f=>?_) (fun f=>?_)
  ·
   replace h:=bT f h
   refine zk ?_
   refine zl ?_
   refine zq ?_
   refine rg j0<|u<|mv j0<|u<|asg j0<|za ?_
   obtain ⟨m,j,h⟩:=bs h
   refine rg j0<|u<|mv j0<|u<|mv j0<|u<|mv j0<|u<|ixI zm0 j0 zhG j0 j0 j0 j<|u<|ldI zhG j0 (zp j).2.2 j0<|u<|pc (zhK m c d e j0) j0 j0 j0<|za ?_
   refine zh j0 (fun i=>?_) (fun i=>?_)
   ·
    replace h:=bT i h
    refine rg j0<|u<|mv j0<|u<|asg j0<|za ?_
    refine zj ?_
    obtain rfl:=sm h
    exact ⟨_,j0,_,j0,[],ci j0,j0,j5,j0,j1⟩
   ·
    replace h:=bF i h
    refine zk ?_
    refine rl j0<|u<|add ti3 j0 j0<|u<|mv j0<|za ?_
    obtain rfl:=sm h
    exact ⟨_,j0,[],ce j0 j0<|ce j0 j0<|ce j0 j0<|ce j0 j0<|cn,j0,j5,j0,j1⟩
  ·
   replace h:=bF f h
   refine zz ?_
   obtain rfl:=sm h
   exact ⟨j0,_,j0,[],cn,j0,j5,j0,j1⟩
 ·
  rintro ⟨⟩ rfl
  replace h:za0=some r:=h
  unfold za0 at h
  refine zv ?_
  refine rg j0<|u<|asg j0<|za ?_
  refine zj ?_
  obtain rfl:=sm h
  exact ⟨_,j0,[],ci j0,j0,j5,j0,j1⟩
 ·
  rintro r' rfl env st hp
  obtain rfl:=sm h
  exact hp
def zaZ (a:List zG) (b:List UInt8) (c:List UInt8) (d:Bool):Option (Bool) :=
  (zbr a b c d).bind fun e=>some (decide (0≤e))
theorem zdC (a:List zG) (b:List UInt8) (c:List UInt8) (d:Bool) {r:Bool} (h:zaZ a b c d=some r):zu Tryz.prog 234 [.isl 3 (List.map zH a),.fn (.func 235) [] [.ipt 1 [[.fn (.func 150) [] []]] 0 0,.ipt 3 [[sA b,sA c,bA d]] 0 0]] (bA r):=by
 refine zn Tryz.func234 j0 (by kernel_rfl) j0 j0 ?_
 unfold zaZ at h
 refine rg j0<|u<|asg j0<|za ?_
 obtain ⟨f,e,h⟩:=bs h
 refine rg j0<|u<|mv j0<|u<|mv j0<|u<|pc (zev a b c d e) j0 j0 j0<|u<|geq ti3 j0 j0<|u<|asg j0<|za ?_
 refine zj ?_
 obtain rfl:=sm h
 exact ⟨_,j0,[],ci j0,j0,j5,j0,j1⟩
def zdK (a:List zG) (b:Int):Option (Bool) :=
  some (decide ((List.length a:Int)≤b))
def zdL (c:List zG) (b:Int):Option (Sum (Int) (Sum (Unit) (Bool))) :=
  cond (decide (b < (List.length c:Int))) ((idx c b).bind fun a=>(zjC a).bind fun d=>(cond (!d) (some true) ((zmE c 0 b).bind fun e=>(zaZ e a.Name a.Type_ a.Static).bind fun f=>some f)).bind fun i=>cond i (some (.inr (.inr false))) (some (.inl (IntKind.i64.wrap (b+1))))) (some (.inr (.inl ())))
def ze9 (a:List zG) (c:Int):Option (Bool) :=
  (zab (fun z=>zdL a z) 0).bind fun o=>zaJ o (fun b=>zdK a c) some
theorem zis (e:List zG) (l:Int) {r:Bool} (h:ze9 e l=some r):zu Tryz.prog 149 [.isl 3 (List.map zH e),iA l,.fn (.func 150) [] [],.fn (.func 151) [] []] (bA r):=by
 refine zn Tryz.func149 j0 (by kernel_rfl) j0 j0 ?_
 unfold ze9 at h
 refine rg j0<|u<|bx 0 1 j0 j0 j0 j0<|u<|asg j0<|za ?_
 refine zl ?_
 refine rg j0<|u<|mv j0<|u<|lnI zm0 j0 j0<|u<|mv j0<|za ?_
 obtain ⟨o,ho,h⟩:=bs h
 refine zT (X:=Int) (B:=Unit) (R:=Bool) (fun z=>[(0,.isl 3 (List.map zH e)),(1,iA l),(3,.fn (.func 151) [] []),(6,.mpt 0 0 0),(11,.isl 3 (List.map zH e)),(12,iA (List.length e:Int)),(13,iA z)]) (fun z=>[some (1,[[.fn (.func 150) [] []]])]) (fun b=>[(0,.isl 3 (List.map zH e)),(1,iA l)]) (fun b=>[]) (fun r env st=>zaC Tryz.prog Tryz.f149 0 (bA r) [] env st) ho ⟨[.old 0],ce j0 j0<|ce j0 j0<|ce j0 j0<|cv j0 (.mpt j0)<|ce j0 j0<|ce j0 j0<|ce j0 j0<|cn,j0,⟨⟨_,j0,zg ⟨ci j0,j5⟩⟩,j5⟩,j0,j1⟩ ?_ ?_ ?_
 ·
  rintro q r h
  replace h:zdL e q=some r:=h
  unfold zdL at h
  refine rg j0<|u<|lss ti3 j0 j0<|za ?_
  refine zl ?_
  refine zh j0 (fun m=>?_) (fun m=>?_)
  ·
   replace h:=bT m h
   refine zk ?_
   refine zl ?_
   refine zq ?_
   obtain ⟨i,n,h⟩:=bs h
   refine rg j0<|u<|mv j0<|u<|ixI zm0 j0 zhG j0 j0 j0 n<|u<|ldI zhG j0 (zp n).2.2 j0<|u<|al 1 zhG j0<|u<|asg j0<|u<|sto zhG j0 j0 j0<|za ?_
   obtain ⟨E,s,h⟩:=bs h
   obtain ⟨v,d,h⟩:=bs h
   refine rg j0<|u<|mv j0<|u<|ld zhG j0 j0<|u<|pc (zmz i s) j0 j0 j0<|u<|nt j0<|u<|mv j0<|zfo (x:=v) (j:=4) 5 j0 j0 j0 j0 j0 gpn (fun c=>by replace d:=bF c d; obtain ⟨C,p,d⟩:=bs d; obtain ⟨F,D,d⟩:=bs d; obtain rfl:=sm d; exact g j0 c<|mv j0<|g j0 c<|mv j0<|g j0 c<|slI (a:=0) (b:=q) zm0 j0 zhG j0 j0 j0 (zn8 j0 p) p<|g j0 c<|mf j0 j0<|g j0 c<|pcs (zdC C i.Name i.Type_ i.Static D) j0 j0 (.cons (si j0) (.cons (zdp j5 ⟨(zbe j0 ⟨(si j0),j5⟩),(zbe j0 ⟨(si j0),(si j0),(si j0),j5⟩),j5⟩) .nil)) zcq<|za (eg [23,24,25,26,27] 5 j0 j0 j0 j0)) (fun hb=>(sm (bT hb d)).symm)<|za ?_
   refine zh j0 (fun f=>?_) (fun f=>?_)
   ·
    replace h:=bT f h
    refine rg j0<|u<|asg j0<|za ?_
    refine zj ?_
    obtain rfl:=sm h
    exact ⟨_,j0,_,j0,[],ci j0,j0,j5,j0,j1⟩
   ·
    replace h:=bF f h
    refine zk ?_
    refine rl j0<|u<|add ti3 j0 j0<|u<|mv j0<|za ?_
    obtain rfl:=sm h
    exact ⟨_,j0,[.old 0],ce j0 j0<|ce j0 j0<|ce j0 j0<|cv j0 (.mpt j0)<|ce j0 j0<|ce j0 j0<|ce j0 j0<|cn,j0,⟨⟨_,j0,zg ⟨ci j0,j5⟩⟩,j5⟩,j0,j1⟩
  ·
   replace h:=bF m h
   refine zz ?_
   obtain rfl:=sm h
   exact ⟨j0,_,j0,[],ce j0 j0<|ce j0 j0<|cn,j0,j5,j0,j1⟩
 ·
  rintro ⟨⟩ rfl
  replace h:zdK e l=some r:=h
  unfold zdK at h
  refine zv ?_
  refine rg j0<|u<|mv j0<|u<|lnI zm0 j0 j0<|u<|mv j0<|u<|leq ti3 j0 j0<|u<|asg j0<|za ?_
  refine zj ?_
  obtain rfl:=sm h
  exact ⟨_,j0,[],ci j0,j0,j5,j0,j1⟩
 ·
  rintro r' rfl env st hp
  obtain rfl:=sm h
  exact hp
def zh2 (a:List UInt8):Option (Bool) :=
  (zgC a).bind fun b=>some (!b)
theorem zlv (a:List UInt8) {r:Bool} (h:zh2 a=some r):zu Tryz.prog 324 [sA a,.ipt 1 [[.fn (.func 153) [] []]] 0 0] (bA r):=by
 refine zn Tryz.func324 j0 (by kernel_rfl) j0 j0 ?_
 unfold zh2 at h
 refine rg j0<|u<|asg j0<|za ?_
 obtain ⟨c,b,h⟩:=bs h
 refine rg j0<|u<|ld zmp j0 j0<|u<|mv j0<|u<|pc (zfj a b) j0 j0 j0<|u<|nt j0<|u<|asg j0<|za ?_
 refine zj ?_
 obtain rfl:=sm h
 exact ⟨_,j0,[],ci j0,j0,j5,j0,j1⟩
def zbT:Option (Int) :=
  some (-1)
def zbU (b:List (List UInt8)) (a:Int):Option (Sum (Int) (Sum (Unit) (Int))) :=
  cond (decide (a < (List.length b:Int))) ((idx b a).bind fun c=>(zh2 c).bind fun d=>cond d (some (.inr (.inr a))) (some (.inl (IntKind.i64.wrap (a+1))))) (some (.inr (.inl ())))
def zcr (a:List (List UInt8)):Option (Int) :=
  (zab (fun z=>zbU a z) 0).bind fun o=>zaJ o (fun b=>zbT) some
theorem zfL (a:List (List UInt8)) {r:Int} (h:zcr a=some r):zu Tryz.prog 181 [.isl 1 (List.map zi a),.fn (.func 324) [] [.ipt 1 [[.fn (.func 153) [] []]] 0 0]] (iA r):=by
 refine zn Tryz.func181 j0 (by kernel_rfl) j0 j0 ?_
 unfold zcr at h
 refine rg j0<|u<|asg j0<|za ?_
 refine zl ?_
 refine rg j0<|u<|mv j0<|u<|lnI zM j0 j0<|u<|mv j0<|za ?_
 obtain ⟨o,ho,h⟩:=bs h
 refine zT (X:=Int) (B:=Unit) (R:=Int) (fun z=>[(0,.isl 1 (List.map zi a)),(1,.fn (.func 324) [] [.ipt 1 [[.fn (.func 153) [] []]] 0 0]),(7,iA (List.length a:Int)),(8,iA z)]) (fun z=>[]) (fun b=>[]) (fun b=>[]) (fun r env st=>zaC Tryz.prog Tryz.f181 0 (iA r) [] env st) ho ⟨[],ce j0 j0<|ce j0 j0<|ce j0 j0<|ce j0 j0<|cn,j0,j5,j0,j1⟩ ?_ ?_ ?_
 ·
  rintro f r h
  replace h:zbU a f=some r:=h
  unfold zbU at h
  refine rg j0<|u<|lss ti3 j0 j0<|za ?_
  refine zl ?_
  refine zh j0 (fun c=>?_) (fun c=>?_)
  ·
   replace h:=bT c h
   refine zk ?_
   refine zl ?_
   refine zq ?_
   refine rg j0<|u<|mv j0<|u<|asg j0<|za ?_
   obtain ⟨i,e,h⟩:=bs h
   obtain ⟨l,j,h⟩:=bs h
   refine rg j0<|u<|mv j0<|u<|mv j0<|u<|mv j0<|u<|ixI zM j0 ti9 j0 j0 j0 e<|u<|ldI ti9 j0 (zp e).2.2 j0<|u<|pc (zlv i j) j0 j0 j0<|za ?_
   refine zh j0 (fun d=>?_) (fun d=>?_)
   ·
    replace h:=bT d h
    refine rg j0<|u<|mv j0<|u<|asg j0<|za ?_
    refine zj ?_
    obtain rfl:=sm h
    exact ⟨_,j0,_,j0,[],ci j0,j0,j5,j0,j1⟩
   ·
    replace h:=bF d h
    refine zk ?_
    refine rl j0<|u<|add ti3 j0 j0<|u<|mv j0<|za ?_
    obtain rfl:=sm h
    exact ⟨_,j0,[],ce j0 j0<|ce j0 j0<|ce j0 j0<|ce j0 j0<|cn,j0,j5,j0,j1⟩
  ·
   replace h:=bF c h
   refine zz ?_
   obtain rfl:=sm h
   exact ⟨j0,_,j0,[],cn,j0,j5,j0,j1⟩
 ·
  rintro ⟨⟩ rfl
  replace h:zbT=some r:=h
  unfold zbT at h
  refine zv ?_
  refine rg j0<|u<|asg j0<|za ?_
  refine zj ?_
  obtain rfl:=sm h
  exact ⟨_,j0,[],ci j0,j0,j5,j0,j1⟩
 ·
  rintro r' rfl env st hp
  obtain rfl:=sm h
  exact hp
def zbS (a:List (List UInt8)):Option (Bool) :=
  (zcr a).bind fun b=>some (decide (0≤b))
theorem zeY (a:List (List UInt8)) {r:Bool} (h:zbS a=some r):zu Tryz.prog 99 [.isl 1 (List.map zi a),.fn (.func 324) [] [.ipt 1 [[.fn (.func 153) [] []]] 0 0]] (bA r):=by
 refine zn Tryz.func99 j0 (by kernel_rfl) j0 j0 ?_
 unfold zbS at h
 refine rg j0<|u<|asg j0<|za ?_
 obtain ⟨c,b,h⟩:=bs h
 refine rg j0<|u<|mv j0<|u<|mv j0<|u<|pc (zfL a b) j0 j0 j0<|u<|geq ti3 j0 j0<|u<|asg j0<|za ?_
 refine zj ?_
 obtain rfl:=sm h
 exact ⟨_,j0,[],ci j0,j0,j5,j0,j1⟩
def zjH (a:List (List UInt8)):Option (Bool) :=
  (zbS a).bind fun b=>some (!b)
theorem zmD (a:List (List UInt8)) {r:Bool} (h:zjH a=some r):zu Tryz.prog 241 [.isl 1 (List.map zi a),.fn (.func 153) [] []] (bA r):=by
 refine zn Tryz.func241 j0 (by kernel_rfl) j0 j0 ?_
 unfold zjH at h
 refine rg j0<|u<|bx 0 1 j0 j0 j0 j0<|u<|asg j0<|za ?_
 obtain ⟨c,b,h⟩:=bs h
 refine rg j0<|u<|mv j0<|u<|mf j0 j0<|u<|pcs (zeY a b) j0 j0 (.cons (si j0) (.cons (zdp j5 ⟨(zbe j0 ⟨(si j0),j5⟩),j5⟩) .nil)) zcq<|u<|nt j0<|u<|asg j0<|za ?_
 refine zj ?_
 obtain rfl:=sm h
 exact ⟨_,j0,[],ci j0,j0,j5,j0,j1⟩
def zns (a:List UInt8):Option (Bool) :=
  (cond (a == [86]) (some true) ((zgC a).bind fun b=>some b)).bind fun c=>some c
theorem zo0 (c:List UInt8) {r:Bool} (h:zns c=some r):zu Tryz.prog 242 [sA c] (bA r):=by
 refine zn Tryz.func242 j0 (by kernel_rfl) j0 j0 ?_
 unfold zns at h
 refine rg j0<|u<|asg j0<|za ?_
 obtain ⟨d,a,h⟩:=bs h
 refine rg j0<|u<|mv j0<|u<|seq ti9 j0 j0<|u<|mv j0<|zfo (x:=d) (j:=2) 2 j0 j0 j0 j0 j0 gpn (fun b=>by replace a:=bF b a; obtain ⟨f,e,a⟩:=bs a; obtain rfl:=sm a; exact g j0 b<|mv j0<|g j0 b<|pc (zfj c e) j0 j0 j0<|za (eg [6,7] 2 j0 j0 j0 j0)) (fun hb=>(sm (bT hb a)).symm)<|u<|asg j0<|za ?_
 refine zj ?_
 obtain rfl:=sm h
 exact ⟨_,j0,[],ci j0,j0,j5,j0,j1⟩
def zjF (a:ze):Bool :=
  (((((!a.Static)&&(!(a.Name == [36,105,110,105,116])))&&(a.Locals == (0:Int)))&&(a.Stack == (0:Int)))&&((IntKind.i64.wrap ((IntKind.i64.wrap ((List.length a.Code:Int)+(List.length a.Maps:Int)))+(List.length a.Traps:Int))) == (0:Int)))
theorem zmB (e:ze) {r:Bool} (h:zjF e=r):zu Tryz.prog 243 [.agg (zf e)] (bA r):=by
 refine zn Tryz.func243 j0 (by kernel_rfl) j0 j0 ?_
 unfold zjF at h
 refine rg j0<|u<|bx 0 10 j0 j0 j0 j0<|u<|asg j0<|za ?_
 refine rg j0<|u<|fa zN j0 j0 j0<|u<|ld ti4 j0 j0<|u<|nt j0<|u<|mv j0<|za7 (j:=3) 3 j0 j0 j0 j0 j0 gpn (fun b=>g j0 b<|fa zN j0 j0 j0<|g j0 b<|ld ti9 j0 j0<|g j0 b<|sne ti9 j0 j0<|za (egA [7,8,9] 3 b j0 j0 j0 j0)) ziy<|u<|mv j0<|za7 (j:=8) 3 j0 j0 j0 j0 j0 gpn (fun c=>g j0 c<|fa zN j0 j0 j0<|g j0 c<|ld ti3 j0 j0<|g j0 c<|eql ti3 j0 j0<|za (egA [12,13,14] 3 c j0 j0 j0 j0)) ziy<|u<|mv j0<|za7 (j:=13) 3 j0 j0 j0 j0 j0 gpn (fun d=>g j0 d<|fa zN j0 j0 j0<|g j0 d<|ld ti3 j0 j0<|g j0 d<|eql ti3 j0 j0<|za (egA [17,18,19] 3 d j0 j0 j0 j0)) ziy<|u<|mv j0<|za7 (j:=18) 12 j0 j0 j0 j0 j0 gpn (fun a=>g j0 a<|fa zN j0 j0 j0<|g j0 a<|ld zj7 j0 j0<|g j0 a<|lnI zj7 j0 j0<|g j0 a<|fa zN j0 j0 j0<|g j0 a<|ld zoF j0 j0<|g j0 a<|lnI zoF j0 j0<|g j0 a<|add ti3 j0 j0<|g j0 a<|fa zN j0 j0 j0<|g j0 a<|ld zqp j0 j0<|g j0 a<|lnI zqp j0 j0<|g j0 a<|add ti3 j0 j0<|g j0 a<|eql ti3 j0 j0<|za (egA [22,23,24,25,26,27,28,29,30,31,32,33] 12 a j0 j0 j0 j0)) ziy<|u<|asg j0<|za ?_
 refine zj ?_
 obtain rfl:=h
 exact ⟨_,j0,[],ci j0,j0,j5,j0,j1⟩
def zF (a:ze):Int :=
  cond a.Static ((List.length a.Params:Int)) ((IntKind.i64.wrap ((List.length a.Params:Int)+1)))
theorem zfB (b:ze) {r:Int} (h:zF b=r):zu Tryz.prog 245 [.agg (zf b)] (iA r):=by
 refine zn Tryz.func245 j0 (by kernel_rfl) j0 j0 ?_
 unfold zF at h
 refine rg j0<|u<|bx 0 10 j0 j0 j0 j0<|u<|asg j0<|za ?_
 refine zl ?_
 refine rg j0<|u<|fa zN j0 j0 j0<|u<|ld ti4 j0 j0<|za ?_
 refine zh j0 (fun a=>?_) (fun a=>?_)
 ·
  replace h:=bT a h
  refine rg j0<|u<|fa zN j0 j0 j0<|u<|ld zM j0 j0<|u<|lnI zM j0 j0<|u<|asg j0<|za ?_
  refine zj ?_
  obtain rfl:=h
  exact ⟨_,j0,[],ci j0,j0,j5,j0,j1⟩
 ·
  replace h:=bF a h
  refine zk ?_
  refine rg j0<|u<|fa zN j0 j0 j0<|u<|ld zM j0 j0<|u<|lnI zM j0 j0<|u<|add ti3 j0 j0<|u<|asg j0<|za ?_
  refine zj ?_
  obtain rfl:=h
  exact ⟨_,j0,[],ci j0,j0,j5,j0,j1⟩
def zm (a:Int) (b:Int) (c:Int):Bool :=
  ((decide (b≤a))&&(decide (a≤c)))
theorem zY (b:Int) (c:Int) (d:Int) {r:Bool} (h:zm b c d=r):zu Tryz.prog 244 [iA b,iA c,iA d] (bA r):=by
 refine zn Tryz.func244 j0 (by kernel_rfl) j0 j0 ?_
 unfold zm at h
 refine rg j0<|u<|asg j0<|za ?_
 refine rg j0<|u<|mv j0<|u<|mv j0<|u<|geq ti3 j0 j0<|u<|mv j0<|za7 (j:=3) 3 j0 j0 j0 j0 j0 gpn (fun a=>g j0 a<|mv j0<|g j0 a<|mv j0<|g j0 a<|leq ti3 j0 j0<|za (egA [11,12,13] 3 a j0 j0 j0 j0)) ziy<|u<|asg j0<|za ?_
 refine zj ?_
 obtain rfl:=h
 exact ⟨_,j0,[],ci j0,j0,j5,j0,j1⟩
def zeM (a:zA) (b:Int):Option (Bool) :=
  (zrm a).bind fun c=>some ((!c)||((zkr a.Op)&&(decide (b≤a.A))))
theorem zhY (c:zA) (d:Int) {r:Bool} (h:zeM c d=some r):zu Tryz.prog 325 [.agg (zw c),.ipt 1 [[iA d]] 0 0] (bA r):=by
 refine zn Tryz.func325 j0 (by kernel_rfl) j0 j0 ?_
 unfold zeM at h
 refine rg j0<|u<|bx 0 4 j0 j0 j0 j0<|u<|asg j0<|za ?_
 obtain ⟨f,e,h⟩:=bs h
 refine rg j0<|u<|ld zcI j0 j0<|u<|pc (zrn c e) j0 j0 j0<|u<|nt j0<|u<|mv j0<|zfo (j:=3) 9 j0 j0 j0 j0 j0 gpn (fun a=>g j0 a<|fa zcI j0 j0 j0<|g j0 a<|ld ti3 j0 j0<|g j0 a<|pc (zj3 c.Op j0) j0 j0 j0<|g j0 a<|mv j0<|za7 (j:=7) 4 j0 j0 j0 j0 j0 (gps j0 j0 a) (fun b=>g j0 b<|fa zcI j0 j0 j0<|g j0 b<|ld ti3 j0 j0<|g j0 b<|ld ti3 j0 j0<|g j0 b<|geq ti3 j0 j0<|za (egA [12,13,14,15] 4 b j0 j0 j0 j0)) ziy<|za (egO [8,9,10,11,12,13,14,15,16] 5 a j0 j0 j0 j0)) orT<|u<|asg j0<|za ?_
 refine zj ?_
 obtain rfl:=sm h
 exact ⟨_,j0,[],ci j0,j0,j5,j0,j1⟩
def zbK:Option (Int) :=
  some (-1)
def zbL (b:List zA) (c:Int) (a:Int):Option (Sum (Int) (Sum (Unit) (Int))) :=
  cond (decide (a < (List.length b:Int))) ((idx b a).bind fun d=>(zeM d c).bind fun e=>cond e (some (.inr (.inr a))) (some (.inl (IntKind.i64.wrap (a+1))))) (some (.inr (.inl ())))
def zb6 (a:List zA) (c:Int):Option (Int) :=
  (zab (fun z=>zbL a c z) 0).bind fun o=>zaJ o (fun b=>zbK) some
theorem zfp (a:List zA) (c:Int) {r:Int} (h:zb6 a c=some r):zu Tryz.prog 349 [.isl 4 (List.map zw a),.fn (.func 325) [] [.ipt 1 [[iA c]] 0 0]] (iA r):=by
 refine zn Tryz.func349 j0 (by kernel_rfl) j0 j0 ?_
 unfold zb6 at h
 refine rg j0<|u<|asg j0<|za ?_
 refine zl ?_
 refine rg j0<|u<|mv j0<|u<|lnI zj7 j0 j0<|u<|mv j0<|za ?_
 obtain ⟨o,ho,h⟩:=bs h
 refine zT (X:=Int) (B:=Unit) (R:=Int) (fun z=>[(0,.isl 4 (List.map zw a)),(1,.fn (.func 325) [] [.ipt 1 [[iA c]] 0 0]),(7,iA (List.length a:Int)),(8,iA z)]) (fun z=>[]) (fun b=>[]) (fun b=>[]) (fun r env st=>zaC Tryz.prog Tryz.f349 0 (iA r) [] env st) ho ⟨[],ce j0 j0<|ce j0 j0<|ce j0 j0<|ce j0 j0<|cn,j0,j5,j0,j1⟩ ?_ ?_ ?_
 ·
  rintro i r h
  replace h:zbL a c i=some r:=h
  unfold zbL at h
  refine rg j0<|u<|lss ti3 j0 j0<|za ?_
  refine zl ?_
  refine zh j0 (fun d=>?_) (fun d=>?_)
  ·
   replace h:=bT d h
   refine zk ?_
   refine zl ?_
   refine zq ?_
   refine rg j0<|u<|mv j0<|u<|asg j0<|za ?_
   obtain ⟨j,f,h⟩:=bs h
   obtain ⟨m,l,h⟩:=bs h
   refine rg j0<|u<|mv j0<|u<|mv j0<|u<|mv j0<|u<|ixI zj7 j0 zcI j0 j0 j0 f<|u<|ldI zcI j0 (zp f).2.2 j0<|u<|pc (zhY j c l) j0 j0 j0<|za ?_
   refine zh j0 (fun e=>?_) (fun e=>?_)
   ·
    replace h:=bT e h
    refine rg j0<|u<|mv j0<|u<|asg j0<|za ?_
    refine zj ?_
    obtain rfl:=sm h
    exact ⟨_,j0,_,j0,[],ci j0,j0,j5,j0,j1⟩
   ·
    replace h:=bF e h
    refine zk ?_
    refine rl j0<|u<|add ti3 j0 j0<|u<|mv j0<|za ?_
    obtain rfl:=sm h
    exact ⟨_,j0,[],ce j0 j0<|ce j0 j0<|ce j0 j0<|ce j0 j0<|cn,j0,j5,j0,j1⟩
  ·
   replace h:=bF d h
   refine zz ?_
   obtain rfl:=sm h
   exact ⟨j0,_,j0,[],cn,j0,j5,j0,j1⟩
 ·
  rintro ⟨⟩ rfl
  replace h:zbK=some r:=h
  unfold zbK at h
  refine zv ?_
  refine rg j0<|u<|asg j0<|za ?_
  refine zj ?_
  obtain rfl:=sm h
  exact ⟨_,j0,[],ci j0,j0,j5,j0,j1⟩
 ·
  rintro r' rfl env st hp
  obtain rfl:=sm h
  exact hp
def zbJ (a:List zA) (b:Int):Option (Bool) :=
  (zb6 a b).bind fun c=>some (decide (0≤c))
theorem zeH (a:List zA) (b:Int) {r:Bool} (h:zbJ a b=some r):zu Tryz.prog 304 [.isl 4 (List.map zw a),.fn (.func 325) [] [.ipt 1 [[iA b]] 0 0]] (bA r):=by
 refine zn Tryz.func304 j0 (by kernel_rfl) j0 j0 ?_
 unfold zbJ at h
 refine rg j0<|u<|asg j0<|za ?_
 obtain ⟨d,c,h⟩:=bs h
 refine rg j0<|u<|mv j0<|u<|mv j0<|u<|pc (zfp a b c) j0 j0 j0<|u<|geq ti3 j0 j0<|u<|asg j0<|za ?_
 refine zj ?_
 obtain rfl:=sm h
 exact ⟨_,j0,[],ci j0,j0,j5,j0,j1⟩
def zfC (a:ze):Option (Bool) :=
  (cond (!(zm (List.length a.Code:Int) 1 100)) (some true) ((idx a.Code (IntKind.i64.wrap ((List.length a.Code:Int) - 1))).bind fun b=>some (!(znD b.Op)))).bind fun c=>cond c (some false) ((zbJ a.Code (List.length a.Code:Int)).bind fun d=>some (!d))
theorem zec (c:ze) {r:Bool} (h:zfC c=some r):zu Tryz.prog 246 [.agg (zf c)] (bA r):=by
 refine zn Tryz.func246 j0 (by kernel_rfl) j0 j0 ?_
 unfold zfC at h
 refine rg j0<|u<|bx 0 10 j0 j0 j0 j0<|u<|asg j0<|za ?_
 refine rg j0<|u<|fa zN j0 j0 j0<|u<|ld zj7 j0 j0<|u<|lnI zj7 j0 j0<|u<|al 1 ti3 j0<|u<|sto ti3 j0 j0 j0<|za ?_
 refine zl ?_
 obtain ⟨f,b,h⟩:=bs h
 refine rg j0<|u<|ld ti3 j0 j0<|u<|pc (zY (List.length c.Code:Int) 1 100 j0) j0 j0 j0<|u<|nt j0<|u<|mv j0<|zfo (x:=f) (j:=3) 9 j0 j0 j0 j0 j0 gpn (fun a=>by replace b:=bF a b; obtain ⟨i,e,b⟩:=bs b; obtain rfl:=sm b; exact g j0 a<|fa zN j0 j0 j0<|g j0 a<|ld zj7 j0 j0<|g j0 a<|ld ti3 j0 j0<|g j0 a<|sub ti3 j0 j0<|g j0 a<|ixI zj7 j0 zcI j0 j0 j0 e<|g j0 a<|fa zcI j0 j0 j0<|g j0 a<|ldI ti3 j0 (zp e).2.2 j0<|g j0 a<|pc (zmX i.Op j0) j0 j0 j0<|g j0 a<|nt j0<|za (eg [11,12,13,14,15,16,17,18,19] 9 j0 j0 j0 j0)) (fun hb=>(sm (bT hb b)).symm)<|za ?_
 refine zh j0 (fun d=>?_) (fun d=>?_)
 ·
  replace h:=bT d h
  refine rg j0<|u<|asg j0<|za ?_
  refine zj ?_
  obtain rfl:=sm h
  exact ⟨_,j0,[],ci j0,j0,j5,j0,j1⟩
 ·
  replace h:=bF d h
  refine zk ?_
  obtain ⟨m,l,h⟩:=bs h
  refine rg j0<|u<|fa zN j0 j0 j0<|u<|ld zj7 j0 j0<|u<|mf j0 j0<|u<|pcs (zeH c.Code (List.length c.Code:Int) l) j0 j0 (.cons (si j0) (.cons (zdp j5 ⟨(zbe j0 ⟨(si j0),j5⟩),j5⟩) .nil)) zcq<|u<|nt j0<|u<|asg j0<|za ?_
  refine zj ?_
  obtain rfl:=sm h
  exact ⟨_,j0,[],ci j0,j0,j5,j0,j1⟩
def zkP (a:List UInt8):Option (Bool) :=
  (cond (((a == [73])||(a == [78]))||(a == [84])) (some true) ((zjf a).bind fun b=>some b)).bind fun c=>some c
theorem znf (e:List UInt8) {r:Bool} (h:zkP e=some r):zu Tryz.prog 327 [sA e] (bA r):=by
 refine zn Tryz.func327 j0 (by kernel_rfl) j0 j0 ?_
 unfold zkP at h
 refine rg j0<|u<|asg j0<|za ?_
 obtain ⟨f,a,h⟩:=bs h
 refine rg j0<|u<|mv j0<|u<|seq ti9 j0 j0<|u<|mv j0<|zfo (j:=2) 2 j0 j0 j0 j0 j0 gpn (fun b=>g j0 b<|mv j0<|g j0 b<|seq ti9 j0 j0<|za (egO [6,7] 2 b j0 j0 j0 j0)) orT<|u<|mv j0<|zfo (j:=6) 2 j0 j0 j0 j0 j0 gpn (fun c=>g j0 c<|mv j0<|g j0 c<|seq ti9 j0 j0<|za (egO [10,11] 2 c j0 j0 j0 j0)) orT<|u<|mv j0<|zfo (x:=f) (j:=10) 2 j0 j0 j0 j0 j0 gpn (fun d=>by replace a:=bF d a; obtain ⟨l,i,a⟩:=bs a; obtain rfl:=sm a; exact g j0 d<|mv j0<|g j0 d<|pc (zh9 e i) j0 j0 j0<|za (eg [14,15] 2 j0 j0 j0 j0)) (fun hb=>(sm (bT hb a)).symm)<|u<|asg j0<|za ?_
 refine zj ?_
 obtain rfl:=sm h
 exact ⟨_,j0,[],ci j0,j0,j5,j0,j1⟩
def zgi (a:List UInt8):Option (Bool) :=
  (zkP a).bind fun b=>some (!b)
theorem zjI (a:List UInt8) {r:Bool} (h:zgi a=some r):zu Tryz.prog 324 [sA a,.ipt 1 [[.fn (.func 327) [] []]] 0 0] (bA r):=by
 refine zn Tryz.func324 j0 (by kernel_rfl) j0 j0 ?_
 unfold zgi at h
 refine rg j0<|u<|asg j0<|za ?_
 obtain ⟨c,b,h⟩:=bs h
 refine rg j0<|u<|ld zmp j0 j0<|u<|mv j0<|u<|pc (znf a b) j0 j0 j0<|u<|nt j0<|u<|asg j0<|za ?_
 refine zj ?_
 obtain rfl:=sm h
 exact ⟨_,j0,[],ci j0,j0,j5,j0,j1⟩
def zbs:Option (Int) :=
  some (-1)
def zbt (b:List (List UInt8)) (a:Int):Option (Sum (Int) (Sum (Unit) (Int))) :=
  cond (decide (a < (List.length b:Int))) ((idx b a).bind fun c=>(zgi c).bind fun d=>cond d (some (.inr (.inr a))) (some (.inl (IntKind.i64.wrap (a+1))))) (some (.inr (.inl ())))
def zbV (a:List (List UInt8)):Option (Int) :=
  (zab (fun z=>zbt a z) 0).bind fun o=>zaJ o (fun b=>zbs) some
theorem zeZ (a:List (List UInt8)) {r:Int} (h:zbV a=some r):zu Tryz.prog 181 [.isl 1 (List.map zi a),.fn (.func 324) [] [.ipt 1 [[.fn (.func 327) [] []]] 0 0]] (iA r):=by
 refine zn Tryz.func181 j0 (by kernel_rfl) j0 j0 ?_
 unfold zbV at h
 refine rg j0<|u<|asg j0<|za ?_
 refine zl ?_
 refine rg j0<|u<|mv j0<|u<|lnI zM j0 j0<|u<|mv j0<|za ?_
 obtain ⟨o,ho,h⟩:=bs h
 refine zT (X:=Int) (B:=Unit) (R:=Int) (fun z=>[(0,.isl 1 (List.map zi a)),(1,.fn (.func 324) [] [.ipt 1 [[.fn (.func 327) [] []]] 0 0]),(7,iA (List.length a:Int)),(8,iA z)]) (fun z=>[]) (fun b=>[]) (fun b=>[]) (fun r env st=>zaC Tryz.prog Tryz.f181 0 (iA r) [] env st) ho ⟨[],ce j0 j0<|ce j0 j0<|ce j0 j0<|ce j0 j0<|cn,j0,j5,j0,j1⟩ ?_ ?_ ?_
 ·
  rintro f r h
  replace h:zbt a f=some r:=h
  unfold zbt at h
  refine rg j0<|u<|lss ti3 j0 j0<|za ?_
  refine zl ?_
  refine zh j0 (fun c=>?_) (fun c=>?_)
  ·
   replace h:=bT c h
   refine zk ?_
   refine zl ?_
   refine zq ?_
   refine rg j0<|u<|mv j0<|u<|asg j0<|za ?_
   obtain ⟨i,e,h⟩:=bs h
   obtain ⟨l,j,h⟩:=bs h
   refine rg j0<|u<|mv j0<|u<|mv j0<|u<|mv j0<|u<|ixI zM j0 ti9 j0 j0 j0 e<|u<|ldI ti9 j0 (zp e).2.2 j0<|u<|pc (zjI i j) j0 j0 j0<|za ?_
   refine zh j0 (fun d=>?_) (fun d=>?_)
   ·
    replace h:=bT d h
    refine rg j0<|u<|mv j0<|u<|asg j0<|za ?_
    refine zj ?_
    obtain rfl:=sm h
    exact ⟨_,j0,_,j0,[],ci j0,j0,j5,j0,j1⟩
   ·
    replace h:=bF d h
    refine zk ?_
    refine rl j0<|u<|add ti3 j0 j0<|u<|mv j0<|za ?_
    obtain rfl:=sm h
    exact ⟨_,j0,[],ce j0 j0<|ce j0 j0<|ce j0 j0<|ce j0 j0<|cn,j0,j5,j0,j1⟩
  ·
   replace h:=bF c h
   refine zz ?_
   obtain rfl:=sm h
   exact ⟨j0,_,j0,[],cn,j0,j5,j0,j1⟩
 ·
  rintro ⟨⟩ rfl
  replace h:zbs=some r:=h
  unfold zbs at h
  refine zv ?_
  refine rg j0<|u<|asg j0<|za ?_
  refine zj ?_
  obtain rfl:=sm h
  exact ⟨_,j0,[],ci j0,j0,j5,j0,j1⟩
 ·
  rintro r' rfl env st hp
  obtain rfl:=sm h
  exact hp
def zbk (a:List (List UInt8)):Option (Bool) :=
  (zbV a).bind fun b=>some (decide (0≤b))
theorem zeo (a:List (List UInt8)) {r:Bool} (h:zbk a=some r):zu Tryz.prog 99 [.isl 1 (List.map zi a),.fn (.func 324) [] [.ipt 1 [[.fn (.func 327) [] []]] 0 0]] (bA r):=by
 refine zn Tryz.func99 j0 (by kernel_rfl) j0 j0 ?_
 unfold zbk at h
 refine rg j0<|u<|asg j0<|za ?_
 obtain ⟨c,b,h⟩:=bs h
 refine rg j0<|u<|mv j0<|u<|mv j0<|u<|pc (zeZ a b) j0 j0 j0<|u<|geq ti3 j0 j0<|u<|asg j0<|za ?_
 refine zj ?_
 obtain rfl:=sm h
 exact ⟨_,j0,[],ci j0,j0,j5,j0,j1⟩
def zf5 (a:List (List UInt8)):Option (Bool) :=
  (zbk a).bind fun b=>some (!b)
theorem zhL (a:List (List UInt8)) {r:Bool} (h:zf5 a=some r):zu Tryz.prog 241 [.isl 1 (List.map zi a),.fn (.func 327) [] []] (bA r):=by
 refine zn Tryz.func241 j0 (by kernel_rfl) j0 j0 ?_
 unfold zf5 at h
 refine rg j0<|u<|bx 0 1 j0 j0 j0 j0<|u<|asg j0<|za ?_
 obtain ⟨c,b,h⟩:=bs h
 refine rg j0<|u<|mv j0<|u<|mf j0 j0<|u<|pcs (zeo a b) j0 j0 (.cons (si j0) (.cons (zdp j5 ⟨(zbe j0 ⟨(si j0),j5⟩),j5⟩) .nil)) zcq<|u<|nt j0<|u<|asg j0<|za ?_
 refine zj ?_
 obtain rfl:=sm h
 exact ⟨_,j0,[],ci j0,j0,j5,j0,j1⟩
def zcB:Option (Int) :=
  some (-1)
def zcC (b:List (List UInt8)) (c:List UInt8) (a:Int):Option (Sum (Int) (Sum (Unit) (Int))) :=
  cond (decide (a < (List.length b:Int))) ((idx b a).bind fun d=>cond (c == d) (some (.inr (.inr a))) (some (.inl (IntKind.i64.wrap (a+1))))) (some (.inr (.inl ())))
def zb8 (a:List (List UInt8)) (c:List UInt8):Option (Int) :=
  (zab (fun z=>zcC a c z) 0).bind fun o=>zaJ o (fun b=>zcB) some
theorem zdF (a:List (List UInt8)) (e:List UInt8) {r:Int} (h:zb8 a e=some r):zu Tryz.prog 131 [.isl 1 (List.map zi a),sA e] (iA r):=by
 refine zn Tryz.func131 j0 (by kernel_rfl) j0 j0 ?_
 unfold zb8 at h
 refine rg j0<|u<|asg j0<|za ?_
 refine zl ?_
 refine rg j0<|u<|mv j0<|u<|lnI zM j0 j0<|u<|mv j0<|za ?_
 obtain ⟨o,ho,h⟩:=bs h
 refine zT (X:=Int) (B:=Unit) (R:=Int) (fun z=>[(0,.isl 1 (List.map zi a)),(1,sA e),(7,iA (List.length a:Int)),(8,iA z)]) (fun z=>[]) (fun b=>[]) (fun b=>[]) (fun r env st=>zaC Tryz.prog Tryz.f131 0 (iA r) [] env st) ho ⟨[],ce j0 j0<|ce j0 j0<|ce j0 j0<|ce j0 j0<|cn,j0,j5,j0,j1⟩ ?_ ?_ ?_
 ·
  rintro i r h
  replace h:zcC a e i=some r:=h
  unfold zcC at h
  refine rg j0<|u<|lss ti3 j0 j0<|za ?_
  refine zl ?_
  refine zh j0 (fun c=>?_) (fun c=>?_)
  ·
   replace h:=bT c h
   refine zk ?_
   refine zl ?_
   refine zq ?_
   refine rg j0<|u<|mv j0<|u<|asg j0<|za ?_
   obtain ⟨j,f,h⟩:=bs h
   refine rg j0<|u<|mv j0<|u<|mv j0<|u<|mv j0<|u<|ixI zM j0 ti9 j0 j0 j0 f<|u<|ldI ti9 j0 (zp f).2.2 j0<|u<|seq ti9 j0 j0<|za ?_
   refine zh j0 (fun d=>?_) (fun d=>?_)
   ·
    replace h:=bT d h
    refine rg j0<|u<|mv j0<|u<|asg j0<|za ?_
    refine zj ?_
    obtain rfl:=sm h
    exact ⟨_,j0,_,j0,[],ci j0,j0,j5,j0,j1⟩
   ·
    replace h:=bF d h
    refine zk ?_
    refine rl j0<|u<|add ti3 j0 j0<|u<|mv j0<|za ?_
    obtain rfl:=sm h
    exact ⟨_,j0,[],ce j0 j0<|ce j0 j0<|ce j0 j0<|ce j0 j0<|cn,j0,j5,j0,j1⟩
  ·
   replace h:=bF c h
   refine zz ?_
   obtain rfl:=sm h
   exact ⟨j0,_,j0,[],cn,j0,j5,j0,j1⟩
 ·
  rintro ⟨⟩ rfl
  replace h:zcB=some r:=h
  unfold zcB at h
  refine zv ?_
  refine rg j0<|u<|asg j0<|za ?_
  refine zj ?_
  obtain rfl:=sm h
  exact ⟨_,j0,[],ci j0,j0,j5,j0,j1⟩
 ·
  rintro r' rfl env st hp
  obtain rfl:=sm h
  exact hp
def zC (a:List (List UInt8)) (b:List UInt8):Option (Bool) :=
  (zb8 a b).bind fun c=>some (decide (0≤c))
theorem zI (a:List (List UInt8)) (b:List UInt8) {r:Bool} (h:zC a b=some r):zu Tryz.prog 136 [.isl 1 (List.map zi a),sA b] (bA r):=by
 refine zn Tryz.func136 j0 (by kernel_rfl) j0 j0 ?_
 unfold zC at h
 refine rg j0<|u<|asg j0<|za ?_
 obtain ⟨d,c,h⟩:=bs h
 refine rg j0<|u<|mv j0<|u<|mv j0<|u<|pc (zdF a b c) j0 j0 j0<|u<|geq ti3 j0 j0<|u<|asg j0<|za ?_
 refine zj ?_
 obtain rfl:=sm h
 exact ⟨_,j0,[],ci j0,j0,j5,j0,j1⟩
def zhZ (a:ze):Option (Bool) :=
  some (decide ((List.length a.Maps:Int)≤100))
def zeA (b:ze) (c:Int) (a:zaX) (d:Bool):Option (Sum (Int) (Sum (Unit) (Bool))) :=
  cond d (some (.inr (.inr false))) ((cond ((!((List.length a.Locals:Int) == b.Locals))||(decide (b.Stack < (List.length a.Stack:Int)))) (some true) ((zf5 a.Locals).bind fun e=>some (!e))).bind fun f=>(cond f (some true) ((zf5 a.Stack).bind fun i=>some (!i))).bind fun j=>(cond j (some true) ((zC a.Stack [84]).bind fun l=>some l)).bind fun m=>cond m (some (.inr (.inr false))) (some (.inl (IntKind.i64.wrap (c+1)))))
def zh0 (c:ze) (a:Int):Option (Sum (Int) (Sum (Unit) (Bool))) :=
  cond (decide (a < (List.length c.Maps:Int))) ((idx c.Maps a).bind fun b=>cond (!(zm b.At 0 (IntKind.i64.wrap ((List.length c.Code:Int) - 1)))) (zeA c a b true) (cond (decide (0 < a)) ((idx c.Maps (IntKind.i64.wrap (a - 1))).bind fun d=>zeA c a b (decide (b.At≤d.At))) (zeA c a b false))) (some (.inr (.inl ())))
def zkO (a:ze):Option (Bool) :=
  (zab (fun z=>zh0 a z) 0).bind fun o=>zaJ o (fun b=>zhZ a) some
theorem zkd (e:ze) {r:Bool} (h:zkO e=some r):zu Tryz.prog 247 [.agg (zf e)] (bA r):=by
 refine zn Tryz.func247 j0 (by kernel_rfl) j0 j0 ?_
 unfold zkO at h
 refine rg j0<|u<|bx 0 10 j0 j0 j0 j0<|u<|asg j0<|za ?_
 refine zl ?_
 refine rg j0<|u<|fa zN j0 j0 j0<|u<|ld zoF j0 j0<|u<|lnI zoF j0 j0<|u<|mv j0<|za ?_
 obtain ⟨o,ho,h⟩:=bs h
 refine zT (X:=Int) (B:=Unit) (R:=Bool) (fun z=>[(1,.mpt 0 0 0),(6,.isl 3 (List.map zac e.Maps)),(7,iA (List.length e.Maps:Int)),(8,iA z)]) (fun z=>[some (10,[(zf e)])]) (fun b=>[(1,.mpt 0 0 0)]) (fun b=>[some (10,[(zf e)])]) (fun r env st=>zaC Tryz.prog Tryz.f247 0 (bA r) [] env st) ho ⟨[.old 0],cv j0 (.mpt j0)<|ce j0 j0<|ce j0 j0<|ce j0 j0<|cn,j0,⟨⟨_,j0,zg (ciL j0)⟩,j5⟩,j0,j1⟩ ?_ ?_ ?_
 ·
  rintro c r h
  replace h:zh0 e c=some r:=h
  unfold zh0 at h
  refine rg j0<|u<|lss ti3 j0 j0<|za ?_
  refine zl ?_
  refine zh j0 (fun C=>?_) (fun C=>?_)
  ·
   replace h:=bT C h
   refine zk ?_
   refine zl ?_
   refine zq ?_
   obtain ⟨a,F,h⟩:=bs h
   refine rg j0<|u<|mv j0<|u<|ixI zoF j0 zin j0 j0 j0 F<|u<|ldI zin j0 (zp F).2.2 j0<|u<|al 1 zin j0<|u<|asg j0<|u<|sto zin j0 j0 j0<|za ?_
   refine zl ?_
   refine zcD (X:=Bool) (fun z=>[(1,.mpt 0 0 0),(4,.mpt 1 0 0),(6,.isl 3 (List.map zac e.Maps)),(7,iA (List.length e.Maps:Int)),(8,iA c),(36,bA z)]) (fun z=>[some (10,[(zf e)]),some (3,[(zac a)])]) (fun z=>zeA e c a z=some r) ?_ ?_
   ·
    rcases bb (!(zm a.At 0 (IntKind.i64.wrap ((List.length e.Code:Int) - 1)))) with f | f
    ·
     replace h:=bT f h
     exact za4 [] [23,22,21,20,19,18,17,16,15,14,13,12,11,10,9,8,7,6,5,4,3,2,1,0] [(36,bA true),(35,.lit undef),(34,.lit undef),(33,.lit undef),(32,.lit undef),(31,.lit undef),(30,.lit undef),(29,.lit undef),(28,.lit undef),(27,.lit undef),(26,.lit undef),(25,.lit undef),(24,.lit undef),(23,.lit undef),(22,.lit undef),(21,bA (!(zm a.At 0 (IntKind.i64.wrap ((List.length e.Code:Int) - 1))))),(20,bA (!(zm a.At 0 (IntKind.i64.wrap ((List.length e.Code:Int) - 1))))),(19,bA (zm a.At 0 (IntKind.i64.wrap ((List.length e.Code:Int) - 1)))),(18,iA (IntKind.i64.wrap ((List.length e.Code:Int) - 1))),(17,iA (List.length e.Code:Int)),(16,.isl 4 (List.map zw e.Code)),(15,.mpt 0 0 7),(14,iA a.At),(13,.mpt 1 0 0)] 0 (by kernel_rfl) (by kernel_rfl) j0 (by kernel_rfl) (dt0 ⟨(fun _=>pa j0 j0 j0 j0 (pkb j0 f j0<|j4)),(fun _=>pas (b:=(!(zm a.At 0 (IntKind.i64.wrap ((List.length e.Code:Int) - 1))))) j0 j0 j0 j0 f j0),(fun _=>pau j0 j0 j0 j0 j0),(fun _=>pau j0 j0 j0 j0 j0),(fun _=>pau j0 j0 j0 j0 j0),(fun _=>pau j0 j0 j0 j0 j0),(fun _=>pau j0 j0 j0 j0 j0),(fun _=>pau j0 j0 j0 j0 j0),(fun _=>pau j0 j0 j0 j0 j0),(fun _=>pau j0 j0 j0 j0 j0),(fun _=>pau j0 j0 j0 j0 j0),(fun _=>pau j0 j0 j0 j0 j0),(fun _=>pas (b:=(!(zm a.At 0 (IntKind.i64.wrap ((List.length e.Code:Int) - 1))))) j0 j0 j0 j0 f j0),(fun _=>pas (b:=(!(zm a.At 0 (IntKind.i64.wrap ((List.length e.Code:Int) - 1))))) j0 j0 j0 j0 f j0),(fun _=>pas (b:=(!(zm a.At 0 (IntKind.i64.wrap ((List.length e.Code:Int) - 1))))) j0 j0 j0 j0 f j0),(fun _=>pa j0 j0 j0 j0 (mv j0<|j4)),(fun _=>pa j0 j0 j0 j0 (nt j0<|j4)),(fun _=>pa j0 j0 j0 j0 (pc (zY a.At 0 (IntKind.i64.wrap ((List.length e.Code:Int) - 1)) j0) j0 j0 j0<|j4)),(fun _=>pa j0 j0 j0 j0 (sub ti3 j0 j0<|j4)),(fun _=>pa j0 j0 j0 j0 (lnI zj7 j0 j0<|j4)),(fun _=>pa j0 j0 j0 j0 (ld zj7 j0 j0<|j4)),(fun _=>pa j0 j0 j0 j0 (fa zN j0 j0 j0<|j4)),(fun _=>pa j0 j0 j0 j0 (ld ti3 j0 j0<|j4)),(fun _=>pa j0 j0 j0 j0 (fa zin j0 j0 j0<|j4)),j5⟩ (by kernel_rfl) j0 ⟨true,h,[.old 0,.old 1],cv j0 (.mpt j0)<|cv j0 (.mpt j0)<|ce j0 j0<|ce j0 j0<|ce j0 j0<|ce j0 j0<|cn,j0,⟨⟨_,j0,zg (ciL j0)⟩,⟨_,j0,zg (ciL j0)⟩,j5⟩,j0,j1⟩)
    ·
     replace h:=bF f h
     rcases bb (decide (0 < c)) with d | d
     ·
      replace h:=bT d h
      obtain ⟨v,G,h⟩:=bs h
      exact za4 [] [23,22,21,20,19,18,17,16,15,14,13,12,11,10,9,8,7,6,5,4,3,2,1,0] [(36,bA (decide (a.At≤v.At))),(35,bA (decide (a.At≤v.At))),(34,bA (decide (a.At≤v.At))),(33,iA a.At),(32,.mpt 1 0 0),(31,iA v.At),(30,.ipt 3 (List.map zac e.Maps) (Int.toNat (IntKind.i64.wrap (c - 1))) 0),(29,.ipt 3 (List.map zac e.Maps) (Int.toNat (IntKind.i64.wrap (c - 1))) 0),(28,iA (IntKind.i64.wrap (c - 1))),(27,iA c),(26,.isl 3 (List.map zac e.Maps)),(25,.mpt 0 0 8),(24,bA (decide (0 < c))),(23,bA (decide (0 < c))),(22,iA c),(21,bA (!(zm a.At 0 (IntKind.i64.wrap ((List.length e.Code:Int) - 1))))),(20,bA (!(zm a.At 0 (IntKind.i64.wrap ((List.length e.Code:Int) - 1))))),(19,bA (zm a.At 0 (IntKind.i64.wrap ((List.length e.Code:Int) - 1)))),(18,iA (IntKind.i64.wrap ((List.length e.Code:Int) - 1))),(17,iA (List.length e.Code:Int)),(16,.isl 4 (List.map zw e.Code)),(15,.mpt 0 0 7),(14,iA a.At),(13,.mpt 1 0 0)] 0 (by kernel_rfl) (by kernel_rfl) j0 (by kernel_rfl) (dt0 ⟨(fun _=>pa j0 j0 j0 j0 (pkb j0 f j0<|j4)),(fun _=>pag (b:=(!(zm a.At 0 (IntKind.i64.wrap ((List.length e.Code:Int) - 1))))) j0 j0 j0 j0 f j0 (pkb j0 d j0<|j4)),(fun _=>pag (b:=(decide (0 < c))) j0 j0 j0 j0 d j0 (geq ti3 j0 j0<|j4)),(fun _=>pag (b:=(decide (0 < c))) j0 j0 j0 j0 d j0 (ld ti3 j0 j0<|j4)),(fun _=>pag (b:=(decide (0 < c))) j0 j0 j0 j0 d j0 (fa zin j0 j0 j0<|j4)),(fun _=>pag (b:=(decide (0 < c))) j0 j0 j0 j0 d j0 (ldI ti3 j0 (zp G).2.2 j0<|j4)),(fun _=>pag (b:=(decide (0 < c))) j0 j0 j0 j0 d j0 (fa zin j0 j0 j0<|j4)),(fun _=>pag (b:=(decide (0 < c))) j0 j0 j0 j0 d j0 (ixI zoF j0 zin j0 j0 j0 G<|j4)),(fun _=>pag (b:=(decide (0 < c))) j0 j0 j0 j0 d j0 (sub ti3 j0 j0<|j4)),(fun _=>pag (b:=(decide (0 < c))) j0 j0 j0 j0 d j0 (mv j0<|j4)),(fun _=>pag (b:=(decide (0 < c))) j0 j0 j0 j0 d j0 (ld zoF j0 j0<|j4)),(fun _=>pag (b:=(decide (0 < c))) j0 j0 j0 j0 d j0 (fa zN j0 j0 j0<|j4)),(fun _=>pag (b:=(!(zm a.At 0 (IntKind.i64.wrap ((List.length e.Code:Int) - 1))))) j0 j0 j0 j0 f j0 (mv j0<|j4)),(fun _=>pag (b:=(!(zm a.At 0 (IntKind.i64.wrap ((List.length e.Code:Int) - 1))))) j0 j0 j0 j0 f j0 (gtr ti3 j0 j0<|j4)),(fun _=>pag (b:=(!(zm a.At 0 (IntKind.i64.wrap ((List.length e.Code:Int) - 1))))) j0 j0 j0 j0 f j0 (mv j0<|j4)),(fun _=>pa j0 j0 j0 j0 (mv j0<|j4)),(fun _=>pa j0 j0 j0 j0 (nt j0<|j4)),(fun _=>pa j0 j0 j0 j0 (pc (zY a.At 0 (IntKind.i64.wrap ((List.length e.Code:Int) - 1)) j0) j0 j0 j0<|j4)),(fun _=>pa j0 j0 j0 j0 (sub ti3 j0 j0<|j4)),(fun _=>pa j0 j0 j0 j0 (lnI zj7 j0 j0<|j4)),(fun _=>pa j0 j0 j0 j0 (ld zj7 j0 j0<|j4)),(fun _=>pa j0 j0 j0 j0 (fa zN j0 j0 j0<|j4)),(fun _=>pa j0 j0 j0 j0 (ld ti3 j0 j0<|j4)),(fun _=>pa j0 j0 j0 j0 (fa zin j0 j0 j0<|j4)),j5⟩ (by kernel_rfl) j0 ⟨(decide (a.At≤v.At)),h,[.old 0,.old 1],cv j0 (.mpt j0)<|cv j0 (.mpt j0)<|ce j0 j0<|ce j0 j0<|ce j0 j0<|ce j0 j0<|cn,j0,⟨⟨_,j0,zg (ciL j0)⟩,⟨_,j0,zg (ciL j0)⟩,j5⟩,j0,j1⟩)
     ·
      replace h:=bF d h
      exact za4 [] [23,22,21,20,19,18,17,16,15,14,13,12,11,10,9,8,7,6,5,4,3,2,1,0] [(36,bA false),(35,bA false),(34,.lit undef),(33,.lit undef),(32,.lit undef),(31,.lit undef),(30,.lit undef),(29,.lit undef),(28,.lit undef),(27,.lit undef),(26,.lit undef),(25,.lit undef),(24,bA (decide (0 < c))),(23,bA (decide (0 < c))),(22,iA c),(21,bA (!(zm a.At 0 (IntKind.i64.wrap ((List.length e.Code:Int) - 1))))),(20,bA (!(zm a.At 0 (IntKind.i64.wrap ((List.length e.Code:Int) - 1))))),(19,bA (zm a.At 0 (IntKind.i64.wrap ((List.length e.Code:Int) - 1)))),(18,iA (IntKind.i64.wrap ((List.length e.Code:Int) - 1))),(17,iA (List.length e.Code:Int)),(16,.isl 4 (List.map zw e.Code)),(15,.mpt 0 0 7),(14,iA a.At),(13,.mpt 1 0 0)] 0 (by kernel_rfl) (by kernel_rfl) j0 (by kernel_rfl) (dt0 ⟨(fun _=>pa j0 j0 j0 j0 (pkb j0 f j0<|j4)),(fun _=>pag (b:=(!(zm a.At 0 (IntKind.i64.wrap ((List.length e.Code:Int) - 1))))) j0 j0 j0 j0 f j0 (pkb j0 d j0<|j4)),(fun _=>pas (b:=(decide (0 < c))) j0 j0 j0 j0 d j0),(fun _=>pas (b:=(decide (0 < c))) j0 j0 j0 j0 d j0),(fun _=>pas (b:=(decide (0 < c))) j0 j0 j0 j0 d j0),(fun _=>pas (b:=(decide (0 < c))) j0 j0 j0 j0 d j0),(fun _=>pas (b:=(decide (0 < c))) j0 j0 j0 j0 d j0),(fun _=>pas (b:=(decide (0 < c))) j0 j0 j0 j0 d j0),(fun _=>pas (b:=(decide (0 < c))) j0 j0 j0 j0 d j0),(fun _=>pas (b:=(decide (0 < c))) j0 j0 j0 j0 d j0),(fun _=>pas (b:=(decide (0 < c))) j0 j0 j0 j0 d j0),(fun _=>pas (b:=(decide (0 < c))) j0 j0 j0 j0 d j0),(fun _=>pag (b:=(!(zm a.At 0 (IntKind.i64.wrap ((List.length e.Code:Int) - 1))))) j0 j0 j0 j0 f j0 (mv j0<|j4)),(fun _=>pag (b:=(!(zm a.At 0 (IntKind.i64.wrap ((List.length e.Code:Int) - 1))))) j0 j0 j0 j0 f j0 (gtr ti3 j0 j0<|j4)),(fun _=>pag (b:=(!(zm a.At 0 (IntKind.i64.wrap ((List.length e.Code:Int) - 1))))) j0 j0 j0 j0 f j0 (mv j0<|j4)),(fun _=>pa j0 j0 j0 j0 (mv j0<|j4)),(fun _=>pa j0 j0 j0 j0 (nt j0<|j4)),(fun _=>pa j0 j0 j0 j0 (pc (zY a.At 0 (IntKind.i64.wrap ((List.length e.Code:Int) - 1)) j0) j0 j0 j0<|j4)),(fun _=>pa j0 j0 j0 j0 (sub ti3 j0 j0<|j4)),(fun _=>pa j0 j0 j0 j0 (lnI zj7 j0 j0<|j4)),(fun _=>pa j0 j0 j0 j0 (ld zj7 j0 j0<|j4)),(fun _=>pa j0 j0 j0 j0 (fa zN j0 j0 j0<|j4)),(fun _=>pa j0 j0 j0 j0 (ld ti3 j0 j0<|j4)),(fun _=>pa j0 j0 j0 j0 (fa zin j0 j0 j0<|j4)),j5⟩ (by kernel_rfl) j0 ⟨false,h,[.old 0,.old 1],cv j0 (.mpt j0)<|cv j0 (.mpt j0)<|ce j0 j0<|ce j0 j0<|ce j0 j0<|ce j0 j0<|cn,j0,⟨⟨_,j0,zg (ciL j0)⟩,⟨_,j0,zg (ciL j0)⟩,j5⟩,j0,j1⟩)
   ·
    rintro H h
    replace h:zeA e c a H=some r:=h
    unfold zeA at h
    refine zh j0 (fun D=>?_) (fun D=>?_)
    ·
     replace h:=bT D h
     refine rg j0<|u<|asg j0<|za ?_
     refine zj ?_
     obtain rfl:=sm h
     exact ⟨_,j0,_,j0,[],ci j0,j0,j5,j0,j1⟩
    ·
     replace h:=bF D h
     refine zk ?_
     obtain ⟨I,n,h⟩:=bs h
     obtain ⟨J,p,h⟩:=bs h
     obtain ⟨K,q,h⟩:=bs h
     refine rg j0<|u<|fa zin j0 j0 j0<|u<|ld zM j0 j0<|u<|lnI zM j0 j0<|u<|fa zN j0 j0 j0<|u<|ld ti3 j0 j0<|u<|neq ti3 j0 j0<|u<|mv j0<|zfo (j:=6) 6 j0 j0 j0 j0 j0 gpn (fun i=>g j0 i<|fa zin j0 j0 j0<|g j0 i<|ld zM j0 j0<|g j0 i<|lnI zM j0 j0<|g j0 i<|fa zN j0 j0 j0<|g j0 i<|ld ti3 j0 j0<|g j0 i<|gtr ti3 j0 j0<|za (egO [44,45,46,47,48,49] 6 i j0 j0 j0 j0)) orT<|u<|mv j0<|zfo (x:=I) (j:=14) 4 j0 j0 j0 j0 j0 gpn (fun l=>by replace n:=bF l n; obtain ⟨O,L,n⟩:=bs n; obtain rfl:=sm n; exact g j0 l<|fa zin j0 j0 j0<|g j0 l<|ld zM j0 j0<|g j0 l<|pc (zhL a.Locals L) j0 j0 j0<|g j0 l<|nt j0<|za (eg [52,53,54,55] 4 j0 j0 j0 j0)) (fun hb=>(sm (bT hb n)).symm)<|u<|mv j0<|zfo (x:=J) (j:=20) 4 j0 j0 j0 j0 j0 gpn (fun m=>by replace p:=bF m p; obtain ⟨P,M,p⟩:=bs p; obtain rfl:=sm p; exact g j0 m<|fa zin j0 j0 j0<|g j0 m<|ld zM j0 j0<|g j0 m<|pc (zhL a.Stack M) j0 j0 j0<|g j0 m<|nt j0<|za (eg [58,59,60,61] 4 j0 j0 j0 j0)) (fun hb=>(sm (bT hb p)).symm)<|u<|mv j0<|zfo (x:=K) (j:=26) 3 j0 j0 j0 j0 j0 gpn (fun s=>by replace q:=bF s q; obtain ⟨Q,N,q⟩:=bs q; obtain rfl:=sm q; exact g j0 s<|fa zin j0 j0 j0<|g j0 s<|ld zM j0 j0<|g j0 s<|pc (zI a.Stack [84] N) j0 j0 j0<|za (eg [64,65,66] 3 j0 j0 j0 j0)) (fun hb=>(sm (bT hb q)).symm)<|za ?_
     refine zh j0 (fun E=>?_) (fun E=>?_)
     ·
      replace h:=bT E h
      refine rg j0<|u<|asg j0<|za ?_
      refine zj ?_
      obtain rfl:=sm h
      exact ⟨_,j0,_,j0,[],ci j0,j0,j5,j0,j1⟩
     ·
      replace h:=bF E h
      refine zk ?_
      refine rl j0<|u<|add ti3 j0 j0<|u<|mv j0<|za ?_
      obtain rfl:=sm h
      exact ⟨_,j0,[.old 0],cv j0 (.mpt j0)<|ce j0 j0<|ce j0 j0<|ce j0 j0<|cn,j0,⟨⟨_,j0,zg (ciL j0)⟩,j5⟩,j0,j1⟩
  ·
   replace h:=bF C h
   refine zz ?_
   obtain rfl:=sm h
   exact ⟨j0,_,j0,[.old 0],cv j0 (.mpt j0)<|cn,j0,⟨⟨_,j0,zg (ciL j0)⟩,j5⟩,j0,j1⟩
 ·
  rintro ⟨⟩ rfl
  replace h:zhZ e=some r:=h
  unfold zhZ at h
  refine zv ?_
  refine rg j0<|u<|fa zN j0 j0 j0<|u<|ld zoF j0 j0<|u<|lnI zoF j0 j0<|u<|leq ti3 j0 j0<|u<|asg j0<|za ?_
  refine zj ?_
  obtain rfl:=sm h
  exact ⟨_,j0,[],ci j0,j0,j5,j0,j1⟩
 ·
  rintro r' rfl env st hp
  obtain rfl:=sm h
  exact hp
def zh1 (a:zU) (j:List UInt8) (l:List (List UInt8)) (m:List UInt8) (n:Bool) (o:Bool) (p:Int) (q:Int) (b:List zA) (f:List zaX) (i:List zU):Option (Bool) :=
  (cond ((((decide (a.From < 0))||(decide (a.To≤a.From)))||(decide ((List.length b:Int) < a.To)))||(!(zm a.At 0 (IntKind.i64.wrap ((List.length b:Int) - 1))))) (some true) ((cond (!(a.C == [])) ((zfw a.C).bind fun c=>some (!c)) (some false)).bind fun d=>some d)).bind fun e=>some e
theorem zlu (l:zU) (p:List UInt8) (q:List (List UInt8)) (s:List UInt8) (v:Bool) (B:Bool) (D:Int) (E:Int) (o:List zA) (m:List zaX) (n:List zU) {r:Bool} (h:zh1 l p q s v B D E o m n=some r):zu Tryz.prog 328 [.agg (zW l),.ipt 10 [[sA p,.isl 1 (List.map zi q),sA s,bA v,bA B,iA D,iA E,.isl 4 (List.map zw o),.isl 3 (List.map zac m),.isl 4 (List.map zW n)]] 0 0] (bA r):=by
 refine zn Tryz.func328 j0 (by kernel_rfl) j0 j0 ?_
 unfold zh1 at h
 refine rg j0<|u<|bx 0 4 j0 j0 j0 j0<|u<|asg j0<|za ?_
 obtain ⟨F,f,h⟩:=bs h
 refine rg j0<|u<|fa zm1 j0 j0 j0<|u<|ld ti3 j0 j0<|u<|lss ti3 j0 j0<|u<|mv j0<|zfo (j:=3) 5 j0 j0 j0 j0 j0 gpn (fun c=>g j0 c<|fa zm1 j0 j0 j0<|g j0 c<|ld ti3 j0 j0<|g j0 c<|fa zm1 j0 j0 j0<|g j0 c<|ld ti3 j0 j0<|g j0 c<|geq ti3 j0 j0<|za (egO [8,9,10,11,12] 5 c j0 j0 j0 j0)) orT<|u<|mv j0<|zfo (j:=10) 6 j0 j0 j0 j0 j0 gpn (fun b=>g j0 b<|fa zm1 j0 j0 j0<|g j0 b<|ld ti3 j0 j0<|g j0 b<|fa zN j0 j0 j0<|g j0 b<|ld zj7 j0 j0<|g j0 b<|lnI zj7 j0 j0<|g j0 b<|gtr ti3 j0 j0<|za (egO [15,16,17,18,19,20] 6 b j0 j0 j0 j0)) orT<|u<|mv j0<|zfo (j:=18) 8 j0 j0 j0 j0 j0 gpn (fun a=>g j0 a<|fa zm1 j0 j0 j0<|g j0 a<|ld ti3 j0 j0<|g j0 a<|fa zN j0 j0 j0<|g j0 a<|ld zj7 j0 j0<|g j0 a<|lnI zj7 j0 j0<|g j0 a<|sub ti3 j0 j0<|g j0 a<|pc (zY l.At 0 (IntKind.i64.wrap ((List.length o:Int) - 1)) j0) j0 j0 j0<|g j0 a<|nt j0<|za (egO [23,24,25,26,27,28,29,30] 8 a j0 j0 j0 j0)) orT<|u<|mv j0<|zfo (x:=F) (j:=28) 9 j0 j0 j0 j0 j0 gpn (fun d=>by replace f:=bF d f; obtain ⟨G,i,f⟩:=bs f; obtain rfl:=sm f; exact g j0 d<|fa zm1 j0 j0 j0<|g j0 d<|ld ti9 j0 j0<|g j0 d<|sne ti9 j0 j0<|g j0 d<|mv j0<|za7 (x:=G) (j:=32) 4 j0 j0 j0 j0 j0 (gps j0 j0 d) (fun e=>by replace i:=bT e i; obtain ⟨I,H,i⟩:=bs i; obtain rfl:=sm i; exact g j0 e<|fa zm1 j0 j0 j0<|g j0 e<|ld ti9 j0 j0<|g j0 e<|pc (zeC l.C H) j0 j0 j0<|g j0 e<|nt j0<|za (eg [37,38,39,40] 4 j0 j0 j0 j0)) (fun hb=>(sm (bF hb i)).symm)<|za (eg [33,34,35,36,37,38,39,40,41] 5 j0 j0 j0 j0)) (fun hb=>(sm (bT hb f)).symm)<|u<|asg j0<|za ?_
 refine zj ?_
 obtain rfl:=sm h
 exact ⟨_,j0,[],ci j0,j0,j5,j0,j1⟩
def zbg:Option (Int) :=
  some (-1)
def zbh (b:List zU) (i:List UInt8) (j:List (List UInt8)) (l:List UInt8) (m:Bool) (n:Bool) (o:Int) (p:Int) (q:List zA) (c:List zaX) (d:List zU) (a:Int):Option (Sum (Int) (Sum (Unit) (Int))) :=
  cond (decide (a < (List.length b:Int))) ((idx b a).bind fun e=>(zh1 e i j l m n o p q c d).bind fun f=>cond f (some (.inr (.inr a))) (some (.inl (IntKind.i64.wrap (a+1))))) (some (.inr (.inl ())))
def zbQ (d:List zU) (e:List UInt8) (f:List (List UInt8)) (i:List UInt8) (j:Bool) (l:Bool) (m:Int) (n:Int) (p:List zA) (a:List zaX) (c:List zU):Option (Int) :=
  (zab (fun z=>zbh d e f i j l m n p a c z) 0).bind fun o=>zaJ o (fun b=>zbg) some
theorem zeP (d:List zU) (e:List UInt8) (f:List (List UInt8)) (i:List UInt8) (j:Bool) (l:Bool) (m:Int) (n:Int) (p:List zA) (a:List zaX) (c:List zU) {r:Int} (h:zbQ d e f i j l m n p a c=some r):zu Tryz.prog 348 [.isl 4 (List.map zW d),.fn (.func 328) [] [.ipt 10 [[sA e,.isl 1 (List.map zi f),sA i,bA j,bA l,iA m,iA n,.isl 4 (List.map zw p),.isl 3 (List.map zac a),.isl 4 (List.map zW c)]] 0 0]] (iA r):=by
 refine zn Tryz.func348 j0 (by kernel_rfl) j0 j0 ?_
 unfold zbQ at h
 refine rg j0<|u<|asg j0<|za ?_
 refine zl ?_
 refine rg j0<|u<|mv j0<|u<|lnI zqp j0 j0<|u<|mv j0<|za ?_
 obtain ⟨o,ho,h⟩:=bs h
 refine zT (X:=Int) (B:=Unit) (R:=Int) (fun z=>[(0,.isl 4 (List.map zW d)),(1,.fn (.func 328) [] [.ipt 10 [[sA e,.isl 1 (List.map zi f),sA i,bA j,bA l,iA m,iA n,.isl 4 (List.map zw p),.isl 3 (List.map zac a),.isl 4 (List.map zW c)]] 0 0]),(7,iA (List.length d:Int)),(8,iA z)]) (fun z=>[]) (fun b=>[]) (fun b=>[]) (fun r env st=>zaC Tryz.prog Tryz.f348 0 (iA r) [] env st) ho ⟨[],ce j0 j0<|ce j0 j0<|ce j0 j0<|ce j0 j0<|cn,j0,j5,j0,j1⟩ ?_ ?_ ?_
 ·
  rintro v r h
  replace h:zbh d e f i j l m n p a c v=some r:=h
  unfold zbh at h
  refine rg j0<|u<|lss ti3 j0 j0<|za ?_
  refine zl ?_
  refine zh j0 (fun q=>?_) (fun q=>?_)
  ·
   replace h:=bT q h
   refine zk ?_
   refine zl ?_
   refine zq ?_
   refine rg j0<|u<|mv j0<|u<|asg j0<|za ?_
   obtain ⟨x,C,h⟩:=bs h
   obtain ⟨E,D,h⟩:=bs h
   refine rg j0<|u<|mv j0<|u<|mv j0<|u<|mv j0<|u<|ixI zqp j0 zm1 j0 j0 j0 C<|u<|ldI zm1 j0 (zp C).2.2 j0<|u<|pc (zlu x e f i j l m n p a c D) j0 j0 j0<|za ?_
   refine zh j0 (fun s=>?_) (fun s=>?_)
   ·
    replace h:=bT s h
    refine rg j0<|u<|mv j0<|u<|asg j0<|za ?_
    refine zj ?_
    obtain rfl:=sm h
    exact ⟨_,j0,_,j0,[],ci j0,j0,j5,j0,j1⟩
   ·
    replace h:=bF s h
    refine zk ?_
    refine rl j0<|u<|add ti3 j0 j0<|u<|mv j0<|za ?_
    obtain rfl:=sm h
    exact ⟨_,j0,[],ce j0 j0<|ce j0 j0<|ce j0 j0<|ce j0 j0<|cn,j0,j5,j0,j1⟩
  ·
   replace h:=bF q h
   refine zz ?_
   obtain rfl:=sm h
   exact ⟨j0,_,j0,[],cn,j0,j5,j0,j1⟩
 ·
  rintro ⟨⟩ rfl
  replace h:zbg=some r:=h
  unfold zbg at h
  refine zv ?_
  refine rg j0<|u<|asg j0<|za ?_
  refine zj ?_
  obtain rfl:=sm h
  exact ⟨_,j0,[],ci j0,j0,j5,j0,j1⟩
 ·
  rintro r' rfl env st hp
  obtain rfl:=sm h
  exact hp
def zbf (d:List zU) (e:List UInt8) (f:List (List UInt8)) (i:List UInt8) (j:Bool) (l:Bool) (m:Int) (n:Int) (o:List zA) (a:List zaX) (b:List zU):Option (Bool) :=
  (zbQ d e f i j l m n o a b).bind fun c=>some (decide (0≤c))
theorem zd9 (c:List zU) (d:List UInt8) (e:List (List UInt8)) (f:List UInt8) (i:Bool) (j:Bool) (l:Int) (m:Int) (n:List zA) (a:List zaX) (b:List zU) {r:Bool} (h:zbf c d e f i j l m n a b=some r):zu Tryz.prog 302 [.isl 4 (List.map zW c),.fn (.func 328) [] [.ipt 10 [[sA d,.isl 1 (List.map zi e),sA f,bA i,bA j,iA l,iA m,.isl 4 (List.map zw n),.isl 3 (List.map zac a),.isl 4 (List.map zW b)]] 0 0]] (bA r):=by
 refine zn Tryz.func302 j0 (by kernel_rfl) j0 j0 ?_
 unfold zbf at h
 refine rg j0<|u<|asg j0<|za ?_
 obtain ⟨p,o,h⟩:=bs h
 refine rg j0<|u<|mv j0<|u<|mv j0<|u<|pc (zeP c d e f i j l m n a b o) j0 j0 j0<|u<|geq ti3 j0 j0<|u<|asg j0<|za ?_
 refine zj ?_
 obtain rfl:=sm h
 exact ⟨_,j0,[],ci j0,j0,j5,j0,j1⟩
def zjG (a:ze):Option (Bool) :=
  (zbf a.Traps a.Name a.Params a.Ret a.Static a.Abstract a.Locals a.Stack a.Code a.Maps a.Traps).bind fun b=>some ((!b)&&(decide ((List.length a.Traps:Int)≤6)))
theorem zmC (a:ze) {r:Bool} (h:zjG a=some r):zu Tryz.prog 248 [.agg (zf a)] (bA r):=by
 refine zn Tryz.func248 j0 (by kernel_rfl) j0 j0 ?_
 unfold zjG at h
 refine rg j0<|u<|bx 0 10 j0 j0 j0 j0<|u<|asg j0<|za ?_
 obtain ⟨d,c,h⟩:=bs h
 refine rg j0<|u<|fa zN j0 j0 j0<|u<|ld zqp j0 j0<|u<|mf j0 j0<|u<|pcs (zd9 a.Traps a.Name a.Params a.Ret a.Static a.Abstract a.Locals a.Stack a.Code a.Maps a.Traps c) j0 j0 (.cons (si j0) (.cons (zdp j5 ⟨(zbe j0 ⟨(si j0),(si j0),(si j0),(si j0),(si j0),(si j0),(si j0),(si j0),(si j0),(si j0),j5⟩),j5⟩) .nil)) zcq<|u<|asg j0<|za ?_
 refine rg j0<|u<|mv j0<|u<|nt j0<|u<|mv j0<|za7 (j:=2) 4 j0 j0 j0 j0 j0 gpn (fun b=>g j0 b<|fa zN j0 j0 j0<|g j0 b<|ld zqp j0 j0<|g j0 b<|lnI zqp j0 j0<|g j0 b<|leq ti3 j0 j0<|za (egA [11,12,13,14] 4 b j0 j0 j0 j0)) ziy<|u<|asg j0<|za ?_
 refine zj ?_
 obtain rfl:=sm h
 exact ⟨_,j0,[],ci j0,j0,j5,j0,j1⟩
def zcj (a:Bool):Option (Bool) :=
  some a
def ziF (a:ze):Option (Bool) :=
  (ziR a.Name).bind fun b=>(cond ((!b)||(decide (6 < (List.length a.Params:Int)))) (some true) ((zjH a.Params).bind fun c=>some (!c))).bind fun d=>(cond d (some true) ((zns a.Ret).bind fun e=>some (!e))).bind fun f=>cond f (some false) (cond a.Abstract (some (zjF a)) (cond ((a.Name == [36,105,110,105,116])&&(((!a.Static)||(decide (0 < (List.length a.Params:Int))))||(!(a.Ret == [86])))) (some false) (cond (zm a.Locals (zF a) 16) (cond (zm a.Stack 0 16) ((zfC a).bind fun i=>cond i ((zkO a).bind fun j=>cond j ((zjG a).bind fun l=>zcj l) (zcj false)) (zcj false)) (zcj false)) (zcj false))))
theorem zl1 (a:ze) {r:Bool} (h:ziF a=some r):zu Tryz.prog 157 [.agg (zf a)] (bA r):=by
 refine zn Tryz.func157 j0 (by kernel_rfl) j0 j0 ?_
 unfold ziF at h
 refine rg j0<|u<|bx 0 10 j0 j0 j0 j0<|u<|asg j0<|za ?_
 refine zl ?_
 obtain ⟨P,K,h⟩:=bs h
 obtain ⟨L,C,h⟩:=bs h
 obtain ⟨M,D,h⟩:=bs h
 refine rg j0<|u<|fa zN j0 j0 j0<|u<|ld ti9 j0 j0<|u<|pc (ziS a.Name K) j0 j0 j0<|u<|nt j0<|u<|mv j0<|zfo (j:=4) 4 j0 j0 j0 j0 j0 gpn (fun p=>g j0 p<|fa zN j0 j0 j0<|g j0 p<|ld zM j0 j0<|g j0 p<|lnI zM j0 j0<|g j0 p<|gtr ti3 j0 j0<|za (egO [8,9,10,11] 4 p j0 j0 j0 j0)) orT<|u<|mv j0<|zfo (x:=L) (j:=10) 4 j0 j0 j0 j0 j0 gpn (fun q=>by replace C:=bF q C; obtain ⟨Q,N,C⟩:=bs C; obtain rfl:=sm C; exact g j0 q<|fa zN j0 j0 j0<|g j0 q<|ld zM j0 j0<|g j0 q<|pc (zmD a.Params N) j0 j0 j0<|g j0 q<|nt j0<|za (eg [14,15,16,17] 4 j0 j0 j0 j0)) (fun hb=>(sm (bT hb C)).symm)<|u<|mv j0<|zfo (x:=M) (j:=16) 4 j0 j0 j0 j0 j0 gpn (fun s=>by replace D:=bF s D; obtain ⟨R,O,D⟩:=bs D; obtain rfl:=sm D; exact g j0 s<|fa zN j0 j0 j0<|g j0 s<|ld ti9 j0 j0<|g j0 s<|pc (zo0 a.Ret O) j0 j0 j0<|g j0 s<|nt j0<|za (eg [20,21,22,23] 4 j0 j0 j0 j0)) (fun hb=>(sm (bT hb D)).symm)<|za ?_
 refine zh j0 (fun E=>?_) (fun E=>?_)
 ·
  replace h:=bT E h
  refine rg j0<|u<|asg j0<|za ?_
  refine zj ?_
  obtain rfl:=sm h
  exact ⟨_,j0,[],ci j0,j0,j5,j0,j1⟩
 ·
  replace h:=bF E h
  refine zk ?_
  refine zl ?_
  refine rg j0<|u<|fa zN j0 j0 j0<|u<|ld ti4 j0 j0<|za ?_
  refine zh j0 (fun v=>?_) (fun v=>?_)
  ·
   replace h:=bT v h
   refine rg j0<|u<|ld zN j0 j0<|u<|pc (zmB a j0) j0 j0 j0<|u<|asg j0<|za ?_
   refine zj ?_
   obtain rfl:=sm h
   exact ⟨_,j0,[],ci j0,j0,j5,j0,j1⟩
  ·
   replace h:=bF v h
   refine zk ?_
   refine zl ?_
   refine rg j0<|u<|fa zN j0 j0 j0<|u<|ld ti9 j0 j0<|u<|seq ti9 j0 j0<|u<|mv j0<|za7 (j:=3) 14 j0 j0 j0 j0 j0 gpn (fun i=>g j0 i<|fa zN j0 j0 j0<|g j0 i<|ld ti4 j0 j0<|g j0 i<|nt j0<|g j0 i<|mv j0<|zfo (j:=7) 4 j0 j0 j0 j0 j0 (gps j0 j0 i) (fun m=>g j0 m<|fa zN j0 j0 j0<|g j0 m<|ld zM j0 j0<|g j0 m<|lnI zM j0 j0<|g j0 m<|gtr ti3 j0 j0<|za (egO [37,38,39,40] 4 m j0 j0 j0 j0)) orT<|g j0 i<|mv j0<|zfo (j:=13) 3 j0 j0 j0 j0 j0 (gps j0 j0 i) (fun o=>g j0 o<|fa zN j0 j0 j0<|g j0 o<|ld ti9 j0 j0<|g j0 o<|sne ti9 j0 j0<|za (egO [43,44,45] 3 o j0 j0 j0 j0)) orT<|za (egA [33,34,35,36,37,38,39,40,41,42,43,44,45,46] 7 i j0 j0 j0 j0)) ziy<|za ?_
   refine zh j0 (fun B=>?_) (fun B=>?_)
   ·
    replace h:=bT B h
    refine rg j0<|u<|asg j0<|za ?_
    refine zj ?_
    obtain rfl:=sm h
    exact ⟨_,j0,[],ci j0,j0,j5,j0,j1⟩
   ·
    replace h:=bF B h
    refine zk ?_
    refine zcD (X:=Bool) (fun z=>[(2,bA z)]) (fun z=>[]) (fun z=>zcj z=some r) ?_ ?_
    ·
     rcases bb (zm a.Locals (zF a) 16) with c | c
     ·
      replace h:=bT c h
      rcases bb (zm a.Stack 0 16) with d | d
      ·
       replace h:=bT d h
       obtain ⟨l,F,h⟩:=bs h
       rcases bb l with e | e
       ·
        replace h:=bT e h
        obtain ⟨n,H,h⟩:=bs h
        rcases bb n with f | f
        ·
         replace h:=bT f h
         obtain ⟨G,I,h⟩:=bs h
         exact za4 [] [22,21,20,19,18,17,16,15,14,13,12,11,10,9,8,7,6,5,4,3,2,1,0] [(2,bA G),(69,bA G),(68,bA G),(67,.agg (zf a)),(66,bA n),(65,bA n),(64,bA n),(63,.agg (zf a)),(62,bA l),(61,bA l),(60,bA l),(59,.agg (zf a)),(58,bA (zm a.Stack 0 16)),(57,bA (zm a.Stack 0 16)),(56,bA (zm a.Stack 0 16)),(55,iA a.Stack),(54,.mpt 0 0 6),(53,bA (zm a.Locals (zF a) 16)),(52,bA (zm a.Locals (zF a) 16)),(51,iA (zF a)),(50,.agg (zf a)),(49,iA a.Locals),(48,.mpt 0 0 5)] 0 (by kernel_rfl) (by kernel_rfl) j0 (by kernel_rfl) (dt0 ⟨(fun _=>pa j0 j0 j0 j0 (asg j0<|j4)),(fun _=>pa j0 j0 j0 j0 (pkb j0 f j0<|j4)),(fun _=>pag (b:=n) j0 j0 j0 j0 f j0 (pc (zmC a I) j0 j0 j0<|j4)),(fun _=>pag (b:=n) j0 j0 j0 j0 f j0 (ld zN j0 j0<|j4)),(fun _=>pa j0 j0 j0 j0 (mv j0<|j4)),(fun _=>pa j0 j0 j0 j0 (pkb j0 e j0<|j4)),(fun _=>pag (b:=l) j0 j0 j0 j0 e j0 (pc (zkd a H) j0 j0 j0<|j4)),(fun _=>pag (b:=l) j0 j0 j0 j0 e j0 (ld zN j0 j0<|j4)),(fun _=>pa j0 j0 j0 j0 (mv j0<|j4)),(fun _=>pa j0 j0 j0 j0 (pkb j0 d j0<|j4)),(fun _=>pag (b:=(zm a.Stack 0 16)) j0 j0 j0 j0 d j0 (pc (zec a F) j0 j0 j0<|j4)),(fun _=>pag (b:=(zm a.Stack 0 16)) j0 j0 j0 j0 d j0 (ld zN j0 j0<|j4)),(fun _=>pa j0 j0 j0 j0 (mv j0<|j4)),(fun _=>pa j0 j0 j0 j0 (pkb j0 c j0<|j4)),(fun _=>pag (b:=(zm a.Locals (zF a) 16)) j0 j0 j0 j0 c j0 (pc (zY a.Stack 0 16 j0) j0 j0 j0<|j4)),(fun _=>pag (b:=(zm a.Locals (zF a) 16)) j0 j0 j0 j0 c j0 (ld ti3 j0 j0<|j4)),(fun _=>pag (b:=(zm a.Locals (zF a) 16)) j0 j0 j0 j0 c j0 (fa zN j0 j0 j0<|j4)),(fun _=>pa j0 j0 j0 j0 (mv j0<|j4)),(fun _=>pa j0 j0 j0 j0 (pc (zY a.Locals (zF a) 16 j0) j0 j0 j0<|j4)),(fun _=>pa j0 j0 j0 j0 (pc (zfB a j0) j0 j0 j0<|j4)),(fun _=>pa j0 j0 j0 j0 (ld zN j0 j0<|j4)),(fun _=>pa j0 j0 j0 j0 (ld ti3 j0 j0<|j4)),(fun _=>pa j0 j0 j0 j0 (fa zN j0 j0 j0<|j4)),j5⟩ (by kernel_rfl) j0 ⟨G,h,[],ce j0 j0<|cn,j0,j5,j0,j1⟩)
        ·
         replace h:=bF f h
         exact za4 [] [22,21,20,19,18,17,16,15,14,13,12,11,10,9,8,7,6,5,4,3,2,1,0] [(2,bA false),(69,bA false),(68,.lit undef),(67,.lit undef),(66,bA n),(65,bA n),(64,bA n),(63,.agg (zf a)),(62,bA l),(61,bA l),(60,bA l),(59,.agg (zf a)),(58,bA (zm a.Stack 0 16)),(57,bA (zm a.Stack 0 16)),(56,bA (zm a.Stack 0 16)),(55,iA a.Stack),(54,.mpt 0 0 6),(53,bA (zm a.Locals (zF a) 16)),(52,bA (zm a.Locals (zF a) 16)),(51,iA (zF a)),(50,.agg (zf a)),(49,iA a.Locals),(48,.mpt 0 0 5)] 0 (by kernel_rfl) (by kernel_rfl) j0 (by kernel_rfl) (dt0 ⟨(fun _=>pa j0 j0 j0 j0 (asg j0<|j4)),(fun _=>pa j0 j0 j0 j0 (pkb j0 f j0<|j4)),(fun _=>pas (b:=n) j0 j0 j0 j0 f j0),(fun _=>pas (b:=n) j0 j0 j0 j0 f j0),(fun _=>pa j0 j0 j0 j0 (mv j0<|j4)),(fun _=>pa j0 j0 j0 j0 (pkb j0 e j0<|j4)),(fun _=>pag (b:=l) j0 j0 j0 j0 e j0 (pc (zkd a H) j0 j0 j0<|j4)),(fun _=>pag (b:=l) j0 j0 j0 j0 e j0 (ld zN j0 j0<|j4)),(fun _=>pa j0 j0 j0 j0 (mv j0<|j4)),(fun _=>pa j0 j0 j0 j0 (pkb j0 d j0<|j4)),(fun _=>pag (b:=(zm a.Stack 0 16)) j0 j0 j0 j0 d j0 (pc (zec a F) j0 j0 j0<|j4)),(fun _=>pag (b:=(zm a.Stack 0 16)) j0 j0 j0 j0 d j0 (ld zN j0 j0<|j4)),(fun _=>pa j0 j0 j0 j0 (mv j0<|j4)),(fun _=>pa j0 j0 j0 j0 (pkb j0 c j0<|j4)),(fun _=>pag (b:=(zm a.Locals (zF a) 16)) j0 j0 j0 j0 c j0 (pc (zY a.Stack 0 16 j0) j0 j0 j0<|j4)),(fun _=>pag (b:=(zm a.Locals (zF a) 16)) j0 j0 j0 j0 c j0 (ld ti3 j0 j0<|j4)),(fun _=>pag (b:=(zm a.Locals (zF a) 16)) j0 j0 j0 j0 c j0 (fa zN j0 j0 j0<|j4)),(fun _=>pa j0 j0 j0 j0 (mv j0<|j4)),(fun _=>pa j0 j0 j0 j0 (pc (zY a.Locals (zF a) 16 j0) j0 j0 j0<|j4)),(fun _=>pa j0 j0 j0 j0 (pc (zfB a j0) j0 j0 j0<|j4)),(fun _=>pa j0 j0 j0 j0 (ld zN j0 j0<|j4)),(fun _=>pa j0 j0 j0 j0 (ld ti3 j0 j0<|j4)),(fun _=>pa j0 j0 j0 j0 (fa zN j0 j0 j0<|j4)),j5⟩ (by kernel_rfl) j0 ⟨false,h,[],ce j0 j0<|cn,j0,j5,j0,j1⟩)
       ·
        replace h:=bF e h
        exact za4 [] [22,21,20,19,18,17,16,15,14,13,12,11,10,9,8,7,6,5,4,3,2,1,0] [(2,bA false),(69,bA false),(68,.lit undef),(67,.lit undef),(66,bA false),(65,bA false),(64,.lit undef),(63,.lit undef),(62,bA l),(61,bA l),(60,bA l),(59,.agg (zf a)),(58,bA (zm a.Stack 0 16)),(57,bA (zm a.Stack 0 16)),(56,bA (zm a.Stack 0 16)),(55,iA a.Stack),(54,.mpt 0 0 6),(53,bA (zm a.Locals (zF a) 16)),(52,bA (zm a.Locals (zF a) 16)),(51,iA (zF a)),(50,.agg (zf a)),(49,iA a.Locals),(48,.mpt 0 0 5)] 0 (by kernel_rfl) (by kernel_rfl) j0 (by kernel_rfl) (dt0 ⟨(fun _=>pa j0 j0 j0 j0 (asg j0<|j4)),(fun _=>pa j0 j0 j0 j0 (pk (b:=false) j0 j0<|j4)),(fun _=>pas (b:=false) j0 j0 j0 j0 j0 j0),(fun _=>pas (b:=false) j0 j0 j0 j0 j0 j0),(fun _=>pa j0 j0 j0 j0 (mv j0<|j4)),(fun _=>pa j0 j0 j0 j0 (pkb j0 e j0<|j4)),(fun _=>pas (b:=l) j0 j0 j0 j0 e j0),(fun _=>pas (b:=l) j0 j0 j0 j0 e j0),(fun _=>pa j0 j0 j0 j0 (mv j0<|j4)),(fun _=>pa j0 j0 j0 j0 (pkb j0 d j0<|j4)),(fun _=>pag (b:=(zm a.Stack 0 16)) j0 j0 j0 j0 d j0 (pc (zec a F) j0 j0 j0<|j4)),(fun _=>pag (b:=(zm a.Stack 0 16)) j0 j0 j0 j0 d j0 (ld zN j0 j0<|j4)),(fun _=>pa j0 j0 j0 j0 (mv j0<|j4)),(fun _=>pa j0 j0 j0 j0 (pkb j0 c j0<|j4)),(fun _=>pag (b:=(zm a.Locals (zF a) 16)) j0 j0 j0 j0 c j0 (pc (zY a.Stack 0 16 j0) j0 j0 j0<|j4)),(fun _=>pag (b:=(zm a.Locals (zF a) 16)) j0 j0 j0 j0 c j0 (ld ti3 j0 j0<|j4)),(fun _=>pag (b:=(zm a.Locals (zF a) 16)) j0 j0 j0 j0 c j0 (fa zN j0 j0 j0<|j4)),(fun _=>pa j0 j0 j0 j0 (mv j0<|j4)),(fun _=>pa j0 j0 j0 j0 (pc (zY a.Locals (zF a) 16 j0) j0 j0 j0<|j4)),(fun _=>pa j0 j0 j0 j0 (pc (zfB a j0) j0 j0 j0<|j4)),(fun _=>pa j0 j0 j0 j0 (ld zN j0 j0<|j4)),(fun _=>pa j0 j0 j0 j0 (ld ti3 j0 j0<|j4)),(fun _=>pa j0 j0 j0 j0 (fa zN j0 j0 j0<|j4)),j5⟩ (by kernel_rfl) j0 ⟨false,h,[],ce j0 j0<|cn,j0,j5,j0,j1⟩)
      ·
       replace h:=bF d h
       exact za4 [] [22,21,20,19,18,17,16,15,14,13,12,11,10,9,8,7,6,5,4,3,2,1,0] [(2,bA false),(69,bA false),(68,.lit undef),(67,.lit undef),(66,bA false),(65,bA false),(64,.lit undef),(63,.lit undef),(62,bA false),(61,bA false),(60,.lit undef),(59,.lit undef),(58,bA (zm a.Stack 0 16)),(57,bA (zm a.Stack 0 16)),(56,bA (zm a.Stack 0 16)),(55,iA a.Stack),(54,.mpt 0 0 6),(53,bA (zm a.Locals (zF a) 16)),(52,bA (zm a.Locals (zF a) 16)),(51,iA (zF a)),(50,.agg (zf a)),(49,iA a.Locals),(48,.mpt 0 0 5)] 0 (by kernel_rfl) (by kernel_rfl) j0 (by kernel_rfl) (dt0 ⟨(fun _=>pa j0 j0 j0 j0 (asg j0<|j4)),(fun _=>pa j0 j0 j0 j0 (pk (b:=false) j0 j0<|j4)),(fun _=>pas (b:=false) j0 j0 j0 j0 j0 j0),(fun _=>pas (b:=false) j0 j0 j0 j0 j0 j0),(fun _=>pa j0 j0 j0 j0 (mv j0<|j4)),(fun _=>pa j0 j0 j0 j0 (pk (b:=false) j0 j0<|j4)),(fun _=>pas (b:=false) j0 j0 j0 j0 j0 j0),(fun _=>pas (b:=false) j0 j0 j0 j0 j0 j0),(fun _=>pa j0 j0 j0 j0 (mv j0<|j4)),(fun _=>pa j0 j0 j0 j0 (pkb j0 d j0<|j4)),(fun _=>pas (b:=(zm a.Stack 0 16)) j0 j0 j0 j0 d j0),(fun _=>pas (b:=(zm a.Stack 0 16)) j0 j0 j0 j0 d j0),(fun _=>pa j0 j0 j0 j0 (mv j0<|j4)),(fun _=>pa j0 j0 j0 j0 (pkb j0 c j0<|j4)),(fun _=>pag (b:=(zm a.Locals (zF a) 16)) j0 j0 j0 j0 c j0 (pc (zY a.Stack 0 16 j0) j0 j0 j0<|j4)),(fun _=>pag (b:=(zm a.Locals (zF a) 16)) j0 j0 j0 j0 c j0 (ld ti3 j0 j0<|j4)),(fun _=>pag (b:=(zm a.Locals (zF a) 16)) j0 j0 j0 j0 c j0 (fa zN j0 j0 j0<|j4)),(fun _=>pa j0 j0 j0 j0 (mv j0<|j4)),(fun _=>pa j0 j0 j0 j0 (pc (zY a.Locals (zF a) 16 j0) j0 j0 j0<|j4)),(fun _=>pa j0 j0 j0 j0 (pc (zfB a j0) j0 j0 j0<|j4)),(fun _=>pa j0 j0 j0 j0 (ld zN j0 j0<|j4)),(fun _=>pa j0 j0 j0 j0 (ld ti3 j0 j0<|j4)),(fun _=>pa j0 j0 j0 j0 (fa zN j0 j0 j0<|j4)),j5⟩ (by kernel_rfl) j0 ⟨false,h,[],ce j0 j0<|cn,j0,j5,j0,j1⟩)
     ·
      replace h:=bF c h
      exact za4 [] [22,21,20,19,18,17,16,15,14,13,12,11,10,9,8,7,6,5,4,3,2,1,0] [(2,bA false),(69,bA false),(68,.lit undef),(67,.lit undef),(66,bA false),(65,bA false),(64,.lit undef),(63,.lit undef),(62,bA false),(61,bA false),(60,.lit undef),(59,.lit undef),(58,bA false),(57,bA false),(56,.lit undef),(55,.lit undef),(54,.lit undef),(53,bA (zm a.Locals (zF a) 16)),(52,bA (zm a.Locals (zF a) 16)),(51,iA (zF a)),(50,.agg (zf a)),(49,iA a.Locals),(48,.mpt 0 0 5)] 0 (by kernel_rfl) (by kernel_rfl) j0 (by kernel_rfl) (dt0 ⟨(fun _=>pa j0 j0 j0 j0 (asg j0<|j4)),(fun _=>pa j0 j0 j0 j0 (pk (b:=false) j0 j0<|j4)),(fun _=>pas (b:=false) j0 j0 j0 j0 j0 j0),(fun _=>pas (b:=false) j0 j0 j0 j0 j0 j0),(fun _=>pa j0 j0 j0 j0 (mv j0<|j4)),(fun _=>pa j0 j0 j0 j0 (pk (b:=false) j0 j0<|j4)),(fun _=>pas (b:=false) j0 j0 j0 j0 j0 j0),(fun _=>pas (b:=false) j0 j0 j0 j0 j0 j0),(fun _=>pa j0 j0 j0 j0 (mv j0<|j4)),(fun _=>pa j0 j0 j0 j0 (pk (b:=false) j0 j0<|j4)),(fun _=>pas (b:=false) j0 j0 j0 j0 j0 j0),(fun _=>pas (b:=false) j0 j0 j0 j0 j0 j0),(fun _=>pa j0 j0 j0 j0 (mv j0<|j4)),(fun _=>pa j0 j0 j0 j0 (pkb j0 c j0<|j4)),(fun _=>pas (b:=(zm a.Locals (zF a) 16)) j0 j0 j0 j0 c j0),(fun _=>pas (b:=(zm a.Locals (zF a) 16)) j0 j0 j0 j0 c j0),(fun _=>pas (b:=(zm a.Locals (zF a) 16)) j0 j0 j0 j0 c j0),(fun _=>pa j0 j0 j0 j0 (mv j0<|j4)),(fun _=>pa j0 j0 j0 j0 (pc (zY a.Locals (zF a) 16 j0) j0 j0 j0<|j4)),(fun _=>pa j0 j0 j0 j0 (pc (zfB a j0) j0 j0 j0<|j4)),(fun _=>pa j0 j0 j0 j0 (ld zN j0 j0<|j4)),(fun _=>pa j0 j0 j0 j0 (ld ti3 j0 j0<|j4)),(fun _=>pa j0 j0 j0 j0 (fa zN j0 j0 j0<|j4)),j5⟩ (by kernel_rfl) j0 ⟨false,h,[],ce j0 j0<|cn,j0,j5,j0,j1⟩)
    ·
     rintro J h
     replace h:zcj J=some r:=h
     unfold zcj at h
     refine zj ?_
     obtain rfl:=sm h
     exact ⟨_,j0,[],ci j0,j0,j5,j0,j1⟩
def zjD (a:ze) (e:List UInt8) (f:List UInt8) (b:Bool) (i:List (List UInt8)) (j:List zG) (l:List ze):Option (Bool) :=
  (cond (a.Abstract == b) ((ziF a).bind fun c=>some c) (some false)).bind fun d=>some d
theorem zmA (c:ze) (d:List UInt8) (e:List UInt8) (f:Bool) (i:List (List UInt8)) (l:List zG) (m:List ze) {r:Bool} (h:zjD c d e f i l m=some r):zu Tryz.prog 156 [.agg (zf c),.ipt 6 [[sA d,sA e,bA f,.isl 1 (List.map zi i),.isl 3 (List.map zH l),.isl 10 (List.map zf m)]] 0 0] (bA r):=by
 refine zn Tryz.func156 j0 (by kernel_rfl) j0 j0 ?_
 unfold zjD at h
 refine rg j0<|u<|bx 0 10 j0 j0 j0 j0<|u<|asg j0<|za ?_
 obtain ⟨n,a,h⟩:=bs h
 refine rg j0<|u<|fa zN j0 j0 j0<|u<|ld ti4 j0 j0<|u<|fa zaf j0 j0 j0<|u<|ld ti4 j0 j0<|u<|beq ti4 j0 j0 j0<|u<|mv j0<|za7 (x:=n) (j:=5) 2 j0 j0 j0 j0 j0 gpn (fun b=>by replace a:=bT b a; obtain ⟨p,o,a⟩:=bs a; obtain rfl:=sm a; exact g j0 b<|ld zN j0 j0<|g j0 b<|pc (zl1 c o) j0 j0 j0<|za (eg [10,11] 2 j0 j0 j0 j0)) (fun hb=>(sm (bF hb a)).symm)<|u<|asg j0<|za ?_
 refine zj ?_
 obtain rfl:=sm h
 exact ⟨_,j0,[],ci j0,j0,j5,j0,j1⟩
def zcw (a:ze):(List UInt8) :=
  a.Name
theorem zjv (a:ze) {r:(List UInt8)} (h:zcw a=r):zu Tryz.prog 155 [.agg (zf a)] (sA r):=by
 refine zn Tryz.func155 j0 (by kernel_rfl) j0 j0 ?_
 unfold zcw at h
 refine rg j0<|u<|bx 0 10 j0 j0 j0 j0<|u<|asg j0<|za ?_
 refine rg j0<|u<|fa zN j0 j0 j0<|u<|ld ti9 j0 j0<|u<|asg j0<|za ?_
 refine zj ?_
 obtain rfl:=h
 exact ⟨_,j0,[],ci j0,j0,j5,j0,j1⟩
def zdM (c:ze) (d:List UInt8) (e:List (List UInt8)) (f:List UInt8) (i:Bool) (j:Bool) (l:Int) (m:Int) (n:List zA) (a:List zaX) (b:List zU):Bool :=
  ((zcw (ze.mk d e f i j l m n a b)) == (zcw c))
theorem zhp (c:ze) (d:List UInt8) (e:List (List UInt8)) (f:List UInt8) (i:Bool) (j:Bool) (l:Int) (m:Int) (n:List zA) (a:List zaX) (b:List zU) {r:Bool} (h:zdM c d e f i j l m n a b=r):zu Tryz.prog 240 [.agg (zf c),.ipt 1 [[.fn (.func 155) [] []]] 0 0,.ipt 10 [[sA d,.isl 1 (List.map zi e),sA f,bA i,bA j,iA l,iA m,.isl 4 (List.map zw n),.isl 3 (List.map zac a),.isl 4 (List.map zW b)]] 0 0] (bA r):=by
 refine zn Tryz.func240 j0 (by kernel_rfl) j0 j0 ?_
 unfold zdM at h
 refine rg j0<|u<|bx 0 10 j0 j0 j0 j0<|u<|asg j0<|za ?_
 refine rd [(4,bA ((zcw (ze.mk d e f i j l m n a b)) == (zcw c)))] [] [] [7,6,5,4,3,2,1,0] [(4,bA ((zcw (ze.mk d e f i j l m n a b)) == (zcw c))),(11,bA ((zcw (ze.mk d e f i j l m n a b)) == (zcw c))),(10,sA (zcw c)),(9,.agg (zf c)),(8,.fn (.func 155) [] []),(7,sA (zcw (ze.mk d e f i j l m n a b))),(6,.agg [sA d,.isl 1 (List.map zi e),sA f,bA i,bA j,iA l,iA m,.isl 4 (List.map zw n),.isl 3 (List.map zac a),.isl 4 (List.map zW b)]),(5,.fn (.func 155) [] [])] 0 (by kernel_rfl) (by kernel_rfl) j0 (by kernel_rfl) (dt0 ⟨(fun _=>pa j0 j0 j0 j0 (asg j0<|j4)),(fun _=>pa j0 j0 j0 j0 (seq ti9 j0 j0<|j4)),(fun _=>pa j0 j0 j0 j0 (pc (zjv c j0) j0 j0 j0<|j4)),(fun _=>pa j0 j0 j0 j0 (ld zN j0 j0<|j4)),(fun _=>pa j0 j0 j0 j0 (ld zvg j0 j0<|j4)),(fun _=>pa j0 j0 j0 j0 (pc (zjv (ze.mk d e f i j l m n a b) j0) j0 j0 j0<|j4)),(fun _=>pa j0 j0 j0 j0 (ld zN j0 j0<|j4)),(fun _=>pa j0 j0 j0 j0 (ld zvg j0 j0<|j4)),j5⟩ (by kernel_rfl) j0 ⟨[],ce j0 j0<|cn,j0,j5,j0,j1⟩) ?_
 refine zj ?_
 obtain rfl:=h
 exact ⟨_,j0,[],ci j0,j0,j5,j0,j1⟩
def zaL:Option (Int) :=
  some (-1)
def zaM (b:List ze) (f:List UInt8) (i:List (List UInt8)) (j:List UInt8) (l:Bool) (m:Bool) (n:Int) (o:Int) (p:List zA) (c:List zaX) (d:List zU) (a:Int):Option (Sum (Int) (Sum (Unit) (Int))) :=
  cond (decide (a < (List.length b:Int))) ((idx b a).bind fun e=>cond (zdM e f i j l m n o p c d) (some (.inr (.inr a))) (some (.inl (IntKind.i64.wrap (a+1))))) (some (.inr (.inl ())))
def zbb (d:List ze) (e:List UInt8) (f:List (List UInt8)) (i:List UInt8) (j:Bool) (l:Bool) (m:Int) (n:Int) (p:List zA) (a:List zaX) (c:List zU):Option (Int) :=
  (zab (fun z=>zaM d e f i j l m n p a c z) 0).bind fun o=>zaJ o (fun b=>zaL) some
theorem zdZ (d:List ze) (e:List UInt8) (f:List (List UInt8)) (i:List UInt8) (j:Bool) (l:Bool) (m:Int) (n:Int) (p:List zA) (a:List zaX) (c:List zU) {r:Int} (h:zbb d e f i j l m n p a c=some r):zu Tryz.prog 225 [.isl 10 (List.map zf d),.fn (.func 240) [] [.ipt 1 [[.fn (.func 155) [] []]] 0 0,.ipt 10 [[sA e,.isl 1 (List.map zi f),sA i,bA j,bA l,iA m,iA n,.isl 4 (List.map zw p),.isl 3 (List.map zac a),.isl 4 (List.map zW c)]] 0 0]] (iA r):=by
 refine zn Tryz.func225 j0 (by kernel_rfl) j0 j0 ?_
 unfold zbb at h
 refine rg j0<|u<|asg j0<|za ?_
 refine zl ?_
 refine rg j0<|u<|mv j0<|u<|lnI zc7 j0 j0<|u<|mv j0<|za ?_
 obtain ⟨o,ho,h⟩:=bs h
 refine zT (X:=Int) (B:=Unit) (R:=Int) (fun z=>[(0,.isl 10 (List.map zf d)),(1,.fn (.func 240) [] [.ipt 1 [[.fn (.func 155) [] []]] 0 0,.ipt 10 [[sA e,.isl 1 (List.map zi f),sA i,bA j,bA l,iA m,iA n,.isl 4 (List.map zw p),.isl 3 (List.map zac a),.isl 4 (List.map zW c)]] 0 0]),(7,iA (List.length d:Int)),(8,iA z)]) (fun z=>[]) (fun b=>[]) (fun b=>[]) (fun r env st=>zaC Tryz.prog Tryz.f225 0 (iA r) [] env st) ho ⟨[],ce j0 j0<|ce j0 j0<|ce j0 j0<|ce j0 j0<|cn,j0,j5,j0,j1⟩ ?_ ?_ ?_
 ·
  rintro v r h
  replace h:zaM d e f i j l m n p a c v=some r:=h
  unfold zaM at h
  refine rg j0<|u<|lss ti3 j0 j0<|za ?_
  refine zl ?_
  refine zh j0 (fun q=>?_) (fun q=>?_)
  ·
   replace h:=bT q h
   refine zk ?_
   refine zl ?_
   refine zq ?_
   refine rg j0<|u<|mv j0<|u<|asg j0<|za ?_
   obtain ⟨x,C,h⟩:=bs h
   refine rg j0<|u<|mv j0<|u<|mv j0<|u<|mv j0<|u<|ixI zc7 j0 zN j0 j0 j0 C<|u<|ldI zN j0 (zp C).2.2 j0<|u<|pc (zhp x e f i j l m n p a c j0) j0 j0 j0<|za ?_
   refine zh j0 (fun s=>?_) (fun s=>?_)
   ·
    replace h:=bT s h
    refine rg j0<|u<|mv j0<|u<|asg j0<|za ?_
    refine zj ?_
    obtain rfl:=sm h
    exact ⟨_,j0,_,j0,[],ci j0,j0,j5,j0,j1⟩
   ·
    replace h:=bF s h
    refine zk ?_
    refine rl j0<|u<|add ti3 j0 j0<|u<|mv j0<|za ?_
    obtain rfl:=sm h
    exact ⟨_,j0,[],ce j0 j0<|ce j0 j0<|ce j0 j0<|ce j0 j0<|cn,j0,j5,j0,j1⟩
  ·
   replace h:=bF q h
   refine zz ?_
   obtain rfl:=sm h
   exact ⟨j0,_,j0,[],cn,j0,j5,j0,j1⟩
 ·
  rintro ⟨⟩ rfl
  replace h:zaL=some r:=h
  unfold zaL at h
  refine zv ?_
  refine rg j0<|u<|asg j0<|za ?_
  refine zj ?_
  obtain rfl:=sm h
  exact ⟨_,j0,[],ci j0,j0,j5,j0,j1⟩
 ·
  rintro r' rfl env st hp
  obtain rfl:=sm h
  exact hp
def zaK (d:List ze) (e:List UInt8) (f:List (List UInt8)) (i:List UInt8) (j:Bool) (l:Bool) (m:Int) (n:Int) (o:List zA) (a:List zaX) (b:List zU):Option (Bool) :=
  (zbb d e f i j l m n o a b).bind fun c=>some (decide (0≤c))
theorem zdf (c:List ze) (d:List UInt8) (e:List (List UInt8)) (f:List UInt8) (i:Bool) (j:Bool) (l:Int) (m:Int) (n:List zA) (a:List zaX) (b:List zU) {r:Bool} (h:zaK c d e f i j l m n a b=some r):zu Tryz.prog 239 [.isl 10 (List.map zf c),.fn (.func 240) [] [.ipt 1 [[.fn (.func 155) [] []]] 0 0,.ipt 10 [[sA d,.isl 1 (List.map zi e),sA f,bA i,bA j,iA l,iA m,.isl 4 (List.map zw n),.isl 3 (List.map zac a),.isl 4 (List.map zW b)]] 0 0]] (bA r):=by
 refine zn Tryz.func239 j0 (by kernel_rfl) j0 j0 ?_
 unfold zaK at h
 refine rg j0<|u<|asg j0<|za ?_
 obtain ⟨p,o,h⟩:=bs h
 refine rg j0<|u<|mv j0<|u<|mv j0<|u<|pc (zdZ c d e f i j l m n a b o) j0 j0 j0<|u<|geq ti3 j0 j0<|u<|asg j0<|za ?_
 refine zj ?_
 obtain rfl:=sm h
 exact ⟨_,j0,[],ci j0,j0,j5,j0,j1⟩
def zdq (a:List ze) (b:Int):Option (Bool) :=
  some (decide ((List.length a:Int)≤b))
def zdr (c:List ze) (j:List UInt8) (l:List UInt8) (m:Bool) (n:List (List UInt8)) (o:List zG) (p:List ze) (b:Int):Option (Sum (Int) (Sum (Unit) (Bool))) :=
  cond (decide (b < (List.length c:Int))) ((idx c b).bind fun a=>(zjD a j l m n o p).bind fun d=>(cond (!d) (some true) ((zmE c 0 b).bind fun e=>(zaK e a.Name a.Params a.Ret a.Static a.Abstract a.Locals a.Stack a.Code a.Maps a.Traps).bind fun f=>some f)).bind fun i=>cond i (some (.inr (.inr false))) (some (.inl (IntKind.i64.wrap (b+1))))) (some (.inr (.inl ())))
def zeL (a:List ze) (c:Int) (d:List UInt8) (e:List UInt8) (f:Bool) (i:List (List UInt8)) (j:List zG) (l:List ze):Option (Bool) :=
  (zab (fun z=>zdr a d e f i j l z) 0).bind fun o=>zaJ o (fun b=>zdq a c) some
theorem zhX (f:List ze) (l:Int) (m:List UInt8) (n:List UInt8) (p:Bool) (q:List (List UInt8)) (s:List zG) (v:List ze) {r:Bool} (h:zeL f l m n p q s v=some r):zu Tryz.prog 154 [.isl 10 (List.map zf f),iA l,.fn (.func 155) [] [],.fn (.func 156) [] [.ipt 6 [[sA m,sA n,bA p,.isl 1 (List.map zi q),.isl 3 (List.map zH s),.isl 10 (List.map zf v)]] 0 0]] (bA r):=by
 refine zn Tryz.func154 j0 (by kernel_rfl) j0 j0 ?_
 unfold zeL at h
 refine rg j0<|u<|bx 0 1 j0 j0 j0 j0<|u<|asg j0<|za ?_
 refine zl ?_
 refine rg j0<|u<|mv j0<|u<|lnI zc7 j0 j0<|u<|mv j0<|za ?_
 obtain ⟨o,ho,h⟩:=bs h
 refine zT (X:=Int) (B:=Unit) (R:=Bool) (fun z=>[(0,.isl 10 (List.map zf f)),(1,iA l),(3,.fn (.func 156) [] [.ipt 6 [[sA m,sA n,bA p,.isl 1 (List.map zi q),.isl 3 (List.map zH s),.isl 10 (List.map zf v)]] 0 0]),(6,.mpt 0 0 0),(11,.isl 10 (List.map zf f)),(12,iA (List.length f:Int)),(13,iA z)]) (fun z=>[some (1,[[.fn (.func 155) [] []]])]) (fun b=>[(0,.isl 10 (List.map zf f)),(1,iA l)]) (fun b=>[]) (fun r env st=>zaC Tryz.prog Tryz.f154 0 (bA r) [] env st) ho ⟨[.old 0],ce j0 j0<|ce j0 j0<|ce j0 j0<|cv j0 (.mpt j0)<|ce j0 j0<|ce j0 j0<|ce j0 j0<|cn,j0,⟨⟨_,j0,zg ⟨ci j0,j5⟩⟩,j5⟩,j0,j1⟩ ?_ ?_ ?_
 ·
  rintro D r h
  replace h:zdr f m n p q s v D=some r:=h
  unfold zdr at h
  refine rg j0<|u<|lss ti3 j0 j0<|za ?_
  refine zl ?_
  refine zh j0 (fun C=>?_) (fun C=>?_)
  ·
   replace h:=bT C h
   refine zk ?_
   refine zl ?_
   refine zq ?_
   obtain ⟨c,E,h⟩:=bs h
   refine rg j0<|u<|mv j0<|u<|ixI zc7 j0 zN j0 j0 j0 E<|u<|ldI zN j0 (zp E).2.2 j0<|u<|al 1 zN j0<|u<|asg j0<|u<|sto zN j0 j0 j0<|za ?_
   obtain ⟨K,G,h⟩:=bs h
   obtain ⟨H,e,h⟩:=bs h
   refine rg j0<|u<|mv j0<|u<|ld zN j0 j0<|u<|pc (zmA c m n p q s v G) j0 j0 j0<|u<|nt j0<|u<|mv j0<|zfo (x:=H) (j:=4) 5 j0 j0 j0 j0 j0 gpn (fun d=>by replace e:=bF d e; obtain ⟨I,F,e⟩:=bs e; obtain ⟨L,J,e⟩:=bs e; obtain rfl:=sm e; exact g j0 d<|mv j0<|g j0 d<|mv j0<|g j0 d<|slI (a:=0) (b:=D) zc7 j0 zN j0 j0 j0 (zn8 j0 F) F<|g j0 d<|mf j0 j0<|g j0 d<|pcs (zdf I c.Name c.Params c.Ret c.Static c.Abstract c.Locals c.Stack c.Code c.Maps c.Traps J) j0 j0 (.cons (si j0) (.cons (zdp j5 ⟨(zbe j0 ⟨(si j0),j5⟩),(zbe j0 ⟨(si j0),(si j0),(si j0),(si j0),(si j0),(si j0),(si j0),(si j0),(si j0),(si j0),j5⟩),j5⟩) .nil)) zcq<|za (eg [23,24,25,26,27] 5 j0 j0 j0 j0)) (fun hb=>(sm (bT hb e)).symm)<|za ?_
   refine zh j0 (fun i=>?_) (fun i=>?_)
   ·
    replace h:=bT i h
    refine rg j0<|u<|asg j0<|za ?_
    refine zj ?_
    obtain rfl:=sm h
    exact ⟨_,j0,_,j0,[],ci j0,j0,j5,j0,j1⟩
   ·
    replace h:=bF i h
    refine zk ?_
    refine rl j0<|u<|add ti3 j0 j0<|u<|mv j0<|za ?_
    obtain rfl:=sm h
    exact ⟨_,j0,[.old 0],ce j0 j0<|ce j0 j0<|ce j0 j0<|cv j0 (.mpt j0)<|ce j0 j0<|ce j0 j0<|ce j0 j0<|cn,j0,⟨⟨_,j0,zg ⟨ci j0,j5⟩⟩,j5⟩,j0,j1⟩
  ·
   replace h:=bF C h
   refine zz ?_
   obtain rfl:=sm h
   exact ⟨j0,_,j0,[],ce j0 j0<|ce j0 j0<|cn,j0,j5,j0,j1⟩
 ·
  rintro ⟨⟩ rfl
  replace h:zdq f l=some r:=h
  unfold zdq at h
  refine zv ?_
  refine rg j0<|u<|mv j0<|u<|lnI zc7 j0 j0<|u<|mv j0<|u<|leq ti3 j0 j0<|u<|asg j0<|za ?_
  refine zj ?_
  obtain rfl:=sm h
  exact ⟨_,j0,[],ci j0,j0,j5,j0,j1⟩
 ·
  rintro r' rfl env st hp
  obtain rfl:=sm h
  exact hp
def zcU (a:List UInt8):(List UInt8) :=
  a
theorem zke (a:List UInt8) {r:(List UInt8)} (h:zcU a=r):zu Tryz.prog 160 [sA a] (sA r):=by
 refine zn Tryz.func160 j0 (by kernel_rfl) j0 j0 ?_
 unfold zcU at h
 refine rg j0<|u<|asg j0<|za ?_
 refine rg j0<|u<|mv j0<|u<|asg j0<|za ?_
 refine zj ?_
 obtain rfl:=h
 exact ⟨_,j0,[],ci j0,j0,j5,j0,j1⟩
def zfA (a:List UInt8) (b:List UInt8):Bool :=
  ((zcU b) == (zcU a))
theorem ziE (a:List UInt8) (b:List UInt8) {r:Bool} (h:zfA a b=r):zu Tryz.prog 250 [sA a,.ipt 1 [[.fn (.func 160) [] []]] 0 0,.ipt 1 [[sA b]] 0 0] (bA r):=by
 refine zn Tryz.func250 j0 (by kernel_rfl) j0 j0 ?_
 unfold zfA at h
 refine rg j0<|u<|asg j0<|za ?_
 refine rd [(4,bA ((zcU b) == (zcU a)))] [] [] [7,6,5,4,3,2,1,0] [(4,bA ((zcU b) == (zcU a))),(11,bA ((zcU b) == (zcU a))),(10,sA (zcU a)),(9,sA a),(8,.fn (.func 160) [] []),(7,sA (zcU b)),(6,sA b),(5,.fn (.func 160) [] [])] 0 (by kernel_rfl) (by kernel_rfl) j0 (by kernel_rfl) (dt0 ⟨(fun _=>pa j0 j0 j0 j0 (asg j0<|j4)),(fun _=>pa j0 j0 j0 j0 (seq ti9 j0 j0<|j4)),(fun _=>pa j0 j0 j0 j0 (pc (zke a j0) j0 j0 j0<|j4)),(fun _=>pa j0 j0 j0 j0 (mv j0<|j4)),(fun _=>pa j0 j0 j0 j0 (ld zve j0 j0<|j4)),(fun _=>pa j0 j0 j0 j0 (pc (zke b j0) j0 j0 j0<|j4)),(fun _=>pa j0 j0 j0 j0 (ld ti9 j0 j0<|j4)),(fun _=>pa j0 j0 j0 j0 (ld zve j0 j0<|j4)),j5⟩ (by kernel_rfl) j0 ⟨[],ce j0 j0<|cn,j0,j5,j0,j1⟩) ?_
 refine zj ?_
 obtain rfl:=h
 exact ⟨_,j0,[],ci j0,j0,j5,j0,j1⟩
def zbu:Option (Int) :=
  some (-1)
def zbv (b:List (List UInt8)) (c:List UInt8) (a:Int):Option (Sum (Int) (Sum (Unit) (Int))) :=
  cond (decide (a < (List.length b:Int))) ((idx b a).bind fun d=>cond (zfA d c) (some (.inr (.inr a))) (some (.inl (IntKind.i64.wrap (a+1))))) (some (.inr (.inl ())))
def zbW (a:List (List UInt8)) (c:List UInt8):Option (Int) :=
  (zab (fun z=>zbv a c z) 0).bind fun o=>zaJ o (fun b=>zbu) some
theorem ze0 (a:List (List UInt8)) (c:List UInt8) {r:Int} (h:zbW a c=some r):zu Tryz.prog 181 [.isl 1 (List.map zi a),.fn (.func 250) [] [.ipt 1 [[.fn (.func 160) [] []]] 0 0,.ipt 1 [[sA c]] 0 0]] (iA r):=by
 refine zn Tryz.func181 j0 (by kernel_rfl) j0 j0 ?_
 unfold zbW at h
 refine rg j0<|u<|asg j0<|za ?_
 refine zl ?_
 refine rg j0<|u<|mv j0<|u<|lnI zM j0 j0<|u<|mv j0<|za ?_
 obtain ⟨o,ho,h⟩:=bs h
 refine zT (X:=Int) (B:=Unit) (R:=Int) (fun z=>[(0,.isl 1 (List.map zi a)),(1,.fn (.func 250) [] [.ipt 1 [[.fn (.func 160) [] []]] 0 0,.ipt 1 [[sA c]] 0 0]),(7,iA (List.length a:Int)),(8,iA z)]) (fun z=>[]) (fun b=>[]) (fun b=>[]) (fun r env st=>zaC Tryz.prog Tryz.f181 0 (iA r) [] env st) ho ⟨[],ce j0 j0<|ce j0 j0<|ce j0 j0<|ce j0 j0<|cn,j0,j5,j0,j1⟩ ?_ ?_ ?_
 ·
  rintro i r h
  replace h:zbv a c i=some r:=h
  unfold zbv at h
  refine rg j0<|u<|lss ti3 j0 j0<|za ?_
  refine zl ?_
  refine zh j0 (fun d=>?_) (fun d=>?_)
  ·
   replace h:=bT d h
   refine zk ?_
   refine zl ?_
   refine zq ?_
   refine rg j0<|u<|mv j0<|u<|asg j0<|za ?_
   obtain ⟨j,f,h⟩:=bs h
   refine rg j0<|u<|mv j0<|u<|mv j0<|u<|mv j0<|u<|ixI zM j0 ti9 j0 j0 j0 f<|u<|ldI ti9 j0 (zp f).2.2 j0<|u<|pc (ziE j c j0) j0 j0 j0<|za ?_
   refine zh j0 (fun e=>?_) (fun e=>?_)
   ·
    replace h:=bT e h
    refine rg j0<|u<|mv j0<|u<|asg j0<|za ?_
    refine zj ?_
    obtain rfl:=sm h
    exact ⟨_,j0,_,j0,[],ci j0,j0,j5,j0,j1⟩
   ·
    replace h:=bF e h
    refine zk ?_
    refine rl j0<|u<|add ti3 j0 j0<|u<|mv j0<|za ?_
    obtain rfl:=sm h
    exact ⟨_,j0,[],ce j0 j0<|ce j0 j0<|ce j0 j0<|ce j0 j0<|cn,j0,j5,j0,j1⟩
  ·
   replace h:=bF d h
   refine zz ?_
   obtain rfl:=sm h
   exact ⟨j0,_,j0,[],cn,j0,j5,j0,j1⟩
 ·
  rintro ⟨⟩ rfl
  replace h:zbu=some r:=h
  unfold zbu at h
  refine zv ?_
  refine rg j0<|u<|asg j0<|za ?_
  refine zj ?_
  obtain rfl:=sm h
  exact ⟨_,j0,[],ci j0,j0,j5,j0,j1⟩
 ·
  rintro r' rfl env st hp
  obtain rfl:=sm h
  exact hp
def zbl (a:List (List UInt8)) (b:List UInt8):Option (Bool) :=
  (zbW a b).bind fun c=>some (decide (0≤c))
theorem zep (a:List (List UInt8)) (b:List UInt8) {r:Bool} (h:zbl a b=some r):zu Tryz.prog 99 [.isl 1 (List.map zi a),.fn (.func 250) [] [.ipt 1 [[.fn (.func 160) [] []]] 0 0,.ipt 1 [[sA b]] 0 0]] (bA r):=by
 refine zn Tryz.func99 j0 (by kernel_rfl) j0 j0 ?_
 unfold zbl at h
 refine rg j0<|u<|asg j0<|za ?_
 obtain ⟨d,c,h⟩:=bs h
 refine rg j0<|u<|mv j0<|u<|mv j0<|u<|pc (ze0 a b c) j0 j0 j0<|u<|geq ti3 j0 j0<|u<|asg j0<|za ?_
 refine zj ?_
 obtain rfl:=sm h
 exact ⟨_,j0,[],ci j0,j0,j5,j0,j1⟩
def zfa (a:List (List UInt8)) (b:Int):Option (Bool) :=
  some (decide ((List.length a:Int)≤b))
def zfb (c:List (List UInt8)) (a:Int):Option (Sum (Int) (Sum (Unit) (Bool))) :=
  cond (decide (a < (List.length c:Int))) ((idx c a).bind fun b=>(zfw b).bind fun d=>(cond (!d) (some true) ((zmE c 0 a).bind fun e=>(zbl e b).bind fun f=>some f)).bind fun i=>cond i (some (.inr (.inr false))) (some (.inl (IntKind.i64.wrap (a+1))))) (some (.inr (.inl ())))
def zgh (a:List (List UInt8)) (c:Int):Option (Bool) :=
  (zab (fun z=>zfb a z) 0).bind fun o=>zaJ o (fun b=>zfa a c) some
theorem zjE (e:List (List UInt8)) (i:Int) {r:Bool} (h:zgh e i=some r):zu Tryz.prog 159 [.isl 1 (List.map zi e),iA i,.fn (.func 160) [] [],.fn (.func 158) [] []] (bA r):=by
 refine zn Tryz.func159 j0 (by kernel_rfl) j0 j0 ?_
 unfold zgh at h
 refine rg j0<|u<|bx 0 1 j0 j0 j0 j0<|u<|asg j0<|za ?_
 refine zl ?_
 refine rg j0<|u<|mv j0<|u<|lnI zM j0 j0<|u<|mv j0<|za ?_
 obtain ⟨o,ho,h⟩:=bs h
 refine zT (X:=Int) (B:=Unit) (R:=Bool) (fun z=>[(0,.isl 1 (List.map zi e)),(1,iA i),(3,.fn (.func 158) [] []),(6,.mpt 0 0 0),(11,.isl 1 (List.map zi e)),(12,iA (List.length e:Int)),(13,iA z)]) (fun z=>[some (1,[[.fn (.func 160) [] []]])]) (fun b=>[(0,.isl 1 (List.map zi e)),(1,iA i)]) (fun b=>[]) (fun r env st=>zaC Tryz.prog Tryz.f159 0 (bA r) [] env st) ho ⟨[.old 0],ce j0 j0<|ce j0 j0<|ce j0 j0<|cv j0 (.mpt j0)<|ce j0 j0<|ce j0 j0<|ce j0 j0<|cn,j0,⟨⟨_,j0,zg ⟨ci j0,j5⟩⟩,j5⟩,j0,j1⟩ ?_ ?_ ?_
 ·
  rintro q r h
  replace h:zfb e q=some r:=h
  unfold zfb at h
  refine rg j0<|u<|lss ti3 j0 j0<|za ?_
  refine zl ?_
  refine zh j0 (fun l=>?_) (fun l=>?_)
  ·
   replace h:=bT l h
   refine zk ?_
   refine zl ?_
   refine zq ?_
   obtain ⟨m,n,h⟩:=bs h
   refine rg j0<|u<|mv j0<|u<|ixI zM j0 ti9 j0 j0 j0 n<|u<|ldI ti9 j0 (zp n).2.2 j0<|u<|al 1 ti9 j0<|u<|asg j0<|u<|sto ti9 j0 j0 j0<|za ?_
   obtain ⟨E,s,h⟩:=bs h
   obtain ⟨v,d,h⟩:=bs h
   refine rg j0<|u<|mv j0<|u<|ld ti9 j0 j0<|u<|pc (zeC m s) j0 j0 j0<|u<|nt j0<|u<|mv j0<|zfo (x:=v) (j:=4) 5 j0 j0 j0 j0 j0 gpn (fun c=>by replace d:=bF c d; obtain ⟨C,p,d⟩:=bs d; obtain ⟨F,D,d⟩:=bs d; obtain rfl:=sm d; exact g j0 c<|mv j0<|g j0 c<|mv j0<|g j0 c<|slI (a:=0) (b:=q) zM j0 ti9 j0 j0 j0 (zn8 j0 p) p<|g j0 c<|mf j0 j0<|g j0 c<|pcs (zep C m D) j0 j0 (.cons (si j0) (.cons (zdp j5 ⟨(zbe j0 ⟨(si j0),j5⟩),(zbe j0 ⟨(si j0),j5⟩),j5⟩) .nil)) zcq<|za (eg [23,24,25,26,27] 5 j0 j0 j0 j0)) (fun hb=>(sm (bT hb d)).symm)<|za ?_
   refine zh j0 (fun f=>?_) (fun f=>?_)
   ·
    replace h:=bT f h
    refine rg j0<|u<|asg j0<|za ?_
    refine zj ?_
    obtain rfl:=sm h
    exact ⟨_,j0,_,j0,[],ci j0,j0,j5,j0,j1⟩
   ·
    replace h:=bF f h
    refine zk ?_
    refine rl j0<|u<|add ti3 j0 j0<|u<|mv j0<|za ?_
    obtain rfl:=sm h
    exact ⟨_,j0,[.old 0],ce j0 j0<|ce j0 j0<|ce j0 j0<|cv j0 (.mpt j0)<|ce j0 j0<|ce j0 j0<|ce j0 j0<|cn,j0,⟨⟨_,j0,zg ⟨ci j0,j5⟩⟩,j5⟩,j0,j1⟩
  ·
   replace h:=bF l h
   refine zz ?_
   obtain rfl:=sm h
   exact ⟨j0,_,j0,[],ce j0 j0<|ce j0 j0<|cn,j0,j5,j0,j1⟩
 ·
  rintro ⟨⟩ rfl
  replace h:zfa e i=some r:=h
  unfold zfa at h
  refine zv ?_
  refine rg j0<|u<|mv j0<|u<|lnI zM j0 j0<|u<|mv j0<|u<|leq ti3 j0 j0<|u<|asg j0<|za ?_
  refine zj ?_
  obtain rfl:=sm h
  exact ⟨_,j0,[],ci j0,j0,j5,j0,j1⟩
 ·
  rintro r' rfl env st hp
  obtain rfl:=sm h
  exact hp
def zl0 (a:zc):Option (Bool) :=
  cond (a.Interface&&((!(a.Super == [79,98,106,101,99,116]))||(decide (0 < (List.length a.Fields:Int))))) (some false) ((ze9 a.Fields 8).bind fun b=>(zeL a.Methods 8 a.Name a.Super a.Interface a.Impl a.Fields a.Methods).bind fun c=>(zfw a.Name).bind fun d=>(cond d ((zfw a.Super).bind fun e=>some e) (some false)).bind fun f=>(cond f ((zgh a.Impl 4).bind fun i=>some i) (some false)).bind fun j=>some ((j&&b)&&c))
theorem zod (a:zc) {r:Bool} (h:zl0 a=some r):zu Tryz.prog 72 [.agg (zb a)] (bA r):=by
 refine zn Tryz.func72 j0 (by kernel_rfl) j0 j0 ?_
 unfold zl0 at h
 refine rg j0<|u<|bx 0 6 j0 j0 j0 j0<|u<|asg j0<|za ?_
 refine zl ?_
 refine rg j0<|u<|fa zaf j0 j0 j0<|u<|ld ti4 j0 j0<|u<|mv j0<|za7 (j:=2) 9 j0 j0 j0 j0 j0 gpn (fun b=>g j0 b<|fa zaf j0 j0 j0<|g j0 b<|ld ti9 j0 j0<|g j0 b<|sne ti9 j0 j0<|g j0 b<|mv j0<|zfo (j:=6) 4 j0 j0 j0 j0 j0 (gps j0 j0 b) (fun e=>g j0 e<|fa zaf j0 j0 j0<|g j0 e<|ld zm0 j0 j0<|g j0 e<|lnI zm0 j0 j0<|g j0 e<|gtr ti3 j0 j0<|za (egO [12,13,14,15] 4 e j0 j0 j0 j0)) orT<|za (egA [8,9,10,11,12,13,14,15,16] 5 b j0 j0 j0 j0)) ziy<|za ?_
 refine zh j0 (fun l=>?_) (fun l=>?_)
 ·
  replace h:=bT l h
  refine rg j0<|u<|asg j0<|za ?_
  refine zj ?_
  obtain rfl:=sm h
  exact ⟨_,j0,[],ci j0,j0,j5,j0,j1⟩
 ·
  replace h:=bF l h
  refine zk ?_
  obtain ⟨D,p,h⟩:=bs h
  refine rg j0<|u<|fa zaf j0 j0 j0<|u<|ld zm0 j0 j0<|u<|pc (zis a.Fields 8 p) j0 j0 j0<|u<|asg j0<|za ?_
  obtain ⟨E,q,h⟩:=bs h
  refine rg j0<|u<|fa zaf j0 j0 j0<|u<|ld zc7 j0 j0<|u<|mf j0 j0<|u<|pcs (zhX a.Methods 8 a.Name a.Super a.Interface a.Impl a.Fields a.Methods q) j0 j0 (.cons (si j0) (.cons (si j0) (.cons (si j0) (.cons (zdp j5 ⟨(zbe j0 ⟨(si j0),(si j0),(si j0),(si j0),(si j0),(si j0),j5⟩),j5⟩) .nil)))) zcq<|u<|asg j0<|za ?_
  obtain ⟨F,s,h⟩:=bs h
  obtain ⟨v,i,h⟩:=bs h
  obtain ⟨B,c,h⟩:=bs h
  refine rg j0<|u<|fa zaf j0 j0 j0<|u<|ld ti9 j0 j0<|u<|pc (zeC a.Name s) j0 j0 j0<|u<|mv j0<|za7 (x:=v) (j:=3) 3 j0 j0 j0 j0 j0 gpn (fun f=>by replace i:=bT f i; obtain ⟨G,C,i⟩:=bs i; obtain rfl:=sm i; exact g j0 f<|fa zaf j0 j0 j0<|g j0 f<|ld ti9 j0 j0<|g j0 f<|pc (zeC a.Super C) j0 j0 j0<|za (eg [29,30,31] 3 j0 j0 j0 j0)) (fun hb=>(sm (bF hb i)).symm)<|u<|mv j0<|za7 (x:=B) (j:=8) 3 j0 j0 j0 j0 j0 gpn (fun d=>by replace c:=bT d c; obtain ⟨H,o,c⟩:=bs c; obtain rfl:=sm c; exact g j0 d<|fa zaf j0 j0 j0<|g j0 d<|ld zM j0 j0<|g j0 d<|pc (zjE a.Impl 4 o) j0 j0 j0<|za (eg [34,35,36] 3 j0 j0 j0 j0)) (fun hb=>(sm (bF hb c)).symm)<|u<|mv j0<|za7 (j:=13) 1 j0 j0 j0 j0 j0 gpn (fun m=>g j0 m<|mv j0<|za (egA [39] 1 m j0 j0 j0 j0)) ziy<|u<|mv j0<|za7 (j:=16) 1 j0 j0 j0 j0 j0 gpn (fun n=>g j0 n<|mv j0<|za (egA [42] 1 n j0 j0 j0 j0)) ziy<|u<|asg j0<|za ?_
  refine zj ?_
  obtain rfl:=sm h
  exact ⟨_,j0,[],ci j0,j0,j5,j0,j1⟩
def zho (a:ze) (b:List UInt8):Bool :=
  (a.Name == b)
theorem zkN (a:ze) (b:List UInt8) {r:Bool} (h:zho a b=r):zu Tryz.prog 226 [.agg (zf a),.ipt 1 [[sA b]] 0 0] (bA r):=by
 refine zn Tryz.func226 j0 (by kernel_rfl) j0 j0 ?_
 unfold zho at h
 refine rg j0<|u<|bx 0 10 j0 j0 j0 j0<|u<|asg j0<|za ?_
 refine rg j0<|u<|fa zN j0 j0 j0<|u<|ld ti9 j0 j0<|u<|ld ti9 j0 j0<|u<|seq ti9 j0 j0<|u<|asg j0<|za ?_
 refine zj ?_
 obtain rfl:=h
 exact ⟨_,j0,[],ci j0,j0,j5,j0,j1⟩
def zap:Option (Int) :=
  some (-1)
def zaq (b:List ze) (c:List UInt8) (a:Int):Option (Sum (Int) (Sum (Unit) (Int))) :=
  cond (decide (a < (List.length b:Int))) ((idx b a).bind fun d=>cond (zho d c) (some (.inr (.inr a))) (some (.inl (IntKind.i64.wrap (a+1))))) (some (.inr (.inl ())))
def zaN (a:List ze) (c:List UInt8):Option (Int) :=
  (zab (fun z=>zaq a c z) 0).bind fun o=>zaJ o (fun b=>zap) some
theorem zdg (a:List ze) (c:List UInt8) {r:Int} (h:zaN a c=some r):zu Tryz.prog 225 [.isl 10 (List.map zf a),.fn (.func 226) [] [.ipt 1 [[sA c]] 0 0]] (iA r):=by
 refine zn Tryz.func225 j0 (by kernel_rfl) j0 j0 ?_
 unfold zaN at h
 refine rg j0<|u<|asg j0<|za ?_
 refine zl ?_
 refine rg j0<|u<|mv j0<|u<|lnI zc7 j0 j0<|u<|mv j0<|za ?_
 obtain ⟨o,ho,h⟩:=bs h
 refine zT (X:=Int) (B:=Unit) (R:=Int) (fun z=>[(0,.isl 10 (List.map zf a)),(1,.fn (.func 226) [] [.ipt 1 [[sA c]] 0 0]),(7,iA (List.length a:Int)),(8,iA z)]) (fun z=>[]) (fun b=>[]) (fun b=>[]) (fun r env st=>zaC Tryz.prog Tryz.f225 0 (iA r) [] env st) ho ⟨[],ce j0 j0<|ce j0 j0<|ce j0 j0<|ce j0 j0<|cn,j0,j5,j0,j1⟩ ?_ ?_ ?_
 ·
  rintro i r h
  replace h:zaq a c i=some r:=h
  unfold zaq at h
  refine rg j0<|u<|lss ti3 j0 j0<|za ?_
  refine zl ?_
  refine zh j0 (fun d=>?_) (fun d=>?_)
  ·
   replace h:=bT d h
   refine zk ?_
   refine zl ?_
   refine zq ?_
   refine rg j0<|u<|mv j0<|u<|asg j0<|za ?_
   obtain ⟨j,f,h⟩:=bs h
   refine rg j0<|u<|mv j0<|u<|mv j0<|u<|mv j0<|u<|ixI zc7 j0 zN j0 j0 j0 f<|u<|ldI zN j0 (zp f).2.2 j0<|u<|pc (zkN j c j0) j0 j0 j0<|za ?_
   refine zh j0 (fun e=>?_) (fun e=>?_)
   ·
    replace h:=bT e h
    refine rg j0<|u<|mv j0<|u<|asg j0<|za ?_
    refine zj ?_
    obtain rfl:=sm h
    exact ⟨_,j0,_,j0,[],ci j0,j0,j5,j0,j1⟩
   ·
    replace h:=bF e h
    refine zk ?_
    refine rl j0<|u<|add ti3 j0 j0<|u<|mv j0<|za ?_
    obtain rfl:=sm h
    exact ⟨_,j0,[],ce j0 j0<|ce j0 j0<|ce j0 j0<|ce j0 j0<|cn,j0,j5,j0,j1⟩
  ·
   replace h:=bF d h
   refine zz ?_
   obtain rfl:=sm h
   exact ⟨j0,_,j0,[],cn,j0,j5,j0,j1⟩
 ·
  rintro ⟨⟩ rfl
  replace h:zap=some r:=h
  unfold zap at h
  refine zv ?_
  refine rg j0<|u<|asg j0<|za ?_
  refine zj ?_
  obtain rfl:=sm h
  exact ⟨_,j0,[],ci j0,j0,j5,j0,j1⟩
 ·
  rintro r' rfl env st hp
  obtain rfl:=sm h
  exact hp
def zfv (a:zc) (b:List UInt8):Option (Int) :=
  (zaN a.Methods b).bind fun c=>some c
theorem zfz (a:zc) (b:List UInt8) {r:Int} (h:zfv a b=some r):zu Tryz.prog 141 [.agg (zb a),sA b] (iA r):=by
 refine zn Tryz.func141 j0 (by kernel_rfl) j0 j0 ?_
 unfold zfv at h
 refine rg j0<|u<|bx 0 6 j0 j0 j0 j0<|u<|bx 1 1 j0 j0 j0 j0<|u<|asg j0<|za ?_
 obtain ⟨d,c,h⟩:=bs h
 refine rg j0<|u<|fa zaf j0 j0 j0<|u<|ld zc7 j0 j0<|u<|mf j0 j0<|u<|pcs (zdg a.Methods b c) j0 j0 (.cons (si j0) (.cons (zdp j5 ⟨(zbe j0 ⟨(si j0),j5⟩),j5⟩) .nil)) zcq<|u<|asg j0<|za ?_
 refine zj ?_
 obtain rfl:=sm h
 exact ⟨_,j0,[],ci j0,j0,j5,j0,j1⟩
def zhW (a:zG) (b:List UInt8):Bool :=
  (a.Name == b)
theorem zlt (a:zG) (b:List UInt8) {r:Bool} (h:zhW a b=r):zu Tryz.prog 316 [.agg (zH a),.ipt 1 [[sA b]] 0 0] (bA r):=by
 refine zn Tryz.func316 j0 (by kernel_rfl) j0 j0 ?_
 unfold zhW at h
 refine rg j0<|u<|bx 0 3 j0 j0 j0 j0<|u<|asg j0<|za ?_
 refine rg j0<|u<|fa zhG j0 j0 j0<|u<|ld ti9 j0 j0<|u<|ld ti9 j0 j0<|u<|seq ti9 j0 j0<|u<|asg j0<|za ?_
 refine zj ?_
 obtain rfl:=h
 exact ⟨_,j0,[],ci j0,j0,j5,j0,j1⟩
def zaE:Option (Int) :=
  some (-1)
def zaF (b:List zG) (c:List UInt8) (a:Int):Option (Sum (Int) (Sum (Unit) (Int))) :=
  cond (decide (a < (List.length b:Int))) ((idx b a).bind fun d=>cond (zhW d c) (some (.inr (.inr a))) (some (.inl (IntKind.i64.wrap (a+1))))) (some (.inr (.inl ())))
def za2 (a:List zG) (c:List UInt8):Option (Int) :=
  (zab (fun z=>zaF a c z) 0).bind fun o=>zaJ o (fun b=>zaE) some
theorem zdD (a:List zG) (c:List UInt8) {r:Int} (h:za2 a c=some r):zu Tryz.prog 315 [.isl 3 (List.map zH a),.fn (.func 316) [] [.ipt 1 [[sA c]] 0 0]] (iA r):=by
 refine zn Tryz.func315 j0 (by kernel_rfl) j0 j0 ?_
 unfold za2 at h
 refine rg j0<|u<|asg j0<|za ?_
 refine zl ?_
 refine rg j0<|u<|mv j0<|u<|lnI zm0 j0 j0<|u<|mv j0<|za ?_
 obtain ⟨o,ho,h⟩:=bs h
 refine zT (X:=Int) (B:=Unit) (R:=Int) (fun z=>[(0,.isl 3 (List.map zH a)),(1,.fn (.func 316) [] [.ipt 1 [[sA c]] 0 0]),(7,iA (List.length a:Int)),(8,iA z)]) (fun z=>[]) (fun b=>[]) (fun b=>[]) (fun r env st=>zaC Tryz.prog Tryz.f315 0 (iA r) [] env st) ho ⟨[],ce j0 j0<|ce j0 j0<|ce j0 j0<|ce j0 j0<|cn,j0,j5,j0,j1⟩ ?_ ?_ ?_
 ·
  rintro i r h
  replace h:zaF a c i=some r:=h
  unfold zaF at h
  refine rg j0<|u<|lss ti3 j0 j0<|za ?_
  refine zl ?_
  refine zh j0 (fun d=>?_) (fun d=>?_)
  ·
   replace h:=bT d h
   refine zk ?_
   refine zl ?_
   refine zq ?_
   refine rg j0<|u<|mv j0<|u<|asg j0<|za ?_
   obtain ⟨j,f,h⟩:=bs h
   refine rg j0<|u<|mv j0<|u<|mv j0<|u<|mv j0<|u<|ixI zm0 j0 zhG j0 j0 j0 f<|u<|ldI zhG j0 (zp f).2.2 j0<|u<|pc (zlt j c j0) j0 j0 j0<|za ?_
   refine zh j0 (fun e=>?_) (fun e=>?_)
   ·
    replace h:=bT e h
    refine rg j0<|u<|mv j0<|u<|asg j0<|za ?_
    refine zj ?_
    obtain rfl:=sm h
    exact ⟨_,j0,_,j0,[],ci j0,j0,j5,j0,j1⟩
   ·
    replace h:=bF e h
    refine zk ?_
    refine rl j0<|u<|add ti3 j0 j0<|u<|mv j0<|za ?_
    obtain rfl:=sm h
    exact ⟨_,j0,[],ce j0 j0<|ce j0 j0<|ce j0 j0<|ce j0 j0<|cn,j0,j5,j0,j1⟩
  ·
   replace h:=bF d h
   refine zz ?_
   obtain rfl:=sm h
   exact ⟨j0,_,j0,[],cn,j0,j5,j0,j1⟩
 ·
  rintro ⟨⟩ rfl
  replace h:zaE=some r:=h
  unfold zaE at h
  refine zv ?_
  refine rg j0<|u<|asg j0<|za ?_
  refine zj ?_
  obtain rfl:=sm h
  exact ⟨_,j0,[],ci j0,j0,j5,j0,j1⟩
 ·
  rintro r' rfl env st hp
  obtain rfl:=sm h
  exact hp
def zjB (a:zc) (b:List UInt8):Option (Int) :=
  (za2 a.Fields b).bind fun c=>some c
theorem zmy (a:zc) (b:List UInt8) {r:Int} (h:zjB a b=some r):zu Tryz.prog 223 [.agg (zb a),sA b] (iA r):=by
 refine zn Tryz.func223 j0 (by kernel_rfl) j0 j0 ?_
 unfold zjB at h
 refine rg j0<|u<|bx 0 6 j0 j0 j0 j0<|u<|bx 1 1 j0 j0 j0 j0<|u<|asg j0<|za ?_
 obtain ⟨d,c,h⟩:=bs h
 refine rg j0<|u<|fa zaf j0 j0 j0<|u<|ld zm0 j0 j0<|u<|mf j0 j0<|u<|pcs (zdD a.Fields b c) j0 j0 (.cons (si j0) (.cons (zdp j5 ⟨(zbe j0 ⟨(si j0),j5⟩),j5⟩) .nil)) zcq<|u<|asg j0<|za ?_
 refine zj ?_
 obtain rfl:=sm h
 exact ⟨_,j0,[],ci j0,j0,j5,j0,j1⟩
end
end Go.Proofs.YthmnlfenkhmmhaaGreat
namespace Go.Proofs.YthmnlfenkhmmhaaGreat
noncomputable section
set_option linter.unusedSimpArgs false
set_option linter.unusedVariables false
set_option maxRecDepth 100000
set_option maxHeartbeats 4000000
structure zK where
  l:List zc
  at_:List (List UInt8×Int)
def zcG (x:zK):List AV:=[.isl 6 (List.map zb x.l),.imp (List.map (rKV (fun x=>iA x)) x.at_)]
def zbj:(List (List UInt8)) :=
  ([[79,98,106,101,99,116],[84,104,114,111,119,110],[78,117,108,108,69,114,114],[82,97,110,103,101,69,114,114],[77,97,116,104,69,114,114],[67,97,115,116,69,114,114],[83,105,122,101,69,114,114],[83,116,111,114,101,69,114,114],[73,110,105,116,69,114,114],[67,108,97,115,115,69,114,114]])
theorem znm {r:(List (List UInt8))} (h:zbj=r):SC Tryz.prog 105 [] [] (.msl 0 0 (List.length r)) [.many 1 (List.map zi r)]:=by
 refine ⟨⟨zeU (sz:=1) (fun _=>j0),j5⟩,zad Tryz.func105 j0 (by kernel_rfl) j0 ?_⟩
 unfold zbj at h
 refine rg j0<|u<|asg j0<|za ?_
 refine rg j0<|u<|bl 0 zM j0 ti9 j0 (by decide) (by decide) j0 j0 j0<|u<|asg j0<|za ?_
 refine zj ?_
 obtain rfl:=h
 exact ⟨_,j0,[.old 0],.msl j0,j0,⟨⟨_,j0,zkt ⟨⟨(ci j0),j5⟩,⟨(ci j0),j5⟩,⟨(ci j0),j5⟩,⟨(ci j0),j5⟩,⟨(ci j0),j5⟩,⟨(ci j0),j5⟩,⟨(ci j0),j5⟩,⟨(ci j0),j5⟩,⟨(ci j0),j5⟩,⟨(ci j0),j5⟩,j5⟩⟩,j5⟩,j0,j1⟩
def zh6 (a:List zc):Option ((List zc)) :=
  some a
def zfG (c:List zc) (d:Int) (e:List UInt8) (a:List UInt8):Option (Sum ((List zc)×Int) (Sum ((List zc)) ((List zc)))) :=
  (zjq 112 c ([(zc.mk e a false [] [] [])])).bind fun b=>some (.inl (b,(IntKind.i64.wrap (d+1))))
def zh7 (b:List zc) (a:Int):Option (Sum ((List zc)×Int) (Sum ((List zc)) ((List zc)))) :=
  cond (decide (a < ((List.length (zbj)):Int))) ((idx (zbj) a).bind fun c=>cond (decide (a < 2)) ((idx ([[],[79,98,106,101,99,116]]) a).bind fun d=>zfG b a c d) (zfG b a c [84,104,114,111,119,110])) (some (.inr (.inl b)))
def zk0:Option ((List zc)) :=
  (zab (fun z=>zh7 z.1 z.2) ([],0)).bind fun o=>zaJ o (fun b=>zh6 b) some
theorem znp {r:(List zc)} (h:zk0=some r):SC Tryz.prog 98 [] [] (.msl 0 0 (List.length r)) [.many 6 (List.map zb r)]:=by
 refine ⟨⟨zeU (sz:=6) (fun _=>j0),j5⟩,zad Tryz.func98 j0 (by kernel_rfl) j0 ?_⟩
 unfold zk0 at h
 refine rg j0<|u<|asg j0<|za ?_
 refine rg j0<|u<|asg j0<|za ?_
 refine zl ?_
 refine rg j0<|u<|sc [] (znm j0) j0 j0 j0 j0 j5 j5<|zB (env0:=[(1,.lit (.slice none 0 0)),(5,.msl 0 0 (List.length (zbj)))]) (st0:=[some (1,List.map zi (zbj))]) ⟨[.old 0],ce j0 j0<|cv j0 (.msl j0)<|cn,j0,⟨⟨_,j0,zd (fun _=>j0)⟩,j5⟩,j0,j1⟩<|u<|lnM zM j0 j0 j0<|u<|mv j0<|za ?_
 obtain ⟨o,ho,h⟩:=bs h
 refine zT (X:=(List zc)×Int) (B:=(List zc)) (R:=(List zc)) (fun z=>[(1,.msl 0 0 (List.length z.1)),(5,.msl 1 0 (List.length (zbj))),(6,iA ((List.length (zbj)):Int)),(7,iA z.2)]) (fun z=>[some (6,List.map zb z.1),some (1,List.map zi (zbj))]) (fun b=>[(1,.msl 0 0 (List.length b))]) (fun b=>[some (6,List.map zb b)]) (fun r env st=>zaC Tryz.prog Tryz.f98 0 (.msl 0 0 (List.length r)) [some (6,List.map zb r)] env st) ho ⟨[.fresh 6,.old 0],cv j0 (.nilown j0)<|cv j0 (.msl j0)<|ce j0 j0<|ce j0 j0<|cn,j0,⟨j4,⟨_,j0,zd (fun _=>j0)⟩,j5⟩,j0,j1⟩ ?_ ?_ ?_
 ·
  rintro ⟨a,c⟩ r h
  replace h:zh7 a c=some r:=h
  unfold zh7 at h
  refine rg j0<|u<|lss ti3 j0 j0<|za ?_
  refine zl ?_
  refine zh j0 (fun e=>?_) (fun e=>?_)
  ·
   replace h:=bT e h
   refine zk ?_
   refine zl ?_
   refine zq ?_
   obtain ⟨d,j,h⟩:=bs h
   refine rg j0<|u<|mv j0<|u<|ixM zM j0 ti9 j0 j0 j0 j0 j<|u<|ldM ti9 j0 j0 (zp j).2.2 j0<|u<|asg j0<|u<|asg j0<|za ?_
   refine rg j0<|u<|mv j0<|u<|bd zaf j0 j0 j0<|u<|al 2 zaf j0<|u<|sto zaf j0 j0 j0<|za ?_
   refine zcD (X:=(List UInt8)) (fun z=>[(1,.msl 0 0 (List.length a)),(4,.mpt 1 0 0),(5,.msl 2 0 (List.length (zbj))),(6,iA ((List.length (zbj)):Int)),(7,iA c)]) (fun z=>[some (6,List.map zb a),some (6,[[sA d,sA z,bA false,.lit (.slice none 0 0),.lit (.slice none 0 0),.lit (.slice none 0 0)]]),some (1,List.map zi (zbj))]) (fun z=>zfG a c d z=some r) ?_ ?_
   ·
    refine rg j0<|u<|mv j0<|u<|lss ti3 j0 j0<|za ?_
    refine zh j0 (fun f=>?_) (fun f=>?_)
    ·
     replace h:=bT f h
     obtain ⟨n,l,h⟩:=bs h
     exact rl j0<|u<|bl 3 zM j0 ti9 j0 (by decide) (by decide) j0 j0 j0<|u<|mv j0<|zB (env0:=[(1,.msl 0 0 (List.length a)),(4,.mpt 1 0 0),(5,.msl 2 0 (List.length (zbj))),(6,iA ((List.length (zbj)):Int)),(7,iA c),(16,.msl 3 0 (List.length ([[],[79,98,106,101,99,116]]))),(17,iA c)]) (st0:=[some (6,List.map zb a),some (6,[[sA d,sA [84,104,114,111,119,110],bA false,.lit (.slice none 0 0),.lit (.slice none 0 0),.lit (.slice none 0 0)]]),some (1,List.map zi (zbj)),some (1,List.map zi ([[],[79,98,106,101,99,116]]))]) ⟨[.old 0,.old 2,.old 1,.old 3],cv j0 (.msl j0)<|cv j0 (.mpt j0)<|cv j0 (.msl j0)<|ce j0 j0<|ce j0 j0<|cv j0 (.msl j0)<|ce j0 j0<|cn,j0,⟨⟨_,j0,zd (fun _=>j0)⟩,⟨_,j0,zg (ciL j0)⟩,⟨_,j0,zd (fun _=>j0)⟩,⟨_,j0,zkt ⟨⟨(ci j0),j5⟩,⟨(ci j0),j5⟩,j5⟩⟩,j5⟩,j0,j1⟩<|u<|ixM zM j0 ti9 j0 j0 j0 j0 l<|u<|ldM ti9 j0 j0 (zp l).2.2 j0<|u<|fa zaf j0 j0 j0<|u<|sto ti9 j0 j0 j0<|za (⟨n,h,[.old 0,.old 1,.old 2],cv j0 (.msl j0)<|cv j0 (.mpt j0)<|cv j0 (.msl j0)<|ce j0 j0<|ce j0 j0<|cn,j0,⟨⟨_,j0,zd (fun _=>j0)⟩,⟨_,j0,zg (ciL j0)⟩,⟨_,j0,zd (fun _=>j0)⟩,j5⟩,j0,j1⟩)
    ·
     replace h:=bF f h
     refine zk ?_
     exact ⟨[84,104,114,111,119,110],h,[.old 0,.old 2,.old 1],cv j0 (.msl j0)<|cv j0 (.mpt j0)<|cv j0 (.msl j0)<|ce j0 j0<|ce j0 j0<|cn,j0,⟨⟨_,j0,zd (fun _=>j0)⟩,⟨_,j0,zg (ciL j0)⟩,⟨_,j0,zd (fun _=>j0)⟩,j5⟩,j0,j1⟩
   ·
    rintro i h
    replace h:zfG a c d i=some r:=h
    unfold zfG at h
    obtain ⟨q,p,h⟩:=bs h
    refine rl j0<|u<|mv j0<|u<|ld zaf j0 j0<|u<|bl 3 zjl j0 zaf j0 (by decide) (by decide) j0 j0 j0<|zB (env0:=[(5,.msl 0 0 (List.length (zbj))),(6,iA ((List.length (zbj)):Int)),(7,iA c),(21,.msl 1 0 (List.length a)),(23,.msl 2 0 (List.length ([(zc.mk d i false [] [] [])])))]) (st0:=[some (1,List.map zi (zbj)),some (6,List.map zb a),some (6,List.map zb ([(zc.mk d i false [] [] [])]))]) ⟨[.old 2,.old 0,.old 3],cv j0 (.msl j0)<|ce j0 j0<|ce j0 j0<|cv j0 (.msl j0)<|cv j0 (.msl j0)<|cn,j0,⟨⟨_,j0,zd (fun _=>j0)⟩,⟨_,j0,zd (fun _=>j0)⟩,⟨_,j0,zkt ⟨⟨(ci j0),(ci j0),(ci j0),(.nil),(.nil),(.nil),j5⟩,j5⟩⟩,j5⟩,j0,j1⟩<|u<|apM 3 zjl j0 zaf j0 j0 (by decide) zjl j0 j0 j0 j0 (roM j0) (fun _=>j0) j0 p<|u<|asg j0<|za ?_
    refine rl j0<|u<|add ti3 j0 j0<|u<|mv j0<|za ?_
    obtain rfl:=sm h
    exact ⟨_,j0,[.old 3,.old 0],cv j0 (.msl j0)<|cv j0 (.msl j0)<|ce j0 j0<|ce j0 j0<|cn,j0,⟨⟨_,j0,zd (fun _=>j0)⟩,⟨_,j0,zd (fun _=>j0)⟩,j5⟩,j0,j1⟩
  ·
   replace h:=bF e h
   refine zz ?_
   obtain rfl:=sm h
   exact ⟨j0,_,j0,[.old 0],cv j0 (.msl j0)<|cn,j0,⟨⟨_,j0,zd (fun _=>j0)⟩,j5⟩,j0,j1⟩
 ·
  rintro m rfl
  replace h:zh6 m=some r:=h
  unfold zh6 at h
  refine zv ?_
  refine rg j0<|u<|mv j0<|u<|asg j0<|za ?_
  refine zj ?_
  obtain rfl:=sm h
  exact ⟨_,j0,[.old 0],.msl j0,j0,⟨⟨_,j0,zd (fun _=>j0)⟩,j5⟩,j0,j1⟩
 ·
  rintro r' rfl env st hp
  obtain rfl:=sm h
  exact hp
def zhM (a:zc):Option ((List (List UInt8))) :=
  (zjq 16 [a.Super] a.Impl).bind fun b=>some b
theorem zh5 (a:zc) {r:(List (List UInt8))} (h:zhM a=some r):SC Tryz.prog 100 [.agg (zb a)] [] (.msl 0 0 (List.length r)) [.many 1 (List.map zi r)]:=by
 refine ⟨⟨zeU (sz:=1) (fun _=>j0),j5⟩,zad Tryz.func100 j0 (by kernel_rfl) j0 ?_⟩
 unfold zhM at h
 refine rg j0<|u<|bx 0 6 j0 j0 j0 j0<|u<|asg j0<|za ?_
 obtain ⟨c,b,h⟩:=bs h
 refine rg j0<|u<|fa zaf j0 j0 j0<|u<|ld ti9 j0 j0<|u<|bl 1 zM j0 ti9 j0 (by decide) (by decide) j0 j0 j0<|u<|fa zaf j0 j0 j0<|u<|ld zM j0 j0<|u<|apM (l:=[a.Super]) (f:=zi) 2 zM j0 ti9 j0 j0 (by decide) zM j0 j0 j0 j0 roI (fun _=>j0) j0 b<|u<|asg j0<|za ?_
 refine zj ?_
 obtain rfl:=sm h
 exact ⟨_,j0,[.old 2],.msl j0,j0,⟨⟨_,j0,zd (fun _=>j0)⟩,j5⟩,j0,j1⟩
def zdt (c:List zc) (a:List (List UInt8×Int)) (b:List UInt8):Bool :=
  (Option.isSome (zcP b a))
theorem zdA (b:List zc) (a:List (List UInt8×Int)) (c:List UInt8) {r:Bool} (h:zdt b a c=r):zu Tryz.prog 102 [.ipt 2 [[.isl 6 (List.map zb b),.imp (List.map (rKV (fun x=>iA x)) a)]] 0 0,sA c] (bA r):=by
 refine zn Tryz.func102 j0 (by kernel_rfl) j0 j0 ?_
 unfold zdt at h
 refine rg j0<|u<|asg j0<|za ?_
 refine zl ?_
 refine rg j0<|u<|mv j0<|u<|eqp zez j0 j0 j0 j0 j0 j0<|za ?_
 refine zh j0 (fun hx=>by cases hx) (fun _=>?_)
 refine zk ?_
 refine rg j0<|u<|mv j0<|u<|nc j0 j0<|u<|fa zkA j0 j0 j0<|u<|ld zrO j0 j0<|u<|mv j0<|u<|zwe (g:=(fun x=>iA x)) (z:=0) (l:=a) j0 ti3 j0 j0 j0 j0<|u<|mv j0<|u<|ex j0 j0<|u<|ex j0 j0<|u<|asg j0<|u<|asg j0<|za ?_
 refine rg j0<|u<|mv j0<|u<|asg j0<|za ?_
 refine zj ?_
 obtain rfl:=h
 exact ⟨_,j0,[],ci j0,j0,j5,j0,j1⟩
def zkZ (a:List UInt8) (b:List zc) (c:List (List UInt8×Int)):Bool :=
  (!(zdt b c a))
theorem zno (a:List UInt8) (b:List zc) (c:List (List UInt8×Int)) {r:Bool} (h:zkZ a b c=r):zu Tryz.prog 101 [sA a,.ipt 1 [[.ipt 2 [[.isl 6 (List.map zb b),.imp (List.map (rKV (fun x=>iA x)) c)]] 0 0]] 0 0] (bA r):=by
 refine zn Tryz.func101 j0 (by kernel_rfl) j0 j0 ?_
 unfold zkZ at h
 refine rg j0<|u<|asg j0<|za ?_
 refine rg j0<|u<|ld zez j0 j0<|u<|mv j0<|u<|pc (zdA b c a j0) j0 j0 j0<|u<|nt j0<|u<|asg j0<|za ?_
 refine zj ?_
 obtain rfl:=h
 exact ⟨_,j0,[],ci j0,j0,j5,j0,j1⟩
def zbw:Option (Int) :=
  some (-1)
def zbx (b:List (List UInt8)) (c:List zc) (d:List (List UInt8×Int)) (a:Int):Option (Sum (Int) (Sum (Unit) (Int))) :=
  cond (decide (a < (List.length b:Int))) ((idx b a).bind fun e=>cond (zkZ e c d) (some (.inr (.inr a))) (some (.inl (IntKind.i64.wrap (a+1))))) (some (.inr (.inl ())))
def zbX (a:List (List UInt8)) (c:List zc) (d:List (List UInt8×Int)):Option (Int) :=
  (zab (fun z=>zbx a c d z) 0).bind fun o=>zaJ o (fun b=>zbw) some
theorem ze1 (a:List (List UInt8)) (c:List zc) (d:List (List UInt8×Int)) {r:Int} (h:zbX a c d=some r):zu Tryz.prog 181 [.isl 1 (List.map zi a),.fn (.func 101) [] [.ipt 1 [[.ipt 2 [[.isl 6 (List.map zb c),.imp (List.map (rKV (fun x=>iA x)) d)]] 0 0]] 0 0]] (iA r):=by
 refine zn Tryz.func181 j0 (by kernel_rfl) j0 j0 ?_
 unfold zbX at h
 refine rg j0<|u<|asg j0<|za ?_
 refine zl ?_
 refine rg j0<|u<|mv j0<|u<|lnI zM j0 j0<|u<|mv j0<|za ?_
 obtain ⟨o,ho,h⟩:=bs h
 refine zT (X:=Int) (B:=Unit) (R:=Int) (fun z=>[(0,.isl 1 (List.map zi a)),(1,.fn (.func 101) [] [.ipt 1 [[.ipt 2 [[.isl 6 (List.map zb c),.imp (List.map (rKV (fun x=>iA x)) d)]] 0 0]] 0 0]),(7,iA (List.length a:Int)),(8,iA z)]) (fun z=>[]) (fun b=>[]) (fun b=>[]) (fun r env st=>zaC Tryz.prog Tryz.f181 0 (iA r) [] env st) ho ⟨[],ce j0 j0<|ce j0 j0<|ce j0 j0<|ce j0 j0<|cn,j0,j5,j0,j1⟩ ?_ ?_ ?_
 ·
  rintro j r h
  replace h:zbx a c d j=some r:=h
  unfold zbx at h
  refine rg j0<|u<|lss ti3 j0 j0<|za ?_
  refine zl ?_
  refine zh j0 (fun e=>?_) (fun e=>?_)
  ·
   replace h:=bT e h
   refine zk ?_
   refine zl ?_
   refine zq ?_
   refine rg j0<|u<|mv j0<|u<|asg j0<|za ?_
   obtain ⟨l,i,h⟩:=bs h
   refine rg j0<|u<|mv j0<|u<|mv j0<|u<|mv j0<|u<|ixI zM j0 ti9 j0 j0 j0 i<|u<|ldI ti9 j0 (zp i).2.2 j0<|u<|pc (zno l c d j0) j0 j0 j0<|za ?_
   refine zh j0 (fun f=>?_) (fun f=>?_)
   ·
    replace h:=bT f h
    refine rg j0<|u<|mv j0<|u<|asg j0<|za ?_
    refine zj ?_
    obtain rfl:=sm h
    exact ⟨_,j0,_,j0,[],ci j0,j0,j5,j0,j1⟩
   ·
    replace h:=bF f h
    refine zk ?_
    refine rl j0<|u<|add ti3 j0 j0<|u<|mv j0<|za ?_
    obtain rfl:=sm h
    exact ⟨_,j0,[],ce j0 j0<|ce j0 j0<|ce j0 j0<|ce j0 j0<|cn,j0,j5,j0,j1⟩
  ·
   replace h:=bF e h
   refine zz ?_
   obtain rfl:=sm h
   exact ⟨j0,_,j0,[],cn,j0,j5,j0,j1⟩
 ·
  rintro ⟨⟩ rfl
  replace h:zbw=some r:=h
  unfold zbw at h
  refine zv ?_
  refine rg j0<|u<|asg j0<|za ?_
  refine zj ?_
  obtain rfl:=sm h
  exact ⟨_,j0,[],ci j0,j0,j5,j0,j1⟩
 ·
  rintro r' rfl env st hp
  obtain rfl:=sm h
  exact hp
def zbm (a:List (List UInt8)) (b:List zc) (c:List (List UInt8×Int)):Option (Bool) :=
  (zbX a b c).bind fun d=>some (decide (0≤d))
theorem zeq (a:List (List UInt8)) (b:List zc) (c:List (List UInt8×Int)) {r:Bool} (h:zbm a b c=some r):zu Tryz.prog 99 [.isl 1 (List.map zi a),.fn (.func 101) [] [.ipt 1 [[.ipt 2 [[.isl 6 (List.map zb b),.imp (List.map (rKV (fun x=>iA x)) c)]] 0 0]] 0 0]] (bA r):=by
 refine zn Tryz.func99 j0 (by kernel_rfl) j0 j0 ?_
 unfold zbm at h
 refine rg j0<|u<|asg j0<|za ?_
 obtain ⟨e,d,h⟩:=bs h
 refine rg j0<|u<|mv j0<|u<|mv j0<|u<|pc (ze1 a b c d) j0 j0 j0<|u<|geq ti3 j0 j0<|u<|asg j0<|za ?_
 refine zj ?_
 obtain rfl:=sm h
 exact ⟨_,j0,[],ci j0,j0,j5,j0,j1⟩
def zcZ (a:List zc) (b:List (List UInt8×Int)) (c:List UInt8):Option (zc) :=
  (idx a (Option.getD (zcP c b) 0)).bind fun d=>some d
theorem zcV (b:List zc) (a:List (List UInt8×Int)) (c:List UInt8) {r:zc} (h:zcZ b a c=some r):zu Tryz.prog 182 [.ipt 2 [[.isl 6 (List.map zb b),.imp (List.map (rKV (fun x=>iA x)) a)]] 0 0,sA c] (.agg (zb r)):=by
 refine zn Tryz.func182 j0 (by kernel_rfl) j0 j0 ?_
 unfold zcZ at h
 refine rg j0<|u<|al 0 zaf j0<|za ?_
 obtain ⟨d,e,h⟩:=bs h
 refine rd [(4,.mpt 0 0 0)] [some (6,[(zb d)])] [12] [11,10,9,8,7,6,5,4,3,2,1,0] [(16,.agg (zb d)),(15,.ipt 6 (List.map zb b) (Int.toNat (Option.getD (zcP c a) 0)) 0),(14,iA (Option.getD (zcP c a) 0)),(13,sA c),(12,.imp (List.map (rKV (fun x=>iA x)) a)),(11,.ipt 2 [[.isl 6 (List.map zb b),.imp (List.map (rKV (fun x=>iA x)) a)]] 0 1),(10,.ipt 2 [[.isl 6 (List.map zb b),.imp (List.map (rKV (fun x=>iA x)) a)]] 0 0),(9,.ipt 2 [[.isl 6 (List.map zb b),.imp (List.map (rKV (fun x=>iA x)) a)]] 0 0),(8,.isl 6 (List.map zb b)),(7,.ipt 2 [[.isl 6 (List.map zb b),.imp (List.map (rKV (fun x=>iA x)) a)]] 0 0),(6,.ipt 2 [[.isl 6 (List.map zb b),.imp (List.map (rKV (fun x=>iA x)) a)]] 0 0),(5,.ipt 2 [[.isl 6 (List.map zb b),.imp (List.map (rKV (fun x=>iA x)) a)]] 0 0)] 1 (by kernel_rfl) (by kernel_rfl) j0 (by kernel_rfl) (dtS ⟨(fun _=>pa j0 j0 j0 j0 (ldI zaf j0 (zp e).2.2 j0<|j4)),(fun _=>pa j0 j0 j0 j0 (ixI zjl j0 zaf j0 j0 j0 e<|j4)),(fun _=>pa j0 j0 j0 j0 (zwE (g:=(fun x=>iA x)) (z:=0) (l:=a) j0 ti3 j0 j0 j0 j0<|j4)),(fun _=>pa j0 j0 j0 j0 (mv j0<|j4)),(fun _=>pa j0 j0 j0 j0 (ld zrO j0 j0<|j4)),(fun _=>pa j0 j0 j0 j0 (fa zkA j0 j0 j0<|j4)),(fun _=>pa j0 j0 j0 j0 (nc j0 j0<|j4)),(fun _=>pa j0 j0 j0 j0 (mv j0<|j4)),(fun _=>pa j0 j0 j0 j0 (ld zjl j0 j0<|j4)),(fun _=>pa j0 j0 j0 j0 (fa zkA j0 j0 j0<|j4)),(fun _=>pa j0 j0 j0 j0 (nc j0 j0<|j4)),(fun _=>pa j0 j0 j0 j0 (mv j0<|j4)),j5⟩ (by kernel_rfl) j0 ⟨(fun _ _=>⟨_,j0,j0,sto zaf j0 j0 j0<|⟨.any,[],[],j0,j0,by kernel_rfl,j5,dt0 ⟨(fun h=>by cases h),(fun h=>by cases h),(fun h=>by cases h),(fun h=>by cases h),(fun h=>by cases h),(fun h=>by cases h),(fun h=>by cases h),(fun h=>by cases h),(fun h=>by cases h),(fun h=>by cases h),(fun h=>by cases h),(fun h=>by cases h),j5⟩ (by kernel_rfl) j0 ⟨[.old 0],cv j0 (.mpt j0)<|cn,j0,⟨⟨_,j0,zg (ciL j0)⟩,j5⟩,j0,j1⟩⟩⟩),j5⟩) ?_
 refine zj ?_
 obtain rfl:=sm h
 exact ⟨_,j0,[],ci j0,j0,j5,j0,j1⟩
def zgr (a:List UInt8) (b:List zc) (c:List (List UInt8×Int)):Option (Bool) :=
  (zcZ b c a).bind fun d=>some (!d.Interface)
theorem zjQ (a:List UInt8) (b:List zc) (c:List (List UInt8×Int)) {r:Bool} (h:zgr a b c=some r):zu Tryz.prog 183 [sA a,.ipt 1 [[.ipt 2 [[.isl 6 (List.map zb b),.imp (List.map (rKV (fun x=>iA x)) c)]] 0 0]] 0 0] (bA r):=by
 refine zn Tryz.func183 j0 (by kernel_rfl) j0 j0 ?_
 unfold zgr at h
 refine rg j0<|u<|asg j0<|za ?_
 obtain ⟨e,d,h⟩:=bs h
 refine rg j0<|u<|ld zez j0 j0<|u<|mv j0<|u<|pc (zcV b c a d) j0 j0 j0<|u<|fdV j0 j0<|u<|nt j0<|u<|asg j0<|za ?_
 refine zj ?_
 obtain rfl:=sm h
 exact ⟨_,j0,[],ci j0,j0,j5,j0,j1⟩
def zby:Option (Int) :=
  some (-1)
def zbz (b:List (List UInt8)) (c:List zc) (d:List (List UInt8×Int)) (a:Int):Option (Sum (Int) (Sum (Unit) (Int))) :=
  cond (decide (a < (List.length b:Int))) ((idx b a).bind fun e=>(zgr e c d).bind fun f=>cond f (some (.inr (.inr a))) (some (.inl (IntKind.i64.wrap (a+1))))) (some (.inr (.inl ())))
def zbY (a:List (List UInt8)) (c:List zc) (d:List (List UInt8×Int)):Option (Int) :=
  (zab (fun z=>zbz a c d z) 0).bind fun o=>zaJ o (fun b=>zby) some
theorem ze2 (a:List (List UInt8)) (c:List zc) (d:List (List UInt8×Int)) {r:Int} (h:zbY a c d=some r):zu Tryz.prog 181 [.isl 1 (List.map zi a),.fn (.func 183) [] [.ipt 1 [[.ipt 2 [[.isl 6 (List.map zb c),.imp (List.map (rKV (fun x=>iA x)) d)]] 0 0]] 0 0]] (iA r):=by
 refine zn Tryz.func181 j0 (by kernel_rfl) j0 j0 ?_
 unfold zbY at h
 refine rg j0<|u<|asg j0<|za ?_
 refine zl ?_
 refine rg j0<|u<|mv j0<|u<|lnI zM j0 j0<|u<|mv j0<|za ?_
 obtain ⟨o,ho,h⟩:=bs h
 refine zT (X:=Int) (B:=Unit) (R:=Int) (fun z=>[(0,.isl 1 (List.map zi a)),(1,.fn (.func 183) [] [.ipt 1 [[.ipt 2 [[.isl 6 (List.map zb c),.imp (List.map (rKV (fun x=>iA x)) d)]] 0 0]] 0 0]),(7,iA (List.length a:Int)),(8,iA z)]) (fun z=>[]) (fun b=>[]) (fun b=>[]) (fun r env st=>zaC Tryz.prog Tryz.f181 0 (iA r) [] env st) ho ⟨[],ce j0 j0<|ce j0 j0<|ce j0 j0<|ce j0 j0<|cn,j0,j5,j0,j1⟩ ?_ ?_ ?_
 ·
  rintro j r h
  replace h:zbz a c d j=some r:=h
  unfold zbz at h
  refine rg j0<|u<|lss ti3 j0 j0<|za ?_
  refine zl ?_
  refine zh j0 (fun e=>?_) (fun e=>?_)
  ·
   replace h:=bT e h
   refine zk ?_
   refine zl ?_
   refine zq ?_
   refine rg j0<|u<|mv j0<|u<|asg j0<|za ?_
   obtain ⟨l,i,h⟩:=bs h
   obtain ⟨n,m,h⟩:=bs h
   refine rg j0<|u<|mv j0<|u<|mv j0<|u<|mv j0<|u<|ixI zM j0 ti9 j0 j0 j0 i<|u<|ldI ti9 j0 (zp i).2.2 j0<|u<|pc (zjQ l c d m) j0 j0 j0<|za ?_
   refine zh j0 (fun f=>?_) (fun f=>?_)
   ·
    replace h:=bT f h
    refine rg j0<|u<|mv j0<|u<|asg j0<|za ?_
    refine zj ?_
    obtain rfl:=sm h
    exact ⟨_,j0,_,j0,[],ci j0,j0,j5,j0,j1⟩
   ·
    replace h:=bF f h
    refine zk ?_
    refine rl j0<|u<|add ti3 j0 j0<|u<|mv j0<|za ?_
    obtain rfl:=sm h
    exact ⟨_,j0,[],ce j0 j0<|ce j0 j0<|ce j0 j0<|ce j0 j0<|cn,j0,j5,j0,j1⟩
  ·
   replace h:=bF e h
   refine zz ?_
   obtain rfl:=sm h
   exact ⟨j0,_,j0,[],cn,j0,j5,j0,j1⟩
 ·
  rintro ⟨⟩ rfl
  replace h:zby=some r:=h
  unfold zby at h
  refine zv ?_
  refine rg j0<|u<|asg j0<|za ?_
  refine zj ?_
  obtain rfl:=sm h
  exact ⟨_,j0,[],ci j0,j0,j5,j0,j1⟩
 ·
  rintro r' rfl env st hp
  obtain rfl:=sm h
  exact hp
def zbn (a:List (List UInt8)) (b:List zc) (c:List (List UInt8×Int)):Option (Bool) :=
  (zbY a b c).bind fun d=>some (decide (0≤d))
theorem zer (a:List (List UInt8)) (b:List zc) (c:List (List UInt8×Int)) {r:Bool} (h:zbn a b c=some r):zu Tryz.prog 99 [.isl 1 (List.map zi a),.fn (.func 183) [] [.ipt 1 [[.ipt 2 [[.isl 6 (List.map zb b),.imp (List.map (rKV (fun x=>iA x)) c)]] 0 0]] 0 0]] (bA r):=by
 refine zn Tryz.func99 j0 (by kernel_rfl) j0 j0 ?_
 unfold zbn at h
 refine rg j0<|u<|asg j0<|za ?_
 obtain ⟨e,d,h⟩:=bs h
 refine rg j0<|u<|mv j0<|u<|mv j0<|u<|pc (ze2 a b c d) j0 j0 j0<|u<|geq ti3 j0 j0<|u<|asg j0<|za ?_
 refine zj ?_
 obtain rfl:=sm h
 exact ⟨_,j0,[],ci j0,j0,j5,j0,j1⟩
def zfF:Option (Bool) :=
  some true
def zfT (a:Int) (b:List (List UInt8)):Option (Sum ((List (List UInt8))×Int) (Sum (Unit) (Bool))) :=
  some (.inl (b,(IntKind.i64.wrap (a+1))))
def zdd (a:Int) (b:List (List UInt8)):Option (Sum ((List (List UInt8))×Int) (Sum ((List (List UInt8))) (Bool))) :=
  some (.inl (b,(IntKind.i64.wrap (a+1))))
def zfU (d:(List (List UInt8))) (a:List (List UInt8)) (b:Int):Option (Sum ((List (List UInt8))×Int) (Sum ((List (List UInt8))) (Bool))) :=
  cond (decide (b < ((List.length d):Int))) ((idx d b).bind fun c=>(cond (!(c == [])) ((zC a c).bind fun e=>some (!e)) (some false)).bind fun f=>cond f ((zjq 16 a [c]).bind fun i=>zdd b i) (zdd b a)) (some (.inr (.inl a)))
def zfV (j:List zc) (l:List (List UInt8×Int)) (m:zc) (a:List (List UInt8)) (c:Int):Option (Sum ((List (List UInt8))×Int) (Sum (Unit) (Bool))) :=
  cond (decide (c < ((List.length a):Int))) ((idx a c).bind fun d=>cond (d == m.Name) (some (.inr (.inr false))) ((idx a c).bind fun e=>(zcZ j l e).bind fun f=>(zhM f).bind fun i=>(zab (fun z=>zfU i z.1 z.2) (a,0)).bind fun o=>zaJ o (fun b=>zfT c b) (fun r=>some (.inr (.inr r))))) (some (.inr (.inl ())))
def zhu (c:List zc) (d:List (List UInt8×Int)) (a:zc):Option (Bool) :=
  (zcZ c d a.Super).bind fun e=>(cond e.Interface (some true) ((zbn a.Impl c d).bind fun f=>some f)).bind fun i=>cond i (some false) ((zhM a).bind fun j=>(zab (fun z=>zfV c d a z.1 z.2) (j,0)).bind fun o=>zaJ o (fun b=>zfF) some)
theorem zkY (e:List zc) (i:List (List UInt8×Int)) (d:zc) {r:Bool} (h:zhu e i d=some r):zu Tryz.prog 103 [.ipt 2 [[.isl 6 (List.map zb e),.imp (List.map (rKV (fun x=>iA x)) i)]] 0 0,.agg (zb d)] (bA r):=by
 refine zn Tryz.func103 j0 (by kernel_rfl) j0 j0 ?_
 unfold zhu at h
 refine rg j0<|u<|bx 0 1 j0 j0 j0 j0<|u<|bx 1 6 j0 j0 j0 j0<|u<|asg j0<|za ?_
 refine zl ?_
 obtain ⟨v4,Z,h⟩:=bs h
 obtain ⟨v6,F,h⟩:=bs h
 refine rg j0<|u<|ld zez j0 j0<|u<|fa zaf j0 j0 j0<|u<|ld ti9 j0 j0<|u<|pc (zcV e i d.Super Z) j0 j0 j0<|u<|fdV j0 j0<|u<|mv j0<|zfo (x:=v6) (j:=5) 4 j0 j0 j0 j0 j0 gpn (fun p=>by replace F:=bF p F; obtain ⟨v5,q3,F⟩:=bs F; obtain rfl:=sm F; exact g j0 p<|fa zaf j0 j0 j0<|g j0 p<|ld zM j0 j0<|g j0 p<|mf j0 j0<|g j0 p<|pcs (zer d.Impl e i q3) j0 j0 (.cons (si j0) (.cons (zdp j5 ⟨(zbe j0 ⟨(si j0),j5⟩),j5⟩) .nil)) zcq<|za (eg [15,16,17,18] 4 j0 j0 j0 j0)) (fun hb=>(sm (bT hb F)).symm)<|za ?_
 refine zh j0 (fun G=>?_) (fun G=>?_)
 ·
  replace h:=bT G h
  refine rg j0<|u<|asg j0<|za ?_
  refine zj ?_
  obtain rfl:=sm h
  exact ⟨_,j0,[],ci j0,j0,j5,j0,j1⟩
 ·
  replace h:=bF G h
  refine zk ?_
  obtain ⟨O,q6,h⟩:=bs h
  refine rg j0<|u<|ld zaf j0 j0<|u<|sc [] (zh5 d q6) j0 j0 j0 j0 ⟨(rnI j0),j5⟩ j5<|zB (env0:=[(2,.mpt 0 0 0),(3,.mpt 1 0 0),(21,.msl 2 0 (List.length O))]) (st0:=[some (1,[[.ipt 2 [[.isl 6 (List.map zb e),.imp (List.map (rKV (fun x=>iA x)) i)]] 0 0]]),some (6,[(zb d)]),some (1,List.map zi O)]) ⟨[.old 0,.old 1,.old 2],cv j0 (.mpt j0)<|cv j0 (.mpt j0)<|cv j0 (.msl j0)<|cn,j0,⟨⟨_,j0,zg ⟨ci j0,j5⟩⟩,⟨_,j0,zg (ciL j0)⟩,⟨_,j0,zd (fun _=>j0)⟩,j5⟩,j0,j1⟩<|u<|asg j0<|za ?_
  refine zl ?_
  refine rg j0<|u<|asg j0<|za ?_
  obtain ⟨o,ho,h⟩:=bs h
  refine zT (X:=(List (List UInt8))×Int) (B:=Unit) (R:=Bool) (fun z=>[(2,.mpt 0 0 0),(3,.mpt 1 0 0),(5,.msl 2 0 (List.length z.1)),(6,iA z.2)]) (fun z=>[some (1,[[.ipt 2 [[.isl 6 (List.map zb e),.imp (List.map (rKV (fun x=>iA x)) i)]] 0 0]]),some (6,[(zb d)]),some (1,List.map zi z.1)]) (fun b=>[]) (fun b=>[]) (fun r env st=>zaC Tryz.prog Tryz.f103 0 (bA r) [] env st) ho ⟨[.old 0,.old 1,.old 2],cv j0 (.mpt j0)<|cv j0 (.mpt j0)<|cv j0 (.msl j0)<|ce j0 j0<|cn,j0,⟨⟨_,j0,zg ⟨ci j0,j5⟩⟩,⟨_,j0,zg (ciL j0)⟩,⟨_,j0,zd (fun _=>j0)⟩,j5⟩,j0,j1⟩ ?_ ?_ ?_
  ·
   rintro ⟨l,c⟩ r h
   replace h:zfV e i d l c=some r:=h
   unfold zfV at h
   refine zl ?_
   refine rg j0<|u<|mv j0<|u<|mv j0<|u<|lnM zM j0 j0 j0<|u<|lss ti3 j0 j0<|za ?_
   refine zh j0 (fun q=>?_) (fun q=>?_)
   ·
    replace h:=bT q h
    refine zk ?_
    refine zl ?_
    refine zq ?_
    refine zl ?_
    obtain ⟨H,J,h⟩:=bs h
    refine rd [(2,.mpt 0 0 0),(3,.mpt 1 0 0),(5,.msl 2 0 (List.length l)),(6,iA c),(34,bA (H == d.Name))] [some (1,[[.ipt 2 [[.isl 6 (List.map zb e),.imp (List.map (rKV (fun x=>iA x)) i)]] 0 0]]),some (6,[(zb d)]),some (1,List.map zi l)] [] [6,5,4,3,2,1,0] [(34,bA (H == d.Name)),(33,sA d.Name),(32,.mpt 1 0 0),(31,sA H),(30,.mpt 2 (Int.toNat c) 0),(29,iA c),(28,.msl 2 0 (List.length l))] 0 (by kernel_rfl) (by kernel_rfl) j0 (by kernel_rfl) (dt0 ⟨(fun _=>pa j0 j0 j0 j0 (seq ti9 j0 j0<|j4)),(fun _=>pa j0 j0 j0 j0 (ld ti9 j0 j0<|j4)),(fun _=>pa j0 j0 j0 j0 (fa zaf j0 j0 j0<|j4)),(fun _=>pa j0 j0 j0 j0 (ldM ti9 j0 j0 (zp J).2.2 j0<|j4)),(fun _=>pa j0 j0 j0 j0 (ixM zM j0 ti9 j0 j0 j0 j0 J<|j4)),(fun _=>pa j0 j0 j0 j0 (mv j0<|j4)),(fun _=>pa j0 j0 j0 j0 (mv j0<|j4)),j5⟩ (by kernel_rfl) j0 ⟨[.old 0,.old 1,.old 2],cv j0 (.mpt j0)<|cv j0 (.mpt j0)<|cv j0 (.msl j0)<|ce j0 j0<|ce j0 j0<|cn,j0,⟨⟨_,j0,zg ⟨ci j0,j5⟩⟩,⟨_,j0,zg (ciL j0)⟩,⟨_,j0,zd (fun _=>j0)⟩,j5⟩,j0,j1⟩) ?_
    refine zh j0 (fun s=>?_) (fun s=>?_)
    ·
     replace h:=bT s h
     refine rg j0<|u<|asg j0<|za ?_
     refine zj ?_
     obtain rfl:=sm h
     exact ⟨_,j0,_,j0,[],ci j0,j0,j5,j0,j1⟩
    ·
     replace h:=bF s h
     refine zk ?_
     obtain ⟨K,D,h⟩:=bs h
     obtain ⟨L,P,h⟩:=bs h
     obtain ⟨a,Q,h⟩:=bs h
     refine rd [(2,.mpt 0 0 0),(3,.mpt 1 0 0),(5,.msl 2 0 (List.length l)),(6,iA c),(41,.msl 3 0 (List.length a)),(42,iA ((List.length a):Int)),(43,iA 0)] [some (1,[[.ipt 2 [[.isl 6 (List.map zb e),.imp (List.map (rKV (fun x=>iA x)) i)]] 0 0]]),some (6,[(zb d)]),some (1,List.map zi l),some (1,List.map zi a)] [6] [8,5,4,3,2,1,0] [(43,iA 0),(40,.agg (zb L)),(39,sA K),(38,.mpt 2 (Int.toNat c) 0),(37,iA c),(36,.msl 2 0 (List.length l)),(35,.ipt 2 [[.isl 6 (List.map zb e),.imp (List.map (rKV (fun x=>iA x)) i)]] 0 0)] 1 (by kernel_rfl) (by kernel_rfl) j0 (by kernel_rfl) (dtS ⟨(fun _=>pa j0 j0 j0 j0 (mv j0<|j4)),(fun _=>pa j0 j0 j0 j0 (pc (zcV e i K P) j0 j0 j0<|j4)),(fun _=>pa j0 j0 j0 j0 (ldM ti9 j0 j0 (zp D).2.2 j0<|j4)),(fun _=>pa j0 j0 j0 j0 (ixM zM j0 ti9 j0 j0 j0 j0 D<|j4)),(fun _=>pa j0 j0 j0 j0 (mv j0<|j4)),(fun _=>pa j0 j0 j0 j0 (mv j0<|j4)),(fun _=>pa j0 j0 j0 j0 (ld zez j0 j0<|j4)),j5⟩ (by kernel_rfl) j0 ⟨(fun _ _=>⟨_,j0,j0,sc [] (zh5 L Q) j0 j0 j0 j0 ⟨(rnI j0),j5⟩ j5<|⟨(.msl 3 0 (List.length a)),[7],[(42,iA ((List.length a):Int)),(41,.msl 3 0 (List.length a))],j0,j0,by kernel_rfl,j0,dt0 ⟨(fun _=>pa j0 j0 j0 j0 (lnM zM j0 j0 j0<|j4)),(fun _=>pa j0 j0 j0 j0 (mv j0<|j4)),(fun h=>by cases h),(fun _=>pa j0 j0 j0 j0 (ldM ti9 j0 j0 (zp D).2.2 j0<|j4)),(fun _=>pa j0 j0 j0 j0 (ixM zM j0 ti9 j0 j0 j0 j0 D<|j4)),(fun _=>pa j0 j0 j0 j0 (mv j0<|j4)),(fun _=>pa j0 j0 j0 j0 (mv j0<|j4)),(fun _=>pa j0 j0 j0 j0 (ld zez j0 j0<|j4)),j5⟩ (by kernel_rfl) j0 ⟨[.old 0,.old 1,.old 2,.old 3],cv j0 (.mpt j0)<|cv j0 (.mpt j0)<|cv j0 (.msl j0)<|ce j0 j0<|cv j0 (.msl j0)<|ce j0 j0<|ce j0 j0<|cn,j0,⟨⟨_,j0,zg ⟨ci j0,j5⟩⟩,⟨_,j0,zg (ciL j0)⟩,⟨_,j0,zd (fun _=>j0)⟩,⟨_,j0,zd (fun _=>j0)⟩,j5⟩,j0,j1⟩⟩⟩),j5⟩) ?_
     obtain ⟨o,ho,h⟩:=bs h
     refine zT (X:=(List (List UInt8))×Int) (B:=(List (List UInt8))) (R:=Bool) (fun z=>[(2,.mpt 0 0 0),(3,.mpt 1 0 0),(5,.msl 2 0 (List.length z.1)),(6,iA c),(41,.msl 3 0 (List.length a)),(42,iA ((List.length a):Int)),(43,iA z.2)]) (fun z=>[some (1,[[.ipt 2 [[.isl 6 (List.map zb e),.imp (List.map (rKV (fun x=>iA x)) i)]] 0 0]]),some (6,[(zb d)]),some (1,List.map zi z.1),some (1,List.map zi a)]) (fun b=>[(2,.mpt 0 0 0),(3,.mpt 1 0 0),(5,.msl 2 0 (List.length b)),(6,iA c)]) (fun b=>[some (1,[[.ipt 2 [[.isl 6 (List.map zb e),.imp (List.map (rKV (fun x=>iA x)) i)]] 0 0]]),some (6,[(zb d)]),some (1,List.map zi b)]) (fun r env st=>zaC Tryz.prog Tryz.f103 0 (bA r) [] env st) ho ⟨[.old 0,.old 1,.old 2,.old 3],cv j0 (.mpt j0)<|cv j0 (.mpt j0)<|cv j0 (.msl j0)<|ce j0 j0<|cv j0 (.msl j0)<|ce j0 j0<|ce j0 j0<|cn,j0,⟨⟨_,j0,zg ⟨ci j0,j5⟩⟩,⟨_,j0,zg (ciL j0)⟩,⟨_,j0,zd (fun _=>j0)⟩,⟨_,j0,zd (fun _=>j0)⟩,j5⟩,j0,j1⟩ ?_ ?_ ?_
     ·
      rintro ⟨I,E⟩ r h
      replace h:zfU a I E=some r:=h
      unfold zfU at h
      refine rg j0<|u<|lss ti3 j0 j0<|za ?_
      refine zl ?_
      refine zh j0 (fun v=>?_) (fun v=>?_)
      ·
       replace h:=bT v h
       refine zk ?_
       refine zcD (X:=(List (List UInt8))) (fun z=>[(2,.mpt 0 0 0),(3,.mpt 1 0 0),(5,.msl 2 0 (List.length z)),(6,iA c),(41,.msl 3 0 (List.length a)),(42,iA ((List.length a):Int)),(43,iA E)]) (fun z=>[some (1,[[.ipt 2 [[.isl 6 (List.map zb e),.imp (List.map (rKV (fun x=>iA x)) i)]] 0 0]]),some (6,[(zb d)]),some (1,List.map zi z),some (1,List.map zi a)]) (fun z=>zdd E z=some r) ?_ ?_
       ·
        refine zq ?_
        obtain ⟨M,N,h⟩:=bs h
        refine rg j0<|u<|ixM zM j0 ti9 j0 j0 j0 j0 N<|u<|ldM ti9 j0 j0 (zp N).2.2 j0<|u<|asg j0<|za ?_
        obtain ⟨S,n,h⟩:=bs h
        refine rg j0<|u<|mv j0<|u<|sne ti9 j0 j0<|u<|mv j0<|za7 (x:=S) (j:=2) 4 j0 j0 j0 j0 j0 gpn (fun m=>by replace n:=bT m n; obtain ⟨v45,T,n⟩:=bs n; obtain rfl:=sm n; exact g j0 m<|mv j0<|g j0 m<|mv j0<|g j0 m<|pcs (zI I M T) j0 j0 (.cons (zi5 j0 (fun _=>j0)) (.cons (si j0) .nil)) zcq<|g j0 m<|nt j0<|za (eg [50,51,52,53] 4 j0 j0 j0 j0)) (fun hb=>(sm (bF hb n)).symm)<|za ?_
        refine zh j0 (fun C=>?_) (fun C=>?_)
        ·
         replace h:=bT C h
         obtain ⟨U,V,h⟩:=bs h
         exact rl j0<|u<|mv j0<|u<|mv j0<|u<|bl 4 zM j0 ti9 j0 (by decide) (by decide) j0 j0 j0<|u<|apM 5 zM j0 ti9 j0 j0 (by decide) zM j0 j0 j0 j0 (roX (f:=zi) (z:=[M]) j0 j0) (fun _=>j0) j0 V<|u<|asg j0<|za (⟨U,h,[.old 0,.old 1,.old 5,.old 3],cv j0 (.mpt j0)<|cv j0 (.mpt j0)<|cv j0 (.msl j0)<|ce j0 j0<|cv j0 (.msl j0)<|ce j0 j0<|ce j0 j0<|cn,j0,⟨⟨_,j0,zg ⟨ci j0,j5⟩⟩,⟨_,j0,zg (ciL j0)⟩,⟨_,j0,zd (fun _=>j0)⟩,⟨_,j0,zd (fun _=>j0)⟩,j5⟩,j0,j1⟩)
        ·
         replace h:=bF C h
         refine zk ?_
         exact ⟨I,h,[.old 0,.old 1,.old 2,.old 3],cv j0 (.mpt j0)<|cv j0 (.mpt j0)<|cv j0 (.msl j0)<|ce j0 j0<|cv j0 (.msl j0)<|ce j0 j0<|ce j0 j0<|cn,j0,⟨⟨_,j0,zg ⟨ci j0,j5⟩⟩,⟨_,j0,zg (ciL j0)⟩,⟨_,j0,zd (fun _=>j0)⟩,⟨_,j0,zd (fun _=>j0)⟩,j5⟩,j0,j1⟩
       ·
        rintro W h
        replace h:zdd E W=some r:=h
        unfold zdd at h
        refine rl j0<|u<|add ti3 j0 j0<|u<|mv j0<|za ?_
        obtain rfl:=sm h
        exact ⟨_,j0,[.old 0,.old 1,.old 2,.old 3],cv j0 (.mpt j0)<|cv j0 (.mpt j0)<|cv j0 (.msl j0)<|ce j0 j0<|cv j0 (.msl j0)<|ce j0 j0<|ce j0 j0<|cn,j0,⟨⟨_,j0,zg ⟨ci j0,j5⟩⟩,⟨_,j0,zg (ciL j0)⟩,⟨_,j0,zd (fun _=>j0)⟩,⟨_,j0,zd (fun _=>j0)⟩,j5⟩,j0,j1⟩
      ·
       replace h:=bF v h
       refine zz ?_
       obtain rfl:=sm h
       exact ⟨j0,_,j0,[.old 0,.old 1,.old 2],cv j0 (.mpt j0)<|cv j0 (.mpt j0)<|cv j0 (.msl j0)<|ce j0 j0<|cn,j0,⟨⟨_,j0,zg ⟨ci j0,j5⟩⟩,⟨_,j0,zg (ciL j0)⟩,⟨_,j0,zd (fun _=>j0)⟩,j5⟩,j0,j1⟩
     ·
      rintro Y rfl
      replace h:zfT c Y=some r:=h
      unfold zfT at h
      refine zv ?_
      refine rl j0<|u<|mv j0<|u<|add ti3 j0 j0<|u<|asg j0<|za ?_
      obtain rfl:=sm h
      exact ⟨_,j0,[.old 0,.old 1,.old 2],cv j0 (.mpt j0)<|cv j0 (.mpt j0)<|cv j0 (.msl j0)<|ce j0 j0<|cn,j0,⟨⟨_,j0,zg ⟨ci j0,j5⟩⟩,⟨_,j0,zg (ciL j0)⟩,⟨_,j0,zd (fun _=>j0)⟩,j5⟩,j0,j1⟩
     ·
      rintro r' rfl env st hp
      obtain rfl:=sm h
      exact ⟨_,j0,hp⟩
   ·
    replace h:=bF q h
    refine zz ?_
    obtain rfl:=sm h
    exact ⟨j0,_,j0,[],cn,j0,j5,j0,j1⟩
  ·
   rintro ⟨⟩ rfl
   replace h:zfF=some r:=h
   unfold zfF at h
   refine zv ?_
   refine rg j0<|u<|asg j0<|za ?_
   refine zj ?_
   obtain rfl:=sm h
   exact ⟨_,j0,[],ci j0,j0,j5,j0,j1⟩
  ·
   rintro r' rfl env st hp
   obtain rfl:=sm h
   exact hp
def zjU (a:List zc) (b:List (List UInt8×Int)):Option ((Option zK)×Int) :=
  some ((some (zK.mk a b)),0)
def zjY (b:List zc) (c:List zc) (d:List (List UInt8×Int)) (a:Int):Option (Sum (Int) (Sum (Unit) ((Option zK)×Int))) :=
  cond (decide (a < (List.length b:Int))) ((idx b a).bind fun e=>(zhu c d e).bind fun f=>cond (!f) (some (.inr (.inr (none,1)))) (some (.inl (IntKind.i64.wrap (a+1))))) (some (.inr (.inl ())))
def zjT (d:List zc) (a:List zc) (c:List (List UInt8×Int)):Option ((Option zK)×Int) :=
  (zab (fun z=>zjY d a c z) 0).bind fun o=>zaJ o (fun b=>zjU a c) some
def zjX (b:List zc) (c:List zc) (d:List (List UInt8×Int)) (a:Int):Option (Sum (Int) (Sum (Unit) ((Option zK)×Int))) :=
  cond (decide (a < (List.length b:Int))) ((idx b a).bind fun e=>(zhM e).bind fun f=>(zbm f c d).bind fun i=>cond i (some (.inr (.inr (none,4)))) (some (.inl (IntKind.i64.wrap (a+1))))) (some (.inr (.inl ())))
def zjS (d:List zc) (a:List zc) (c:List (List UInt8×Int)):Option ((Option zK)×Int) :=
  (zab (fun z=>zjX d a c z) 0).bind fun o=>zaJ o (fun b=>zjT d a c) some
def zjW (e:List zc) (b:List zc) (c:List (List UInt8×Int)) (d:Int):Option (Sum ((List zc)×(List (List UInt8×Int))×Int) (Sum ((List zc)×(List (List UInt8×Int))) ((Option zK)×Int))) :=
  cond (decide (d < (List.length e:Int))) ((idx e d).bind fun a=>(cond (Option.isSome (zcP a.Name c)) (some true) ((zl0 a).bind fun f=>some (!f))).bind fun i=>cond i (some (.inr (.inr (none,1)))) ((zjq 112 b [a]).bind fun j=>some (.inl (j,(zhj a.Name ((List.length b):Int) c),(IntKind.i64.wrap (d+1)))))) (some (.inr (.inl (b,c))))
def zjR (a:List zc) (c:(List zc)) (d:List (List UInt8×Int)):Option ((Option zK)×Int) :=
  (zab (fun z=>zjW a z.1 z.2.1 z.2.2) (c,d,0)).bind fun o=>zaJ o (fun b=>zjS a b.1 b.2) some
def zjV (b:(List zc)) (c:List (List UInt8×Int)) (a:Int):Option (Sum ((List (List UInt8×Int))×Int) (Sum ((List (List UInt8×Int))) ((Option zK)×Int))) :=
  cond (decide (a < ((List.length b):Int))) ((idx b a).bind fun d=>some (.inl ((zhj d.Name a c),(IntKind.i64.wrap (a+1))))) (some (.inr (.inl c)))
def znn (a:List zc):Option ((Option zK)×Int) :=
  cond (decide (16 < (List.length a:Int))) (some (none,3)) ((zk0).bind fun c=>(zab (fun z=>zjV c z.1 z.2) ([],0)).bind fun o=>zaJ o (fun b=>zjR a c b) some)
theorem zoZ (a:List zc) {r:(Option zK)×Int} (h:znn a=some r):zu Tryz.prog 22 [.isl 6 (List.map zb a)] (.tup [zk8 2 zcG r.1,iA r.2]):=by
 refine zn Tryz.func22 j0 (by kernel_rfl) j0 (zs3 (zuH (znq (fun _=>j0)) (j0))) ?_
 unfold znn at h
 refine rg j0<|u<|asg j0<|u<|asg j0<|za ?_
 refine zl ?_
 refine rg j0<|u<|mv j0<|u<|lnI zjl j0 j0<|u<|gtr ti3 j0 j0<|za ?_
 refine zh j0 (fun L=>?_) (fun L=>?_)
 ·
  replace h:=bT L h
  refine rg j0<|u<|asg j0<|u<|asg j0<|za ?_
  refine zj ?_
  obtain rfl:=sm h
  exact ⟨_,j0,[],z8 ⟨(ci j0),(ci j0),j5⟩,j0,j5,j0,j1⟩
 ·
  replace h:=bF L h
  refine zk ?_
  obtain ⟨p,q2,h⟩:=bs h
  refine rg j0<|u<|sc [] (znp q2) j0 j0 j0 j0 j5 j5<|zB (env0:=[(0,.isl 6 (List.map zb a)),(18,.msl 0 0 (List.length p))]) (st0:=[some (6,List.map zb p)]) ⟨[.old 0],ce j0 j0<|cv j0 (.msl j0)<|cn,j0,⟨⟨_,j0,zd (fun _=>j0)⟩,j5⟩,j0,j1⟩<|u<|mmk (e:=3) 1 j0 j0<|u<|bd zkA j0 j0 j0<|u<|bx 2 2 j0 j0 j0 j0<|u<|al 3 zez j0<|u<|sto zez j0 j0 j0<|za ?_
  refine zl ?_
  refine rg j0<|u<|ld zez j0 j0<|u<|nc j0 j0<|u<|fa zkA j0 j0 j0<|u<|ld zjl j0 j0<|u<|lnM zjl j0 j0 j0<|u<|mv j0<|za ?_
  obtain ⟨o,ho,h⟩:=bs h
  refine zT (X:=(List (List UInt8×Int))×Int) (B:=(List (List UInt8×Int))) (R:=(Option zK)×Int) (fun z=>[(0,.isl 6 (List.map zb a)),(4,.mpt 0 0 0),(25,.msl 2 0 (List.length p)),(26,iA ((List.length p):Int)),(27,iA z.2)]) (fun z=>[some (1,[[.mpt 1 0 0]]),some (2,[[.msl 2 0 (List.length p),.mmp 3]]),some (6,List.map zb p),some (2,List.map (rKV (fun x=>iA x)) z.1)]) (fun b=>[(0,.isl 6 (List.map zb a)),(4,.mpt 0 0 0)]) (fun b=>[some (1,[[.mpt 1 0 0]]),some (2,[[.msl 2 0 (List.length p),.mmp 3]]),some (6,List.map zb p),some (2,List.map (rKV (fun x=>iA x)) b)]) (fun r env st=>zaC Tryz.prog Tryz.f22 0 (.tup [zk8 2 zcG r.1,iA r.2]) [] env st) ho ⟨[.old 3,.old 2,.old 0,.old 1],ce j0 j0<|cv j0 (.mpt j0)<|cv j0 (.msl j0)<|ce j0 j0<|ce j0 j0<|cn,j0,⟨⟨_,j0,zg ⟨.mpt j0,j5⟩⟩,⟨_,j0,zg ⟨.msl j0,.mmp j0,j5⟩⟩,⟨_,j0,zd (fun _=>j0)⟩,⟨_,j0,zd (fun _=>j0)⟩,j5⟩,j0,j1⟩ ?_ ?_ ?_
  ·
   rintro ⟨U,M⟩ r h
   replace h:zjV p U M=some r:=h
   unfold zjV at h
   refine rg j0<|u<|lss ti3 j0 j0<|za ?_
   refine zl ?_
   refine zh j0 (fun N=>?_) (fun N=>?_)
   ·
    replace h:=bT N h
    refine zk ?_
    refine zl ?_
    refine zq ?_
    obtain ⟨V,W,h⟩:=bs h
    refine rg j0<|u<|mv j0<|u<|ixM zjl j0 zaf j0 j0 j0 j0 W<|u<|ldM zaf j0 j0 (zp W).2.2 j0<|u<|al 4 zaf j0<|u<|asg j0<|u<|sto zaf j0 j0 j0<|za ?_
    refine rdL [(0,.isl 6 (List.map zb a)),(4,.mpt 0 0 0),(25,.msl 2 0 (List.length p)),(26,iA ((List.length p):Int)),(27,iA M)] [some (1,[[.mpt 1 0 0]]),some (2,[[.msl 2 0 (List.length p),.mmp 3]]),some (6,List.map zb p),some (2,List.map (rKV (fun x=>iA x)) (zhj V.Name M U))] [7] [6,5,4,3,2,1,0] [(38,iA M),(37,sA V.Name),(36,.mpt 4 0 0),(35,.mmp 3),(34,.mpt 1 0 1),(33,.mpt 1 0 0),(32,.mpt 1 0 0)] 1 (by kernel_rfl) (by kernel_rfl) j0 (by kernel_rfl) (dtS ⟨(fun _=>pa j0 j0 j0 j0 (mv j0<|j4)),(fun _=>pa j0 j0 j0 j0 (ld ti9 j0 j0<|j4)),(fun _=>pa j0 j0 j0 j0 (fa zaf j0 j0 j0<|j4)),(fun _=>pa j0 j0 j0 j0 (ld zrO j0 j0<|j4)),(fun _=>pa j0 j0 j0 j0 (fa zkA j0 j0 j0<|j4)),(fun _=>pa j0 j0 j0 j0 (nc j0 j0<|j4)),(fun _=>pa j0 j0 j0 j0 (ld zez j0 j0<|j4)),j5⟩ (by kernel_rfl) j0 ⟨(fun _ _=>⟨_,j0,j0,mup (v:=M) (g:=(fun x=>iA x)) (l:=U) (s:=V.Name) j0 j0 j0 j0 j0 j0<|⟨.any,[],[],j0,j0,by kernel_rfl,j5,dt0 ⟨(fun h=>by cases h),(fun h=>by cases h),(fun h=>by cases h),(fun h=>by cases h),(fun h=>by cases h),(fun h=>by cases h),(fun h=>by cases h),j5⟩ (by kernel_rfl) j0 ⟨[.old 0,.old 1,.old 2,.old 3],ce j0 j0<|cv j0 (.mpt j0)<|cv j0 (.msl j0)<|ce j0 j0<|ce j0 j0<|cn,j0,⟨⟨_,j0,zg ⟨.mpt j0,j5⟩⟩,⟨_,j0,zg ⟨.msl j0,.mmp j0,j5⟩⟩,⟨_,j0,zd (fun _=>j0)⟩,⟨_,j0,zd (fun _=>j0)⟩,j5⟩,j0,j1⟩⟩⟩),j5⟩) ?_
    refine rl j0<|u<|add ti3 j0 j0<|u<|mv j0<|za ?_
    obtain rfl:=sm h
    exact ⟨_,j0,[.old 0,.old 1,.old 2,.old 3],ce j0 j0<|cv j0 (.mpt j0)<|cv j0 (.msl j0)<|ce j0 j0<|ce j0 j0<|cn,j0,⟨⟨_,j0,zg ⟨.mpt j0,j5⟩⟩,⟨_,j0,zg ⟨.msl j0,.mmp j0,j5⟩⟩,⟨_,j0,zd (fun _=>j0)⟩,⟨_,j0,zd (fun _=>j0)⟩,j5⟩,j0,j1⟩
   ·
    replace h:=bF N h
    refine zz ?_
    obtain rfl:=sm h
    exact ⟨j0,_,j0,[.old 0,.old 1,.old 2,.old 3],ce j0 j0<|cv j0 (.mpt j0)<|cn,j0,⟨⟨_,j0,zg ⟨.mpt j0,j5⟩⟩,⟨_,j0,zg ⟨.msl j0,.mmp j0,j5⟩⟩,⟨_,j0,zd (fun _=>j0)⟩,⟨_,j0,zd (fun _=>j0)⟩,j5⟩,j0,j1⟩
  ·
   rintro v9 rfl
   replace h:zjR a p v9=some r:=h
   unfold zjR at h
   refine zv ?_
   refine zl ?_
   refine rg j0<|u<|mv j0<|u<|lnI zjl j0 j0<|u<|mv j0<|za ?_
   obtain ⟨o,ho,h⟩:=bs h
   refine zT (X:=(List zc)×(List (List UInt8×Int))×Int) (B:=(List zc)×(List (List UInt8×Int))) (R:=(Option zK)×Int) (fun z=>[(0,.isl 6 (List.map zb a)),(4,.mpt 0 0 0),(40,.isl 6 (List.map zb a)),(41,iA (List.length a:Int)),(42,iA z.2.2)]) (fun z=>[some (1,[[.mpt 1 0 0]]),some (2,[[.msl 2 0 (List.length z.1),.mmp 3]]),some (6,List.map zb z.1),some (2,List.map (rKV (fun x=>iA x)) z.2.1)]) (fun b=>[(0,.isl 6 (List.map zb a)),(4,.mpt 0 0 0)]) (fun b=>[some (1,[[.mpt 1 0 0]]),some (2,[[.msl 2 0 (List.length b.1),.mmp 3]]),some (6,List.map zb b.1),some (2,List.map (rKV (fun x=>iA x)) b.2)]) (fun r env st=>zaC Tryz.prog Tryz.f22 0 (.tup [zk8 2 zcG r.1,iA r.2]) [] env st) ho ⟨[.old 0,.old 1,.old 2,.old 3],ce j0 j0<|cv j0 (.mpt j0)<|ce j0 j0<|ce j0 j0<|ce j0 j0<|cn,j0,⟨⟨_,j0,zg ⟨.mpt j0,j5⟩⟩,⟨_,j0,zg ⟨.msl j0,.mmp j0,j5⟩⟩,⟨_,j0,zd (fun _=>j0)⟩,⟨_,j0,zd (fun _=>j0)⟩,j5⟩,j0,j1⟩ ?_ ?_ ?_
   ·
    rintro ⟨n,i,J⟩ r h
    replace h:zjW a n i J=some r:=h
    unfold zjW at h
    refine rg j0<|u<|lss ti3 j0 j0<|za ?_
    refine zl ?_
    refine zh j0 (fun D=>?_) (fun D=>?_)
    ·
     replace h:=bT D h
     refine zk ?_
     refine zl ?_
     refine zq ?_
     obtain ⟨c,P,h⟩:=bs h
     refine rg j0<|u<|ixI zjl j0 zaf j0 j0 j0 P<|u<|ldI zaf j0 (zp P).2.2 j0<|u<|al 4 zaf j0<|u<|sto zaf j0 j0 j0<|za ?_
     refine zl ?_
     refine rd [(0,.isl 6 (List.map zb a)),(4,.mpt 0 0 0),(8,.mpt 4 0 0),(10,bA (Option.isSome (zcP c.Name i))),(40,.isl 6 (List.map zb a)),(41,iA (List.length a:Int)),(42,iA J)] [some (1,[[.mpt 1 0 0]]),some (2,[[.msl 2 0 (List.length n),.mmp 3]]),some (6,List.map zb n),some (2,List.map (rKV (fun x=>iA x)) i),some (6,[(zb c)])] [] [11,10,9,8,7,6,5,4,3,2,1,0] [(10,bA (Option.isSome (zcP c.Name i))),(9,iA (Option.getD (zcP c.Name i) 0)),(55,bA (Option.isSome (zcP c.Name i))),(54,iA (Option.getD (zcP c.Name i) 0)),(46,.tup [iA (Option.getD (zcP c.Name i) 0),bA (Option.isSome (zcP c.Name i))]),(53,.tup [iA (Option.getD (zcP c.Name i) 0),bA (Option.isSome (zcP c.Name i))]),(52,sA c.Name),(51,.mpt 4 0 0),(50,.mmp 3),(49,.mpt 1 0 1),(48,.mpt 1 0 0),(47,.mpt 1 0 0)] 0 (by kernel_rfl) (by kernel_rfl) j0 (by kernel_rfl) (dt0 ⟨(fun _=>pa j0 j0 j0 j0 (asg j0<|j4)),(fun _=>pa j0 j0 j0 j0 (asg j0<|j4)),(fun _=>pa j0 j0 j0 j0 (ex j0 j0<|j4)),(fun _=>pa j0 j0 j0 j0 (ex j0 j0<|j4)),(fun _=>pa j0 j0 j0 j0 (mv j0<|j4)),(fun _=>pa j0 j0 j0 j0 (zwe (g:=(fun x=>iA x)) (z:=0) (l:=i) j0 ti3 j0 j0 j0 j0<|j4)),(fun _=>pa j0 j0 j0 j0 (ld ti9 j0 j0<|j4)),(fun _=>pa j0 j0 j0 j0 (fa zaf j0 j0 j0<|j4)),(fun _=>pa j0 j0 j0 j0 (ld zrO j0 j0<|j4)),(fun _=>pa j0 j0 j0 j0 (fa zkA j0 j0 j0<|j4)),(fun _=>pa j0 j0 j0 j0 (nc j0 j0<|j4)),(fun _=>pa j0 j0 j0 j0 (ld zez j0 j0<|j4)),j5⟩ (by kernel_rfl) j0 ⟨[.old 0,.old 1,.old 2,.old 3,.old 4],ce j0 j0<|cv j0 (.mpt j0)<|cv j0 (.mpt j0)<|ce j0 j0<|ce j0 j0<|ce j0 j0<|ce j0 j0<|cn,j0,⟨⟨_,j0,zg ⟨.mpt j0,j5⟩⟩,⟨_,j0,zg ⟨.msl j0,.mmp j0,j5⟩⟩,⟨_,j0,zd (fun _=>j0)⟩,⟨_,j0,zd (fun _=>j0)⟩,⟨_,j0,zg (ciL j0)⟩,j5⟩,j0,j1⟩) ?_
     obtain ⟨Y,q,h⟩:=bs h
     refine rg j0<|u<|mv j0<|u<|mv j0<|zfo (x:=Y) (j:=1) 3 j0 j0 j0 j0 j0 gpn (fun C=>by replace q:=bF C q; obtain ⟨v21,Z,q⟩:=bs q; obtain rfl:=sm q; exact g j0 C<|ld zaf j0 j0<|g j0 C<|pc (zod c Z) j0 j0 j0<|g j0 C<|nt j0<|za (eg [58,59,60] 3 j0 j0 j0 j0)) (fun hb=>(sm (bT hb q)).symm)<|za ?_
     refine zh j0 (fun E=>?_) (fun E=>?_)
     ·
      replace h:=bT E h
      refine rg j0<|u<|asg j0<|u<|asg j0<|za ?_
      refine zj ?_
      obtain rfl:=sm h
      exact ⟨_,j0,_,j0,[],z8 ⟨(ci j0),(ci j0),j5⟩,j0,j5,j0,j1⟩
     ·
      replace h:=bF E h
      refine zk ?_
      refine rd [(0,.isl 6 (List.map zb a)),(4,.mpt 0 0 0),(8,.mpt 4 0 0),(40,.isl 6 (List.map zb a)),(41,iA (List.length a:Int)),(42,iA J)] [some (1,[[.mpt 1 0 0]]),some (2,[[.msl 2 0 (List.length n),.mmp 3]]),some (6,List.map zb n),some (2,List.map (rKV (fun x=>iA x)) (zhj c.Name ((List.length n):Int) i)),some (6,[(zb c)])] [11] [10,9,8,7,6,5,4,3,2,1,0] [(72,iA ((List.length n):Int)),(71,.msl 2 0 (List.length n)),(70,.mpt 1 0 0),(69,.mpt 1 0 0),(68,.mpt 1 0 0),(67,sA c.Name),(66,.mpt 4 0 0),(65,.mmp 3),(64,.mpt 1 0 1),(63,.mpt 1 0 0),(62,.mpt 1 0 0)] 1 (by kernel_rfl) (by kernel_rfl) j0 (by kernel_rfl) (dtS ⟨(fun _=>pa j0 j0 j0 j0 (lnM zjl j0 j0 j0<|j4)),(fun _=>pa j0 j0 j0 j0 (ld zjl j0 j0<|j4)),(fun _=>pa j0 j0 j0 j0 (fa zkA j0 j0 j0<|j4)),(fun _=>pa j0 j0 j0 j0 (nc j0 j0<|j4)),(fun _=>pa j0 j0 j0 j0 (ld zez j0 j0<|j4)),(fun _=>pa j0 j0 j0 j0 (ld ti9 j0 j0<|j4)),(fun _=>pa j0 j0 j0 j0 (fa zaf j0 j0 j0<|j4)),(fun _=>pa j0 j0 j0 j0 (ld zrO j0 j0<|j4)),(fun _=>pa j0 j0 j0 j0 (fa zkA j0 j0 j0<|j4)),(fun _=>pa j0 j0 j0 j0 (nc j0 j0<|j4)),(fun _=>pa j0 j0 j0 j0 (ld zez j0 j0<|j4)),j5⟩ (by kernel_rfl) j0 ⟨(fun _ _=>⟨_,j0,j0,mup (v:=((List.length n):Int)) (g:=(fun x=>iA x)) (l:=i) (s:=c.Name) j0 j0 j0 j0 j0 j0<|⟨.any,[],[],j0,j0,by kernel_rfl,j5,dt0 ⟨(fun h=>by cases h),(fun h=>by cases h),(fun h=>by cases h),(fun h=>by cases h),(fun h=>by cases h),(fun h=>by cases h),(fun h=>by cases h),(fun h=>by cases h),(fun h=>by cases h),(fun h=>by cases h),(fun h=>by cases h),j5⟩ (by kernel_rfl) j0 ⟨[.old 0,.old 1,.old 2,.old 3,.old 4],ce j0 j0<|cv j0 (.mpt j0)<|cv j0 (.mpt j0)<|ce j0 j0<|ce j0 j0<|ce j0 j0<|cn,j0,⟨⟨_,j0,zg ⟨.mpt j0,j5⟩⟩,⟨_,j0,zg ⟨.msl j0,.mmp j0,j5⟩⟩,⟨_,j0,zd (fun _=>j0)⟩,⟨_,j0,zd (fun _=>j0)⟩,⟨_,j0,zg (ciL j0)⟩,j5⟩,j0,j1⟩⟩⟩),j5⟩) ?_
      obtain ⟨K,q20,h⟩:=bs h
      refine rdL [(0,.isl 6 (List.map zb a)),(4,.mpt 0 0 0),(40,.isl 6 (List.map zb a)),(41,iA (List.length a:Int)),(42,iA J)] [some (1,[[.mpt 1 0 0]]),some (2,[[.msl 2 0 (List.length K),.mmp 3]]),some (6,List.map zb K),some (2,List.map (rKV (fun x=>iA x)) (zhj c.Name ((List.length n):Int) i))] [6,7,10] [5,4,3,2,1,0] [(78,.agg (zb c)),(77,.msl 2 0 (List.length n)),(76,.mpt 1 0 0),(75,.mpt 1 0 0),(74,.mpt 1 0 0),(73,.mpt 1 0 0)] 3 (by kernel_rfl) (by kernel_rfl) j0 (by kernel_rfl) (dtS ⟨(fun _=>pa j0 j0 j0 j0 (ld zaf j0 j0<|j4)),(fun _=>pa j0 j0 j0 j0 (ld zjl j0 j0<|j4)),(fun _=>pa j0 j0 j0 j0 (fa zkA j0 j0 j0<|j4)),(fun _=>pa j0 j0 j0 j0 (nc j0 j0<|j4)),(fun _=>pa j0 j0 j0 j0 (ld zez j0 j0<|j4)),(fun _=>pa j0 j0 j0 j0 (ld zez j0 j0<|j4)),j5⟩ (by kernel_rfl) j0 ⟨(fun _ _=>⟨_,j0,j0,bl 5 zjl j0 zaf j0 (by decide) (by decide) j0 j0 j0<|⟨(.msl 5 0 1),[],[(79,.msl 5 0 1)],j0,j0,by kernel_rfl,j0,dtS ⟨(fun h=>by cases h),(fun _=>pa j0 j0 j0 j0 (ld zjl j0 j0<|j4)),(fun _=>pa j0 j0 j0 j0 (fa zkA j0 j0 j0<|j4)),(fun _=>pa j0 j0 j0 j0 (nc j0 j0<|j4)),(fun _=>pa j0 j0 j0 j0 (ld zez j0 j0<|j4)),(fun _=>pa j0 j0 j0 j0 (ld zez j0 j0<|j4)),j5⟩ (by kernel_rfl) j0 ⟨(fun h=>by cases h),(fun _ _=>⟨_,j0,j0,apM 6 zjl j0 zaf j0 j0 (by decide) zjl j0 j0 j0 j0 (roX (f:=zb) (z:=[c]) j0 j0) (fun _=>j0) j0 q20<|⟨(.msl 6 0 (List.length K)),[9,8],[(82,.mpt 1 0 0),(81,.mpt 1 0 0),(80,.msl 6 0 (List.length K))],j0,j0,by kernel_rfl,j0,dtS ⟨(fun _=>pa j0 j0 j0 j0 (fa zkA j0 j0 j0<|j4)),(fun _=>pa j0 j0 j0 j0 (nc j0 j0<|j4)),(fun h=>by cases h),(fun h=>by cases h),(fun _=>pa j0 j0 j0 j0 (fa zkA j0 j0 j0<|j4)),(fun _=>pa j0 j0 j0 j0 (nc j0 j0<|j4)),(fun _=>pa j0 j0 j0 j0 (ld zez j0 j0<|j4)),(fun _=>pa j0 j0 j0 j0 (ld zez j0 j0<|j4)),j5⟩ (by kernel_rfl) j0 ⟨(fun h=>by cases h),(fun h=>by cases h),(fun _ _=>⟨_,j0,j0,sto zjl j0 j0 j0<|⟨.any,[],[],j0,j0,by kernel_rfl,j5,dt0 ⟨(fun h=>by cases h),(fun _=>pa j0 j0 j0 j0 (nc j0 j0<|j4)),(fun h=>by cases h),(fun h=>by cases h),(fun h=>by cases h),(fun h=>by cases h),(fun h=>by cases h),(fun h=>by cases h),j5⟩ (by kernel_rfl) j0 ⟨[.old 0,.old 1,.old 6,.old 3],ce j0 j0<|cv j0 (.mpt j0)<|ce j0 j0<|ce j0 j0<|ce j0 j0<|cn,j0,⟨⟨_,j0,zg ⟨.mpt j0,j5⟩⟩,⟨_,j0,zg ⟨.msl j0,.mmp j0,j5⟩⟩,⟨_,j0,zd (fun _=>j0)⟩,⟨_,j0,zd (fun _=>j0)⟩,j5⟩,j0,j1⟩⟩⟩),j5⟩⟩⟩),(fun _ h=>by cases h),j5⟩⟩⟩),(fun _ h=>by cases h),(fun _ h=>by cases h),j5⟩) ?_
      refine rl j0<|u<|add ti3 j0 j0<|u<|mv j0<|za ?_
      obtain rfl:=sm h
      exact ⟨_,j0,[.old 0,.old 1,.old 2,.old 3],ce j0 j0<|cv j0 (.mpt j0)<|ce j0 j0<|ce j0 j0<|ce j0 j0<|cn,j0,⟨⟨_,j0,zg ⟨.mpt j0,j5⟩⟩,⟨_,j0,zg ⟨.msl j0,.mmp j0,j5⟩⟩,⟨_,j0,zd (fun _=>j0)⟩,⟨_,j0,zd (fun _=>j0)⟩,j5⟩,j0,j1⟩
    ·
     replace h:=bF D h
     refine zz ?_
     obtain rfl:=sm h
     exact ⟨j0,_,j0,[.old 0,.old 1,.old 2,.old 3],ce j0 j0<|cv j0 (.mpt j0)<|cn,j0,⟨⟨_,j0,zg ⟨.mpt j0,j5⟩⟩,⟨_,j0,zg ⟨.msl j0,.mmp j0,j5⟩⟩,⟨_,j0,zd (fun _=>j0)⟩,⟨_,j0,zd (fun _=>j0)⟩,j5⟩,j0,j1⟩
   ·
    rintro ⟨d,m⟩ rfl
    replace h:zjS a d m=some r:=h
    unfold zjS at h
    refine zv ?_
    refine zl ?_
    refine rg j0<|u<|mv j0<|u<|lnI zjl j0 j0<|u<|mv j0<|za ?_
    obtain ⟨o,ho,h⟩:=bs h
    refine zT (X:=Int) (B:=Unit) (R:=(Option zK)×Int) (fun z=>[(0,.isl 6 (List.map zb a)),(4,.mpt 0 0 0),(84,.isl 6 (List.map zb a)),(85,iA (List.length a:Int)),(86,iA z)]) (fun z=>[some (1,[[.mpt 1 0 0]]),some (2,[[.msl 2 0 (List.length d),.mmp 3]]),some (6,List.map zb d),some (2,List.map (rKV (fun x=>iA x)) m)]) (fun b=>[(0,.isl 6 (List.map zb a)),(4,.mpt 0 0 0)]) (fun b=>[some (1,[[.mpt 1 0 0]]),some (2,[[.msl 2 0 (List.length d),.mmp 3]]),some (6,List.map zb d),some (2,List.map (rKV (fun x=>iA x)) m)]) (fun r env st=>zaC Tryz.prog Tryz.f22 0 (.tup [zk8 2 zcG r.1,iA r.2]) [] env st) ho ⟨[.old 0,.old 1,.old 2,.old 3],ce j0 j0<|cv j0 (.mpt j0)<|ce j0 j0<|ce j0 j0<|ce j0 j0<|cn,j0,⟨⟨_,j0,zg ⟨.mpt j0,j5⟩⟩,⟨_,j0,zg ⟨.msl j0,.mmp j0,j5⟩⟩,⟨_,j0,zd (fun _=>j0)⟩,⟨_,j0,zd (fun _=>j0)⟩,j5⟩,j0,j1⟩ ?_ ?_ ?_
    ·
     rintro Q r h
     replace h:zjX a d m Q=some r:=h
     unfold zjX at h
     refine rg j0<|u<|lss ti3 j0 j0<|za ?_
     refine zl ?_
     refine zh j0 (fun F=>?_) (fun F=>?_)
     ·
      replace h:=bT F h
      refine zk ?_
      refine zl ?_
      refine zq ?_
      obtain ⟨v31,S,h⟩:=bs h
      refine rg j0<|u<|ixI zjl j0 zaf j0 j0 j0 S<|u<|ldI zaf j0 (zp S).2.2 j0<|u<|al 4 zaf j0<|u<|sto zaf j0 j0 j0<|za ?_
      obtain ⟨O,q28,h⟩:=bs h
      obtain ⟨v33,q29,h⟩:=bs h
      refine rg j0<|u<|ld zaf j0 j0<|u<|sc [] (zh5 v31 q28) j0 j0 j0 j0 ⟨(rnI j0),j5⟩ j5<|zB (env0:=[(0,.isl 6 (List.map zb a)),(4,.mpt 0 0 0),(84,.isl 6 (List.map zb a)),(85,iA (List.length a:Int)),(86,iA Q),(91,.msl 4 0 (List.length O))]) (st0:=[some (1,[[.mpt 1 0 0]]),some (2,[[.msl 2 0 (List.length d),.mmp 3]]),some (6,List.map zb d),some (2,List.map (rKV (fun x=>iA x)) m),some (1,List.map zi O)]) ⟨[.old 0,.old 1,.old 2,.old 3,.old 5],ce j0 j0<|cv j0 (.mpt j0)<|ce j0 j0<|ce j0 j0<|ce j0 j0<|cv j0 (.msl j0)<|cn,j0,⟨⟨_,j0,zg ⟨.mpt j0,j5⟩⟩,⟨_,j0,zg ⟨.msl j0,.mmp j0,j5⟩⟩,⟨_,j0,zd (fun _=>j0)⟩,⟨_,j0,zd (fun _=>j0)⟩,⟨_,j0,zd (fun _=>j0)⟩,j5⟩,j0,j1⟩<|u<|mf j0 j0<|u<|pcs (zeq O d m q29) j0 j0 (.cons (zi5 j0 (fun _=>j0)) (.cons (zdp j5 ⟨(zbe j0 ⟨(zbe j0 ⟨(zi5 j0 (fun _=>j0)),(zrH j0 (fun _=>j0)),j5⟩),j5⟩),j5⟩) .nil)) zcq<|za ?_
      refine zh j0 (fun G=>?_) (fun G=>?_)
      ·
       replace h:=bT G h
       refine rg j0<|u<|asg j0<|u<|asg j0<|za ?_
       refine zj ?_
       obtain rfl:=sm h
       exact ⟨_,j0,_,j0,[],z8 ⟨(ci j0),(ci j0),j5⟩,j0,j5,j0,j1⟩
      ·
       replace h:=bF G h
       refine zk ?_
       refine rl j0<|u<|add ti3 j0 j0<|u<|mv j0<|za ?_
       obtain rfl:=sm h
       exact ⟨_,j0,[.old 0,.old 1,.old 2,.old 3],ce j0 j0<|cv j0 (.mpt j0)<|ce j0 j0<|ce j0 j0<|ce j0 j0<|cn,j0,⟨⟨_,j0,zg ⟨.mpt j0,j5⟩⟩,⟨_,j0,zg ⟨.msl j0,.mmp j0,j5⟩⟩,⟨_,j0,zd (fun _=>j0)⟩,⟨_,j0,zd (fun _=>j0)⟩,j5⟩,j0,j1⟩
     ·
      replace h:=bF F h
      refine zz ?_
      obtain rfl:=sm h
      exact ⟨j0,_,j0,[.old 0,.old 1,.old 2,.old 3],ce j0 j0<|cv j0 (.mpt j0)<|cn,j0,⟨⟨_,j0,zg ⟨.mpt j0,j5⟩⟩,⟨_,j0,zg ⟨.msl j0,.mmp j0,j5⟩⟩,⟨_,j0,zd (fun _=>j0)⟩,⟨_,j0,zd (fun _=>j0)⟩,j5⟩,j0,j1⟩
    ·
     rintro ⟨⟩ rfl
     replace h:zjT a d m=some r:=h
     unfold zjT at h
     refine zv ?_
     refine zl ?_
     refine rg j0<|u<|mv j0<|u<|lnI zjl j0 j0<|u<|mv j0<|za ?_
     obtain ⟨o,ho,h⟩:=bs h
     refine zT (X:=Int) (B:=Unit) (R:=(Option zK)×Int) (fun z=>[(4,.mpt 0 0 0),(95,.isl 6 (List.map zb a)),(96,iA (List.length a:Int)),(97,iA z)]) (fun z=>[some (1,[[.mpt 1 0 0]]),some (2,[[.msl 2 0 (List.length d),.mmp 3]]),some (6,List.map zb d),some (2,List.map (rKV (fun x=>iA x)) m)]) (fun b=>[(4,.mpt 0 0 0)]) (fun b=>[some (1,[[.mpt 1 0 0]]),some (2,[[.msl 2 0 (List.length d),.mmp 3]]),some (6,List.map zb d),some (2,List.map (rKV (fun x=>iA x)) m)]) (fun r env st=>zaC Tryz.prog Tryz.f22 0 (.tup [zk8 2 zcG r.1,iA r.2]) [] env st) ho ⟨[.old 0,.old 1,.old 2,.old 3],cv j0 (.mpt j0)<|ce j0 j0<|ce j0 j0<|ce j0 j0<|cn,j0,⟨⟨_,j0,zg ⟨.mpt j0,j5⟩⟩,⟨_,j0,zg ⟨.msl j0,.mmp j0,j5⟩⟩,⟨_,j0,zd (fun _=>j0)⟩,⟨_,j0,zd (fun _=>j0)⟩,j5⟩,j0,j1⟩ ?_ ?_ ?_
     ·
      rintro v37 r h
      replace h:zjY a d m v37=some r:=h
      unfold zjY at h
      refine rg j0<|u<|lss ti3 j0 j0<|za ?_
      refine zl ?_
      refine zh j0 (fun H=>?_) (fun H=>?_)
      ·
       replace h:=bT H h
       refine zk ?_
       refine zl ?_
       refine zq ?_
       obtain ⟨v38,T,h⟩:=bs h
       refine rg j0<|u<|ixI zjl j0 zaf j0 j0 j0 T<|u<|ldI zaf j0 (zp T).2.2 j0<|u<|al 4 zaf j0<|u<|sto zaf j0 j0 j0<|za ?_
       obtain ⟨v39,q37,h⟩:=bs h
       refine rg j0<|u<|ld zez j0 j0<|u<|ld zaf j0 j0<|u<|pcs (zkY d m v38 q37) j0 j0 (.cons (zbe j0 ⟨(zi5 j0 (fun _=>j0)),(zrH j0 (fun _=>j0)),j5⟩) (.cons (si j0) .nil)) zcq<|u<|nt j0<|za ?_
       refine zh j0 (fun I=>?_) (fun I=>?_)
       ·
        replace h:=bT I h
        refine rg j0<|u<|asg j0<|u<|asg j0<|za ?_
        refine zj ?_
        obtain rfl:=sm h
        exact ⟨_,j0,_,j0,[],z8 ⟨(ci j0),(ci j0),j5⟩,j0,j5,j0,j1⟩
       ·
        replace h:=bF I h
        refine zk ?_
        refine rl j0<|u<|add ti3 j0 j0<|u<|mv j0<|za ?_
        obtain rfl:=sm h
        exact ⟨_,j0,[.old 0,.old 1,.old 2,.old 3],cv j0 (.mpt j0)<|ce j0 j0<|ce j0 j0<|ce j0 j0<|cn,j0,⟨⟨_,j0,zg ⟨.mpt j0,j5⟩⟩,⟨_,j0,zg ⟨.msl j0,.mmp j0,j5⟩⟩,⟨_,j0,zd (fun _=>j0)⟩,⟨_,j0,zd (fun _=>j0)⟩,j5⟩,j0,j1⟩
      ·
       replace h:=bF H h
       refine zz ?_
       obtain rfl:=sm h
       exact ⟨j0,_,j0,[.old 0,.old 1,.old 2,.old 3],cv j0 (.mpt j0)<|cn,j0,⟨⟨_,j0,zg ⟨.mpt j0,j5⟩⟩,⟨_,j0,zg ⟨.msl j0,.mmp j0,j5⟩⟩,⟨_,j0,zd (fun _=>j0)⟩,⟨_,j0,zd (fun _=>j0)⟩,j5⟩,j0,j1⟩
     ·
      rintro ⟨⟩ rfl
      replace h:zjU d m=some r:=h
      unfold zjU at h
      refine zv ?_
      refine rg j0<|u<|ld zez j0 j0<|u<|asg j0<|u<|asg j0<|za ?_
      refine zj ?_
      obtain rfl:=sm h
      exact ⟨_,j0,[],z8 ⟨(rsP j0 j0 ⟨(zjy j0 j0 (fun _=>j0)),(zrF j0 j0 (fun _=>j0)),j5⟩ j0),(ci j0),j5⟩,j0,j5,j0,j1⟩
     ·
      rintro r' rfl env st hp
      obtain rfl:=sm h
      exact hp
    ·
     rintro r' rfl env st hp
     obtain rfl:=sm h
     exact hp
   ·
    rintro r' rfl env st hp
    obtain rfl:=sm h
    exact hp
  ·
   rintro r' rfl env st hp
   obtain rfl:=sm h
   exact hp
end
end Go.Proofs.YthmnlfenkhmmhaaGreat
