/- LayoutBelow: for every input the law returns true, and each argument reads as it read before. No further condition. Part 6 of 7. -/
import Derived.Test.YthmnlfenkhmmhaaGreatTb5
namespace Go.Proofs.YthmnlfenkhmmhaaGreat
noncomputable section
open List (length map)
set_option linter.unusedSimpArgs false
set_option linter.unusedVariables false
def brk:Tx→Bool
 | []=>false
 |x :: _=>x == 91
def ess(s:Tx):Tx:=zfE (zfE s)
theorem zmd{s:Tx}(h:brk s=false):zfE s=s:=by
 cases s with
 |nil=>rfl
 |cons x r =>
  rw [zgD,if_neg]
  intro e
  subst e
  cases h
theorem zjz{s:Tx}(h:brk s=true):zfE s=s.drop 1∧s=91 ::s.drop 1:=by
 cases s with
 |nil=>cases h
 |cons x r =>
  have:x=91:=by simpa [brk] using h
  subst this
  exact ⟨rfl,rfl⟩
theorem zjO{s:Tx}(h:zcQ s=true):brk s=false:=by
 cases s with
 |nil=>rfl
 |cons x r =>
  cases hb:(x == 91) with
  |false=>exact hb
  |true =>
   have:x=91:=by simpa using hb
   subst this
   unfold zcQ at h
   rw [Bool.and_eq_true] at h
   have h2:zef 91=true:=h.2
   exact absurd h2 (by decide +kernel)
theorem zzV{s:Tx}(h:zcQ s=true):(s == [73])=false:=by
 cases hb:(s == [73]) with
 |false=>rfl
 |true =>
  have:s=[73]:=by simpa using hb
  subst this
  unfold zcQ at h
  simp at h
theorem zn8{s:Tx}(h:zcQ s=true):zfU s=true:=by
 unfold zfU
 rw [zmd (zjO h),zmd (zjO h),h,Bool.or_true]
theorem zB6{s:Tx}(h:zfU s=true):brk (ess s)=false:=by
 unfold zfU at h
 rw [Bool.or_eq_true] at h
 rcases h with h |h
 ·unfold ess;rw [eq_of_beq h];rfl
 ·exact zjO h
theorem zo1{s:Tx}(h:zfU s=true)(hb:brk s=true):zfU (s.drop 1)=true∧ess (s.drop 1)=ess s:=by
 obtain ⟨h1,h2⟩:=zjz hb
 have h3:=zB6 h
 have e:zfE (zfE (s.drop 1))=zfE (zfE s):=by
  rw [h1]
  exact zmd (show brk (zfE (s.drop 1))=false from by rw [←h1];exact h3)
 exact ⟨by unfold zfU at h ⊢;rw [e];exact h,e⟩
theorem zpk{s:Tx}(hb:brk s=false):ess s=s:=by unfold ess;rw [zmd hb,zmd hb]
theorem zxQ:giv.all (fun c=>zcQ c.Name)=true:=by decide +kernel
def zze(L:List za)(t:Tx):Bool:=(ess t == [73])||zdL L (ess t)
def thN(L:List za)(t:Tx):Bool:=zfU t&&zze L t
section
variable {l L : List za} {m : List (Tx × Int)}
theorem zj2(h:zcC l L){n:Tx}(hn:zdL L n=true):zcQ n=true:=by
 obtain ⟨c,hc⟩:=zf4 hn
 obtain ⟨h1,h2⟩:=zbR hc
 rw [←h2]
 rw [h.app] at h1
 rcases List.mem_append.1 h1 with e |e
 ·exact List.all_eq_true.1 zxQ c e
 ·have:=h.may c e
  unfold zsX at this
  simp only [Bool.and_eq_true] at this
  exact this.2.1.1.1.1
def zeZ(s:Tx):Tx×Bool:=cond (zfU s&&brk s) (s.drop 1,true) ([],false)
theorem zfw{s:Tx}(h:Len s):zfH s=some (zeZ s):=by
 unfold zfH zeZ
 rw [zg4 h]
 cases hm:zfU s with
 |false=>rfl
 |true =>
  cases s with
  |nil =>
   exfalso
   unfold zfU at hm
   rw [show zfE (zfE [])=[] from rfl] at hm
   simp at hm
   exact zjP hm rfl
  |cons x r =>
   simp only [Option.bind_some,Bool.not_true,cond_false,Bool.true_and]
   rw [zjv]
   have e:((x.toNat:Int) == (91:Int))=(x == 91):=by
    rw [Bool.eq_iff_iff,beq_iff_eq,beq_iff_eq]
    constructor
    ·intro h;exact UInt8.toNat_inj.1 (by simpa using (Int.ofNat_inj.1 h))
    ·intro h;rw [h];rfl
   simp only [List.getElem?_cons_zero,Option.bind_some,e]
   rw [show (1:Int)=((1:Nat):Int) from rfl,zhk (by simp)]
   show cond (!(x == 91)) _ _=some (cond (x == 91) _ _)
   cases x == 91 <;> rfl
theorem zq4{s:Tx}:∀(d:Nat) (t:Tx),t.length≤d→Len t→zm (fun z=>zdo z.1 z.2.1 z.2.2) (t,(zeZ t).1,(zeZ t).2)=some (.inl (cond (zfU t) (ess t) t))
 |d,t,hd,hl=>by
  rw [zE]
  show (zdo t (zeZ t).1 (zeZ t).2).bind _=_
  unfold zdo
  cases hm:zfU t with
  |false =>
   have:zeZ t=([],false):=by unfold zeZ;rw [hm];rfl
   rw [this];rfl
  |true =>
   cases hb:brk t with
   |false =>
    have:zeZ t=([],false):=by unfold zeZ;rw [hm,hb];rfl
    rw [this,zpk hb];rfl
   |true =>
    have:zeZ t=(t.drop 1,true):=by unfold zeZ;rw [hm,hb];rfl
    obtain ⟨k1,k2⟩:=zo1 hm hb
    have hlen:(t.drop 1).length=t.length-1:=by simp
    have hpos:0<t.length:=by rw [(zjz hb).2];simp
    have hl2:Len (t.drop 1):=by unfold Len at *;omega
    rw [this]
    show ((zfH (t.drop 1)).bind _).bind _=_
    rw [zfw hl2]
    show zm (fun z=>zdo z.1 z.2.1 z.2.2) (t.drop 1,(zeZ (t.drop 1)).1,(zeZ (t.drop 1)).2)=_
    cases d with
    |zero=>omega
    |succ d =>
     rw [zq4 (s:=s) d (t.drop 1) (by omega) hl2,k1,k2];rfl
theorem zvB(h:zcC l L)(hm:zbc L m){t:Tx}(hl:Len t):zeM L m t=some (thN L t):=by
 unfold zeM
 rw [zfw hl]
 simp only [Option.bind_some]
 rw [zq4 (s:=t) t.length t (Nat.le_refl _) hl]
 simp only [Option.bind_some,zI]
 unfold zid zbd
 rw [hm.has]
 unfold thN zze
 cases hmay:zfU t with
 |true=>rfl
 |false =>
  simp only [cond_false,Bool.false_and]
  congr 1
  rw [Bool.or_eq_false_iff]
  constructor
  ·cases hI:(t == [73]) with
   |false=>rfl
   |true =>
    have:t=[73]:=by simpa using hI
    rw [this] at hmay
    exact absurd hmay (by decide +kernel)
  ·cases hh:zdL L t with
   |false=>rfl
   |true=>rw [zn8 (zj2 h hh)] at hmay;cases hmay
theorem zsy:∀(t:Tx) (k:Nat),t.length+k≤1000→zm (fun z=>zhd z.1 z.2) (t,(k:Int))=some (.inl (t.dropWhile (· == 91),((k+(t.takeWhile (· == 91)).length:Nat):Int)))
 | [],k,hk=>by
  rw [zE];rfl
 |x ::r,k,hk=>by
  simp only [List.length_cons] at hk
  rw [zE]
  show (zhd (x ::r) (k:Int)).bind _=_
  unfold zhd
  have e:((x.toNat:Int) == (91:Int))=(x == 91):=by
   rw [Bool.eq_iff_iff,beq_iff_eq,beq_iff_eq]
   constructor
   ·intro h;exact UInt8.toNat_inj.1 (by simpa using (Int.ofNat_inj.1 h))
   ·intro h;rw [h];rfl
  rw [decide_eq_true (show (0:Int)<((x ::r).length:Int) by simp only [List.length_cons];omega),zjv]
  simp only [cond_true,List.getElem?_cons_zero,Option.bind_some,e]
  rw [show (1:Int)=((1:Nat):Int) from rfl,zhk (by simp),List.dropWhile_cons,List.takeWhile_cons]
  cases hx:(x == 91) with
  |false=>simp
  |true =>
   simp only [cond_true,Option.bind_some,if_true,List.drop_one,List.tail_cons]
   rw [show ((1:Nat):Int)=1 from rfl,zQ (by omega)]
   show zm (fun z=>zhd z.1 z.2) (r,((k+1:Nat):Int))=_
   rw [zsy r (k+1) (by omega)]
   simp only [List.length_cons]
   congr 3
   omega
theorem zBQ{t:Tx}(h:t.length≤900):zj6 t=some (t.dropWhile (· == 91),((t.takeWhile (· == 91)).length:Int)):=by
 unfold zj6
 rw [show zm (fun z=>zhd z.1 z.2) (t,0)=_ from zsy t 0 (by omega)]
 simp only [Option.bind_some,zI,Nat.zero_add]
 rfl
theorem zuR{t:Tx}(h:brk t=false):t.dropWhile (· == 91)=t∧t.takeWhile (· == 91)=[]:=by
 cases t with
 |nil=>exact ⟨rfl,rfl⟩
 |cons x r =>
  have:(x == 91)=false:=h
  simp [List.dropWhile_cons,List.takeWhile_cons,this]
theorem zuP{t:Tx}(h:brk t=true):t.dropWhile (· == 91)=(t.drop 1).dropWhile (· == 91)∧(t.takeWhile (· == 91)).length=((t.drop 1).takeWhile (· == 91)).length+1:=by
 cases t with
 |nil=>cases h
 |cons x r =>
  have:(x == 91)=true:=h
  simp [List.dropWhile_cons,List.takeWhile_cons,this]
theorem zuQ:∀(d:Nat) (t:Tx),t.length≤d→zfU t=true→t.dropWhile (· == 91)=ess t
 |d,t,hd,hm=>by
  cases hb:brk t with
  |false=>rw [(zuR hb).1,zpk hb]
  |true =>
   obtain ⟨k1,k2⟩:=zo1 hm hb
   have hlen:(t.drop 1).length=t.length-1:=by simp
   have hpos:0<t.length:=by rw [(zjz hb).2];simp
   cases d with
   |zero=>omega
   |succ d=>rw [(zuP hb).1,zuQ d (t.drop 1) (by omega) k1,k2]
theorem zrh{t:Tx}(h:t.length≤900)(hm:zfU t=true):∃k:Nat,zj6 t=some (ess t,(k:Int))∧(((k:Int) == 0)=!brk t):=by
 refine ⟨_,by rw [zBQ h,zuQ _ t (Nat.le_refl _) hm],?_⟩
 cases hb:brk t with
 |false=>rw [(zuR hb).2];rfl
 |true=>rw [(zuP hb).2];exact beq_eq_false_iff_ne.2 (by omega)
theorem zd5(h:zcC l L){t:Tx}(hl:t.length≤900):zS L t=some (thN L t):=by
 have h26:=h.len
 unfold zS
 rw [zm9 (by unfold Len;omega)]
 unfold thN
 cases hm:zfU t with
 |false=>rfl
 |true =>
  obtain ⟨k,hk,_⟩:=zrh hl hm
  rw [hk]
  simp only [Option.bind_some,Bool.not_true,cond_false]
  rw [zns (by omega)]
  simp only [Option.bind_some]
  rw [zsx]
  unfold zze
  cases (ess t == [73]) <;> rfl
end
def zut(L:List za):Tx→Tx→Bool
 | [],b=>thN L []&&(thN L b&&(([]:Tx) == b))
 |x ::r,b=>thN L (x ::r)&&(thN L b&&(((x ::r) == b)||cond (x == 91) (cond (brk b) ((!(r == [73]))&&((!(b.drop 1 == [73]))&&zut L r (b.drop 1))) (b == zwY)) ((zdW L (x ::r)).any (fun y=>b == y)||(zeJ L (x ::r)).any (fun y=>b == y))))
theorem zuu(L:List za)(a b:Tx):zut L a b=(thN L a&&(thN L b&&((a == b)||cond (brk a) (cond (brk b) ((!(a.drop 1 == [73]))&&((!(b.drop 1 == [73]))&&zut L (a.drop 1) (b.drop 1))) (b == zwY)) ((zdW L a).any (fun y=>b == y)||(zeJ L a).any (fun y=>b == y))))):=by
 cases a with
 |nil =>
  have:thN L []=false:=by
   unfold thN
   have:zfU []=false:=by
    cases h:zfU [] with
    |false=>rfl
    |true =>
     unfold zfU at h
     rw [show zfE (zfE [])=[] from rfl] at h
     simp at h
     exact absurd rfl (zjP h)
   rw [this];rfl
  rw [this]
  show (thN L []&&_)=_
  rw [this];rfl
 |cons x r=>rfl
section
variable {l L : List za} {m : List (Tx × Int)}
theorem zpi{l:List Tx}(hl:l.length≤1000)(n:Tx):zx l n=some (l.any fun y=>n == y):=zoW hl n
theorem zlq(h:zcC l L)(n:Tx):(zeJ L n).length≤52:=by
 unfold zeJ
 rw [(zg3 _).length_eq]
 exact Nat.le_trans (List.length_filter_le _ _) (zvF h n)
theorem zzd{t:Tx}(h:thN L t=true):zfU t=true:=by
 unfold thN at h;rw [Bool.and_eq_true] at h;exact h.1
theorem zxB{t:Tx}(h:thN L t=true):zeZ t=cond (brk t) (t.drop 1,true) ([],false):=by
 unfold zeZ
 rw [zzd h,Bool.true_and]
theorem zAP(h:zcC l L)(hm:zbc L m){v0:(List za)×(List (Tx×Int))×Tx×Tx→Option Bool}{a b:Tx}(ha:Len a)(hb:Len b)
  (hv:brk a=true→brk b=true→v0 (L,m,a.drop 1,b.drop 1)=some (zut L (a.drop 1) (b.drop 1))):zb0 v0 L m a b=some (zut L a b):=by
 have h1:=ze9 h a
 have h2:=zlq h a
 unfold zb0
 rw [zvB h hm ha,zvB h hm hb,zuu]
 cases ta:thN L a with
 |false=>rfl
 |true =>
  cases tb:thN L b with
  |false=>rfl
  |true =>
   simp only [Option.bind_some,Bool.not_true,cond_false,Bool.true_and]
   rw [zfw ha,zfw hb,zxB ta,zxB tb]
   simp only [Option.bind_some]
   cases hab:(a == b) with
   |true=>rfl
   |false =>
    cases ba:brk a with
    |true =>
     cases bb:brk b with
     |true =>
      simp only [cond_true,cond_false,Bool.and_self,Bool.false_or]
      rw [hv ba bb]
      cases (a.drop 1 == [73]) <;> cases (b.drop 1 == [73]) <;> rfl
     |false=>rfl
    |false =>
     simp only [cond_true,cond_false,Bool.false_and,Bool.false_or]
     rw [zim h hm,zpl h hm]
     simp only [Option.bind_some]
     rw [zpi (by omega),zpi (by omega)]
     simp only [Option.bind_some]
     cases ((zdW L a).any fun y=>b == y) <;> rfl
theorem zBt(h:zcC l L)(hm:zbc L m):∀(d k:Nat) (a b:Tx),a.length≤d→d<k→Len a→Len b→zAw (fun v0 z=>zb0 v0 z.1 z.2.1 z.2.2.1 z.2.2.2) k (L,m,a,b)=some (zut L a b)
 |d,0,a,b,hd,hk,ha,hb=>by omega
 |d,k+1,a,b,hd,hk,ha,hb=>by
  show zb0 (zAw (fun v0 z=>zb0 v0 z.1 z.2.1 z.2.2.1 z.2.2.2) k) L m a b=_
  refine zAP h hm ha hb fun b1 b2=>?_
  have hlen:(a.drop 1).length=a.length-1:=by simp
  have hlen2:(b.drop 1).length=b.length-1:=by simp
  have hpos:0<a.length:=by rw [(zjz b1).2];simp
  cases d with
  |zero=>omega
  |succ d=>exact zBt h hm d k _ _ (by omega) (by omega) (by unfold Len at *;omega) (by unfold Len at *;omega)
theorem zor(h:zcC l L)(hm:zbc L m){a b:Tx}(ha:a.length≤25)(hb:Len b):zcb L m a b=some (zut L a b):=by
 unfold zcb zCC
 rw [zBt h hm 25 30 a b ha (by omega) (by unfold Len;omega) hb]
theorem zuB(l:List Tx)(n:Tx):(l.any fun y=>y == n)=l.any fun y=>n == y:=by
 congr 1
 funext y
 exact zD1 _ _
theorem znr{T:List Tx}(h:zcC l L)(hT:∀x∈T,zdL L x=true){b:Tx}(hb:zcQ b=false):(T.any fun y=>b == y)=false:=by
 rw [List.any_eq_false]
 intro y hy e
 have:=zj2 h (hT y hy)
 rw [←eq_of_beq e,hb] at this
 cases this
theorem znx(h:zcC l L){n x:Tx}(hx:x∈zeJ L n):zdL L x=true:=zsc h (zsE.1 hx).1
theorem ztL{n:Tx}(hn:zdL L n=false):zeJ L n=[]:=by
 unfold zeJ zlc
 rw [zj8 hn];rfl
theorem zmm{b:Tx}(hb:brk b=true):zcQ b=false:=by
 cases h:zcQ b with
 |false=>rfl
 |true=>rw [zjO h] at hb;cases hb
theorem zpf:zcQ [73]=false:=by
 cases h:zcQ [73] with
 |false=>rfl
 |true=>exact absurd (zzV h) (by simp)
theorem zwH(h:zcC l L){v0:(List za)×Tx×Tx→Option Bool}{a b:Tx}(ha:a.length≤800)(hb:b.length≤800)
  (hv:brk a=true→brk b=true→v0 (L,a.drop 1,b.drop 1)=some (zut L (a.drop 1) (b.drop 1))):zdD v0 L a b=some (zut L a b):=by
 unfold zdD
 rw [zd5 h (by omega),zd5 h (by omega),zuu]
 cases ta:thN L a with
 |false=>rfl
 |true =>
  cases tb:thN L b with
  |false=>rfl
  |true =>
   simp only [Option.bind_some,Bool.not_true,cond_false,Bool.true_and]
   obtain ⟨k1,e1,f1⟩:=zrh (t:=a) (by omega) (zzd ta)
   obtain ⟨k2,e2,f2⟩:=zrh (t:=b) (by omega) (zzd tb)
   rw [e1,e2]
   simp only [Option.bind_some]
   cases hab:(a == b) with
   |true=>rfl
   |false =>
    rw [f1,f2]
    simp only [cond_false,Bool.false_or]
    cases ba:brk a with
    |true =>
     cases bb:brk b with
     |true =>
      simp only [cond_true,cond_false,Bool.not_true,Bool.and_self,Bool.false_and]
      rw [show (1:Int)=((1:Nat):Int) from rfl,zhk (by rw [(zjz ba).2];simp),zhk (by rw [(zjz bb).2];simp)]
      simp only [Option.bind_some]
      rw [hv ba bb]
      cases (a.drop 1 == [73]) <;> cases (b.drop 1 == [73]) <;> rfl
     |false =>
      simp only [cond_true,cond_false,Bool.not_true,Bool.not_false,Bool.false_and]
      rw [zpk bb];rfl
    |false =>
     cases bb:brk b with
     |true =>
      simp only [cond_true,cond_false,Bool.not_true,Bool.not_false,Bool.and_false]
      rw [znr (T:=zdW L a) h (fun x hx=>(ziz h _ a x hx).1) (zmm bb),znr (T:=zeJ L a) h (fun x hx=>znx h hx) (zmm bb)];rfl
     |false =>
      simp only [cond_true,cond_false,Bool.not_false,Bool.and_self]
      rw [zpk ba,zpk bb]
      have h1:=ze9 h a
      have h2:=zlq h a
      cases hI:(a == [73]) with
      |true =>
       have e:a=[73]:=by simpa using hI
       have hn:zdL L a=false:=by
        cases hh:zdL L a with
        |false=>rfl
        |true=>have:=zj2 h hh;rw [e,zpf] at this;cases this
       rw [zj8 hn,ztL hn];rfl
      |false =>
       cases hI2:(b == [73]) with
       |true =>
        have e:b=[73]:=by simpa using hI2
        have hc:zcQ b=false:=by rw [e];exact zpf
        rw [znr (T:=zdW L a) h (fun x hx=>(ziz h _ a x hx).1) hc,znr (T:=zeJ L a) h (fun x hx=>znx h hx) hc];rfl
       |false =>
        simp only [Bool.not_false,Bool.and_self,cond_true]
        rw [zhu h,zoJ h]
        simp only [Option.bind_some]
        rw [zmb (by omega),zmb (by omega),zuB,zuB]
        simp only [Option.bind_some]
        cases ((zdW L a).any fun y=>b == y) <;> rfl
theorem zvr(h:zcC l L):∀(d k:Nat) (a b:Tx),a.length≤d→d<k→a.length≤800→b.length≤800→zAw (fun v0 z=>zdD v0 z.1 z.2.1 z.2.2) k (L,a,b)=some (zut L a b)
 |d,0,a,b,hd,hk,ha,hb=>by omega
 |d,k+1,a,b,hd,hk,ha,hb=>by
  show zdD (zAw (fun v0 z=>zdD v0 z.1 z.2.1 z.2.2) k) L a b=_
  refine zwH h ha hb fun b1 b2=>?_
  have hlen:(a.drop 1).length=a.length-1:=by simp
  have hlen2:(b.drop 1).length=b.length-1:=by simp
  have hpos:0<a.length:=by rw [(zjz b1).2];simp
  cases d with
  |zero=>omega
  |succ d=>exact zvr h d k _ _ (by omega) (by omega) (by omega) (by omega)
theorem zqY(h:zcC l L){a b:Tx}(ha:a.length≤25)(hb:b.length≤800):zgZ L a b=some (zut L a b):=by
 unfold zgZ zCC
 rw [zvr h 25 30 a b ha (by omega) (by omega) hb]
end
abbrev I64(n:Int):Prop:=-9223372036854775808≤n∧n≤9223372036854775807
abbrev FS(s:List UInt8):Prop:=s.length≤10000
structure FL{α:Type}(Q:α→Prop)(l:List α):Prop where
 len:l.length≤10000
 all:∀x∈l,Q x
structure zC1(f:zi):Prop where
 name:FS f.Name
 type:FS f.Type_
structure zEL(x:zl):Prop where
 op:I64 x.Op
 a:I64 x.A
 c:FS x.C
 m:FS x.M
structure zEM(x:zT):Prop where
 pl:I64 x.At
 locals:FL FS x.Locals
 stack:FL FS x.Stack
structure zDX(x:zN):Prop where
 lo:I64 x.From
 hi:I64 x.To
 pl:I64 x.At
 c:FS x.C
structure zBz(m:zb):Prop where
 name:FS m.Name
 params:FL FS m.Params
 ret:FS m.Ret
 locals:I64 m.Locals
 stack:I64 m.Stack
 code:FL zEL m.Code
 maps:FL zEM m.Maps
 traps:FL zDX m.Traps
structure zhz(c:za):Prop where
 name:FS c.Name
 super:FS c.Super
 impl:FL FS c.Impl
 fields:FL zC1 c.Fields
 methods:FL zBz c.Methods
theorem FL.le{α:Type}{Q:α→Prop}{l:List α}(h:FL Q l):zjL l:=by have:=h.len;unfold zjL;omega
theorem FS.le{s:List UInt8}(h:FS s):Len s:=by unfold FS at h;unfold Len;omega
theorem zhz.cg{c:za}(h:zhz c):zC0 c where
 name:=h.name.le
 super:=h.super.le
 impl:=⟨h.impl.le,fun s hs=>(h.impl.all s hs).le⟩
 fields:=⟨h.fields.le,fun f hf=>⟨(h.fields.all f hf).name.le,(h.fields.all f hf).type.le⟩⟩
 methods:=⟨h.methods.le,fun m hm=>by
  have g:=h.methods.all m hm
  have g1:=g.params.len
  have g2:=g.code.len
  have g3:=g.maps.len
  have g4:=g.traps.len
  exact ⟨g.name.le,⟨by omega,fun s hs=>(g.params.all s hs).le⟩,g.ret.le,
   ⟨g.maps.le,g.code.le,fun x hx=>⟨⟨(g.maps.all x hx).locals.le,fun s hs=>((g.maps.all x hx).locals.all s hs).le⟩,(g.maps.all x hx).stack.le,fun s hs=>((g.maps.all x hx).stack.all s hs).le⟩⟩,
   ⟨⟨g.code.le,fun x hx=>⟨(g.code.all x hx).c.le,(g.code.all x hx).m.le⟩⟩,⟨g.traps.le,fun x hx=>(g.traps.all x hx).c.le⟩⟩,⟨by omega,by omega,by omega⟩⟩⟩
def zEz(x y:List UInt8):Bool:=x == y
theorem zxE{α:Type}{e:α→α→Bool}(h:∀x y,e x y=true↔x=y):∀{a b:List α},eqL e a b=true↔a=b
 | [],[]=>by simp [eqL]
 | [],y ::b=>by simp [eqL]
 |x ::a,[]=>by simp [eqL]
 |x ::a,y ::b=>by
  unfold eqL
  rw [Bool.and_eq_true,h,zxE h,List.cons.injEq]
theorem zzS(x y:List UInt8):zEz x y=true↔x=y:=beq_iff_eq
theorem zpR{a b:List (List UInt8)}(hl:zjL a):zhc a b=some (eqL zEz a b):=by
 unfold zhc
 refine zv6 hl (fun i x y hx hy=>?_) ?_
 ·show zgn a b (i:Int)=_
  unfold zgn
  rw [zfk hx,zs,zs,hx,hy];rfl
 ·show zgn a b (a.length:Int)=_
  unfold zgn
  rw [zfJ];rfl
theorem zdJ{s:List UInt8}{n:Nat}:zcc s (n:Int)=some (s.take n):=by
 unfold zcc
 by_cases h:n<s.length
 ·rw [decide_eq_true (show (n:Int)<(s.length:Int) by omega),zmP (by omega)];rfl
 ·rw [decide_eq_false (show ¬(n:Int)<(s.length:Int) by omega),List.take_of_length_le (by omega)];rfl
theorem zjd{α β R:Type}{body:List β×Int→Option (Sum (List β×Int) (Sum (List β) R))}{l:List α}{n:Nat}{f:α→β}(hn:n≤1000)
  (hb:∀acc (i:Nat) x,l[i]?=some x→i<n→acc.length=i→body (acc,(i:Int))=some (.inl (acc++[f x],IntKind.i64.wrap ((i:Int)+1))))
  (he:∀acc (i:Nat),(decide ((i:Int)<(l.length:Int))&&decide ((i:Int)<(n:Int)))=false→body (acc,(i:Int))=some (.inr (.inl acc))):zm body ([],0)=some (.inl ((l.take n).map f)):=by
 have key:∀d i,(l.take n).length-i=d→i≤(l.take n).length→zm body (((l.take n).take i).map f,(i:Int))=some (.inl ((l.take n).map f)):=by
  intro d
  induction d with
  |zero =>
   intro i hd hi
   have e:i=(l.take n).length:=by omega
   rw [zE,he _ i (by
    rw [List.length_take] at e
    rw [Bool.and_eq_false_iff]
    rcases Nat.le_total n l.length with h |h
    ·exact .inr (decide_eq_false (by omega))
    ·exact .inl (decide_eq_false (by omega))),e,List.take_length]
   rfl
  |succ d ih =>
   intro i hd hi
   have hlt:i<(l.take n).length:=by omega
   have h2:i<n∧i<l.length:=by rw [List.length_take] at hlt;omega
   have hx:l[i]?=some l[i]:=List.getElem?_eq_getElem h2.2
   rw [zE,hb _ i l[i] hx h2.1 (by rw [List.length_map,List.length_take];omega),zQ (by omega)]
   have:=ih (i+1) (by omega) (by omega)
   rw [List.take_add_one,List.getElem?_take_of_lt h2.1,hx] at this
   simp only [Option.toList_some,List.map_append,List.map_cons,List.map_nil] at this
   exact this
 exact key _ 0 rfl (Nat.zero_le _)
theorem more{α:Type}{l:List α}{n i:Nat}{x:α}(h:l[i]?=some x)(hi:i<n):(decide ((i:Int)<(l.length:Int))&&decide ((i:Int)<(n:Int)))=true:=by
 rw [zfk h,decide_eq_true (by omega)];rfl
def zEA(f:zi):zi:=zi.mk (f.Name.take 10) (f.Type_.take 12) f.Static
def zD4(x:zl):zl:=zl.mk x.Op x.A (x.C.take 14) (x.M.take 12)
def zBb(n:Nat)(l:List (List UInt8)):List (List UInt8):=(l.take n).map (·.take 12)
def zBa(x:zT):zT:=zT.mk x.At (zBb 20 x.Locals) (zBb 20 x.Stack)
def zEB(x:zN):zN:=zN.mk x.From x.To x.At (x.C.take 10)
def zDJ(m:zb):zb:=zb.mk (m.Name.take 10) (zBb 8 m.Params) (m.Ret.take 12) m.Static m.Abstract m.Locals m.Stack ((m.Code.take 104).map zD4) ((m.Maps.take 104).map zBa) ((m.Traps.take 8).map zEB)
def zA9(c:za):za:=za.mk (c.Name.take 10) (c.Super.take 10) c.Interface (zBb 6 c.Impl) ((c.Fields.take 10).map zEA) ((c.Methods.take 10).map zDJ)
theorem ziK{l:List (List UInt8)}{n:Nat}(hn:n≤100):zeC l (n:Int)=some (zBb n l):=by
 unfold zeC
 rw [show zm (fun z=>zgy l (n:Int) z.1 z.2) ([],0)=some (.inl (zBb n l)) from zjd (by omega) (fun acc i x hx hi ha=>by
  show zgy l (n:Int) acc (i:Int)=_
  unfold zgy
  rw [more hx hi,zs,hx]
  simp only [Option.bind_some,cond_true]
  rw [show zcc x 12=_ from zdJ (n:=12),Option.bind_some,zbF (by simp;omega) (by simp;omega)];rfl) (fun acc i h=>by
  show zgy l (n:Int) acc (i:Int)=_
  unfold zgy
  rw [h];rfl)]
 rfl
theorem ztW(x:zl):zoY x=some (zD4 x):=by
 unfold zoY
 rw [show zcc x.C 14=_ from zdJ (n:=14),show zcc x.M 12=_ from zdJ (n:=12)];rfl
theorem zqi(m:zb):zkx m=some (zDJ m):=by
 unfold zkx
 rw [show zcc m.Name 10=_ from zdJ (n:=10),show zcc m.Ret 12=_ from zdJ (n:=12),show zeC m.Params 8=_ from ziK (n:=8) (by decide)]
 simp only [Option.bind_some]
 rw [show zm (fun z=>zfQ m z.1 z.2) ([],0)=some (.inl ((m.Code.take 104).map zD4)) from zjd (by decide) (fun acc i x hx hi ha=>by
  show zfQ m acc (i:Int)=_
  unfold zfQ
  rw [show (decide ((i:Int)<(m.Code.length:Int))&&decide ((i:Int)<104))=true from more hx hi,zs,hx]
  simp only [Option.bind_some,cond_true]
  rw [ztW,Option.bind_some,zbF (by simp;omega) (by simp;omega)];rfl) (fun acc i h=>by
  show zfQ m acc (i:Int)=_
  unfold zfQ
  rw [show (decide ((i:Int)<(m.Code.length:Int))&&decide ((i:Int)<104))=false from h];rfl)]
 simp only [Option.bind_some]
 show zjG m _ _ _ _=_
 unfold zjG
 rw [show zm (fun z=>zfR m z.1 z.2) ([],0)=some (.inl ((m.Maps.take 104).map zBa)) from zjd (by decide) (fun acc i x hx hi ha=>by
  show zfR m acc (i:Int)=_
  unfold zfR
  rw [show (decide ((i:Int)<(m.Maps.length:Int))&&decide ((i:Int)<104))=true from more hx hi,zs,hx]
  simp only [Option.bind_some,cond_true]
  rw [show zeC x.Locals 20=_ from ziK (n:=20) (by decide),show zeC x.Stack 20=_ from ziK (n:=20) (by decide)]
  simp only [Option.bind_some]
  rw [zbF (by simp;omega) (by simp;omega)];rfl) (fun acc i h=>by
  show zfR m acc (i:Int)=_
  unfold zfR
  rw [show (decide ((i:Int)<(m.Maps.length:Int))&&decide ((i:Int)<104))=false from h];rfl)]
 simp only [Option.bind_some]
 show zjH m _ _ _ _ _=_
 unfold zjH
 rw [show zm (fun z=>zfS m z.1 z.2) ([],0)=some (.inl ((m.Traps.take 8).map zEB)) from zjd (by decide) (fun acc i x hx hi ha=>by
  show zfS m acc (i:Int)=_
  unfold zfS
  rw [show (decide ((i:Int)<(m.Traps.length:Int))&&decide ((i:Int)<8))=true from more hx hi,zs,hx]
  simp only [Option.bind_some,cond_true]
  rw [show zcc x.C 10=_ from zdJ (n:=10),Option.bind_some,zbF (by simp;omega) (by simp;omega)];rfl) (fun acc i h=>by
  show zfS m acc (i:Int)=_
  unfold zfS
  rw [show (decide ((i:Int)<(m.Traps.length:Int))&&decide ((i:Int)<8))=false from h];rfl)]
 rfl
theorem zt0(c:za):zo0 c=some ((zA9 c).Name,(zA9 c).Super,(zA9 c).Impl,(zA9 c).Fields,(zA9 c).Methods):=by
 unfold zo0
 rw [show zcc c.Name 10=_ from zdJ (n:=10),show zcc c.Super 10=_ from zdJ (n:=10),show zeC c.Impl 6=_ from ziK (n:=6) (by decide)]
 simp only [Option.bind_some]
 rw [show zm (fun z=>zhL c z.1 z.2) ([],0)=some (.inl ((c.Fields.take 10).map zEA)) from zjd (by decide) (fun acc i x hx hi ha=>by
  show zhL c acc (i:Int)=_
  unfold zhL
  rw [show (decide ((i:Int)<(c.Fields.length:Int))&&decide ((i:Int)<10))=true from more hx hi,zs,hx]
  simp only [Option.bind_some,cond_true]
  rw [show zcc x.Name 10=_ from zdJ (n:=10),show zcc x.Type_ 12=_ from zdJ (n:=12)]
  simp only [Option.bind_some]
  rw [zbF (by simp;omega) (by simp;omega)];rfl) (fun acc i h=>by
  show zhL c acc (i:Int)=_
  unfold zhL
  rw [show (decide ((i:Int)<(c.Fields.length:Int))&&decide ((i:Int)<10))=false from h];rfl)]
 simp only [Option.bind_some]
 show zm4 c _ _ _ _=_
 unfold zm4
 rw [show zm (fun z=>zhM c z.1 z.2) ([],0)=some (.inl ((c.Methods.take 10).map zDJ)) from zjd (by decide) (fun acc i x hx hi ha=>by
  show zhM c acc (i:Int)=_
  unfold zhM
  rw [show (decide ((i:Int)<(c.Methods.length:Int))&&decide ((i:Int)<10))=true from more hx hi,zs,hx]
  simp only [Option.bind_some,cond_true]
  rw [zqi,Option.bind_some,zbF (by simp;omega) (by simp;omega)];rfl) (fun acc i h=>by
  show zhM c acc (i:Int)=_
  unfold zhM
  rw [show (decide ((i:Int)<(c.Methods.length:Int))&&decide ((i:Int)<10))=false from h];rfl)]
 rfl
theorem zsI{n:Int}(h:wI .i64 n):I64 n:=by
 have h:(Lit.int .i64 n).wf=true:=h
 unfold Lit.wf at h
 simp [IntKind.min,IntKind.max,IntKind.bits,IntKind.signed] at h
 exact ⟨by omega,by omega⟩
theorem FS.take(s:List UInt8){n:Nat}(hn:n≤100):FS (s.take n):=by unfold FS;rw [List.length_take];omega
theorem zrp{l:List (List UInt8)}{n:Nat}(hn:n≤100):FL FS (zBb n l):=by
 refine ⟨by unfold zBb;rw [List.length_map,List.length_take];omega,fun x hx=>?_⟩
 obtain ⟨y,_,rfl⟩:=List.mem_map.1 hx
 exact FS.take y (by decide)
theorem zpj{α:Type}{Q:α→Prop}{l:List α}{f:α→α}{n:Nat}(hn:n≤200)(h:∀x∈l,Q (f x)):FL Q ((l.take n).map f):=by
 refine ⟨by rw [List.length_map,List.length_take];omega,fun x hx=>?_⟩
 obtain ⟨y,hy,rfl⟩:=List.mem_map.1 hx
 exact h y (List.mem_of_mem_take hy)
theorem zB0{m:zb}(h:zos m):zBz (zDJ m):=by
 obtain ⟨_,_,_,_,_,h1,h2,h3,h4,h5⟩:=h
 exact ⟨FS.take _ (by decide),zrp (by decide),FS.take _ (by decide),zsI h1,zsI h2,
  zpj (by decide) fun x hx=>⟨zsI (h3.2 x hx).1,zsI (h3.2 x hx).2.1,FS.take _ (by decide),FS.take _ (by decide)⟩,
  zpj (by decide) fun x hx=>⟨zsI (h4.2 x hx).1,zrp (by decide),zrp (by decide)⟩,
  zpj (by decide) fun x hx=>⟨zsI (h5.2 x hx).1,zsI (h5.2 x hx).2.1,zsI (h5.2 x hx).2.2.1,FS.take _ (by decide)⟩⟩
theorem zBZ{c:za}(h:zkb c):zhz (zA9 c):=by
 obtain ⟨_,_,_,_,_,h1⟩:=h
 exact ⟨FS.take _ (by decide),FS.take _ (by decide),zrp (by decide),zpj (by decide) fun x hx=>⟨FS.take _ (by decide),FS.take _ (by decide)⟩,zpj (by decide) fun x hx=>zB0 (h1.2 x hx)⟩
def zw6(l:List za):List za:=(l.take 18).map zA9
theorem ztX(l:List za):zoZ l=some (zw6 l):=by
 unfold zoZ
 rw [show zm (fun z=>zhK l z.1 z.2) ([],0)=some (.inl (zw6 l)) from zjd (by decide) (fun acc i x hx hi ha=>by
  show zhK l acc (i:Int)=_
  unfold zhK
  rw [show (decide ((i:Int)<(l.length:Int))&&decide ((i:Int)<18))=true from more hx hi,zs,hx]
  simp only [Option.bind_some,cond_true]
  rw [zt0,Option.bind_some,zbF (by simp;omega) (by simp;omega)];rfl) (fun acc i h=>by
  show zhK l acc (i:Int)=_
  unfold zhK
  rw [show (decide ((i:Int)<(l.length:Int))&&decide ((i:Int)<18))=false from h];rfl)]
 rfl
structure zC4(c:za):Prop where
 fc:zhz c
 name:c.Name.length≤10
 super:c.Super.length≤10
 impl:∀s∈c.Impl,s.length≤12
theorem zv2{c:za}(h:zkb c):zC4 (zA9 c):=by
 refine ⟨zBZ h,?_,?_,fun s hs=>?_⟩
 ·show (c.Name.take 10).length≤10;rw [List.length_take];omega
 ·show (c.Super.take 10).length≤10;rw [List.length_take];omega
 ·obtain ⟨y,_,rfl⟩:=List.mem_map.1 (show s∈(c.Impl.take 6).map (·.take 12) from hs)
  rw [List.length_take];omega
theorem zvS{l:List za}(h:∀c∈l,zkb c):∀c∈zw6 l,zC4 c:=fun c hc=>by
 obtain ⟨d,hd,rfl⟩:=List.mem_map.1 hc
 exact zv2 (h d (List.mem_of_mem_take hd))
section
variable {l L : List za} {m : List (Tx × Int)}
theorem zDf:∀c∈giv,zhz c:=by
 intro c hc
 have hg:giv.all (fun c=>decide (c.Name.length≤10)&&decide (c.Super.length≤10)&&(c.Impl == [])&&decide (c.Fields.length=0)&&decide (c.Methods.length=0))=true:=by decide +kernel
 have:=List.all_eq_true.1 hg c hc
 simp only [Bool.and_eq_true,decide_eq_true_eq,beq_iff_eq] at this
 obtain ⟨⟨⟨⟨h1,h2⟩,h3⟩,h4⟩,h5⟩:=this
 refine ⟨by unfold FS;omega,by unfold FS;omega,⟨by rw [h3];simp,fun s hs=>by rw [h3] at hs;cases hs⟩,⟨by omega,fun s hs=>?_⟩,⟨by omega,fun s hs=>?_⟩⟩
 ·rw [List.eq_nil_of_length_eq_zero h4] at hs;cases hs
 ·rw [List.eq_nil_of_length_eq_zero h5] at hs;cases hs
theorem zx7(h:zcC l L)(hs:∀c∈l,zhz c):∀c∈L,zhz c:=by
 intro c hc
 rw [h.app] at hc
 rcases List.mem_append.1 hc with e |e
 ·exact zDf c e
 ·exact hs c e
def zC:za:=za.mk [] [] false [] [] []
theorem zuL(hm:zbc L m)(n:Tx):zz L m n=some (match cl L n with |some c=>(c,true) |none=>(zC,false)):=by
 show cond (!(zbd L m n)) (some (zC,false)) ((zdk L m n).bind fun v4=>some (v4,true))=_
 unfold zbd
 rw [hm.has]
 cases hc:cl L n with
 |none=>rw [zmU hc];rfl
 |some c=>rw [zgP hc,zqJ hm (zgP hc),hc];rfl
end
section
variable {l L : List za} {m : List (Tx × Int)}
theorem Rc.trans{nx:Tx→List Tx}{a b c:Tx}(h:Rc nx a b)(k:Rc nx b c):Rc nx a c:=by
 induction h with
 |one h=>exact .more h k
 |more h _ ih=>exact .more h (ih k)
end
theorem zoe{α:Type}(p:α→Bool)(l:List α):idx l (ixF p 0 l)=l.find? p:=by
 rcases zpy p l 0 with ⟨j,x,h1,h2,h3,h4⟩ |⟨h1,h2⟩
 ·rw [h1,h4,zs,Nat.zero_add,h2]
 ·rw [h1,h2];rfl
theorem zl1{α:Type}(p:α→Bool)(l:List α):decide (0≤ixF p 0 l)=(l.find? p).isSome:=by
 rw [zdT,Bool.eq_iff_iff,List.any_eq_true,List.find?_isSome]
theorem zoB{α β:Type}{f g:α→Option β}:∀{l:List α},(∀x∈l,f x=g x)→l.findSome? f=l.findSome? g
 | [],_=>rfl
 |x ::l,h=>by
  rw [List.findSome?_cons,List.findSome?_cons,h x (by simp),zoB fun y hy=>h y (by simp [hy])]
def zF:zi:=zi.mk [] [] false
def zM:zb:=zb.mk [] [] [] false false 0 0 [] [] []
abbrev FR:=List UInt8×zi×Bool
abbrev MR:=List UInt8×zb×Bool
def zzB(L:List za)(n s:Tx):Option FR:=match cl L s with |some x=>(match x.Fields.find? (fun y=>y.Name == n) with |some f=>some (s,f,true) |none=>none) |none=>none
def zm6(L:List za)(may:zb→Bool)(n s:Tx):Option MR:=match cl L s with |some x=>(match x.Methods.find? (fun y=>y.Name == n) with |some f=>cond (may f) (some (s,f,true)) none |none=>none) |none=>none
theorem zhO{R:Type}(o:Option R)(z:R):(some (zoz () o):Option (Sum Unit R)).bind (fun o=>zI o (fun _=>some z) some)=some (o.getD z):=by cases o <;> rfl
section
variable {l L : List za} {m : List (Tx × Int)}
theorem zem(hm:zbc L m)(n:Tx):zz L m n=some (match cl L n with |some c=>(c,true) |none=>(zC,false)):=zuL hm n
def zlT(L:List za):Prop:=∀c∈L,zjL c.Fields∧zjL c.Methods
theorem zCq(h:∀c∈L,zhz c):zlT L:=fun c hc=>⟨(h c hc).fields.le,(h c hc).methods.le⟩
theorem zuW(h:zcC l L)(hm:zbc L m)(hL:zlT L)(c n:Tx):zgB L m c n=some (((zdW L c).findSome? (zzB L n)).getD ([],zF,false)):=by
 have h26:=ze9 h c
 unfold zgB
 rw [zim h hm]
 simp only [Option.bind_some]
 rw [show zm (fun z=>zeD L m n (zdW L c) z) 0=some (zoz () ((zdW L c).findSome? (zzB L n))) from zdN (fun i s hs=>by
  have hi:=(List.getElem?_eq_some_iff.1 hs).1
  obtain ⟨x,hx⟩:=zf4 (ziz h _ c s (List.mem_of_getElem? hs)).1
  show zeD L m n (zdW L c) (i:Int)=_
  unfold zeD
  rw [zfk hs,zs,hs]
  simp only [cond_true,Option.bind_some]
  rw [zem hm,hx]
  simp only [Option.bind_some]
  rw [zp9 (hL x (zbR hx).1).1]
  simp only [Option.bind_some]
  rw [zl1,zoe,zQ (by omega)]
  unfold zzB
  rw [hx]
  show _=some (zxh i (match x.Fields.find? (fun y=>y.Name == n) with |some f=>some (s,f,true) |none=>none))
  cases x.Fields.find? (fun y=>y.Name == n) <;> rfl) (by
  show zeD L m n (zdW L c) ((zdW L c).length:Int)=_
  unfold zeD
  rw [zfJ];rfl)]
 exact zhO _ _
theorem zth(h:zcC l L)(hL:zlT L)(c n:Tx):zi9 L c n=some (((zdW L c).findSome? (zzB L n)).getD ([],zF,false)):=by
 have h26:=ze9 h c
 have hl:=h.len
 unfold zi9
 rw [zhu h]
 simp only [Option.bind_some]
 rw [show zm (fun z=>zdC L n (zdW L c) z) 0=some (zoz () ((zdW L c).findSome? (zzB L n))) from zdN (fun i s hs=>by
  have hi:=(List.getElem?_eq_some_iff.1 hs).1
  obtain ⟨x,hx⟩:=zf4 (ziz h _ c s (List.mem_of_getElem? hs)).1
  show zdC L n (zdW L c) (i:Int)=_
  unfold zdC
  rw [zfk hs,zs,hs]
  simp only [cond_true,Option.bind_some]
  rw [zns (by omega)]
  simp only [Option.bind_some]
  rw [zpw hx]
  simp only [Option.bind_some]
  rw [zr0 (hL x (zbR hx).1).1]
  simp only [Option.bind_some]
  rw [zl1,zoe,zQ (by omega)]
  unfold zzB
  rw [hx]
  show _=some (zxh i (match x.Fields.find? (fun y=>y.Name == n) with |some f=>some (s,f,true) |none=>none))
  cases x.Fields.find? (fun y=>y.Name == n) <;> rfl) (by
  show zdC L n (zdW L c) ((zdW L c).length:Int)=_
  unfold zdC
  rw [zfJ];rfl)]
 exact zhO _ _
theorem zrM(h:zcC l L)(hm:zbc L m)(hL:zlT L){may:zb→Bool}{T:List Tx}(hT:T.length≤1000)(n:Tx){body:Int→Option (Sum Int (Sum Unit MR))}
  (hT2:∀s∈T,zdL L s=true)
  (hb:∀(i:Nat) s x,T[i]?=some s→cl L s=some x→body (i:Int)=((zeG x n).bind fun v15=>(cond (decide (0≤v15)) ((idx x.Methods v15).bind fun v16=>some (may v16)) (some false)).bind fun v17=>cond v17 ((idx x.Methods v15).bind fun v18=>some (.inr (.inr (s,v18,true)))) (some (.inl (IntKind.i64.wrap ((i:Int)+1))))))
  (he:body (T.length:Int)=some (.inr (.inl ()))):zm body 0=some (zoz () (T.findSome? (zm6 L may n))):=by
 refine zdN (fun i s hs=>?_) he
 have hi:=(List.getElem?_eq_some_iff.1 hs).1
 obtain ⟨x,hx⟩:=zf4 (hT2 s (List.mem_of_getElem? hs))
 rw [hb i s x hs hx,zpg (hL x (zbR hx).1).2]
 simp only [Option.bind_some]
 rw [zl1,zoe,zQ (by omega)]
 unfold zm6
 rw [hx]
 show _=some (zxh i (match x.Methods.find? (fun y=>y.Name == n) with |some f=>cond (may f) (some (s,f,true)) none |none=>none))
 cases x.Methods.find? (fun y=>y.Name == n) with
 |none=>rfl
 |some f =>
  simp only [Option.isSome_some,cond_true,Option.bind_some]
  cases may f <;> rfl
theorem zzY(h:zcC l L)(hm:zbc L m)(hL:zlT L){T:List Tx}(hT:T.length≤1000)(hT2:∀s∈T,zdL L s=true)(n:Tx):zij L m T n=some ((T.findSome? (zm6 L zaU n)).getD ([],zM,false)):=by
 unfold zij
 rw [show zm (fun z=>zfn L m T n z) 0=some (zoz () (T.findSome? (zm6 L zaU n))) from zrM h hm hL hT n hT2 (fun i s x hs hx=>by
  show zfn L m T n (i:Int)=_
  unfold zfn
  rw [zfk hs,zs,hs]
  simp only [cond_true,Option.bind_some]
  rw [zem hm,hx];rfl) (by
  show zfn L m T n (T.length:Int)=_
  unfold zfn
  rw [zfJ];rfl)]
 exact zhO _ _
theorem zzZ(h:zcC l L)(hm:zbc L m)(hL:zlT L){T:List Tx}(hT:T.length≤1000)(hT2:∀s∈T,zdL L s=true)(n:Tx):zjx L m T n=some ((T.findSome? (zm6 L ze1 n)).getD ([],zM,false)):=by
 unfold zjx
 rw [show zm (fun z=>zfo L m T n z) 0=some (zoz () (T.findSome? (zm6 L ze1 n))) from zrM h hm hL hT n hT2 (fun i s x hs hx=>by
  show zfo L m T n (i:Int)=_
  unfold zfo
  rw [zfk hs,zs,hs]
  simp only [cond_true,Option.bind_some]
  rw [zem hm,hx];rfl) (by
  show zfo L m T n (T.length:Int)=_
  unfold zfo
  rw [zfJ];rfl)]
 exact zhO _ _
theorem zzX(h:zcC l L)(hm:zbc L m)(hL:zlT L){T:List Tx}(hT:T.length≤1000)(hT2:∀s∈T,zdL L s=true)(n:Tx):zjw L m T n=some ((T.findSome? (zm6 L zbB n)).getD ([],zM,false)):=by
 unfold zjw
 rw [show zm (fun z=>zfm L m T n z) 0=some (zoz () (T.findSome? (zm6 L zbB n))) from zrM h hm hL hT n hT2 (fun i s x hs hx=>by
  show zfm L m T n (i:Int)=_
  unfold zfm
  rw [zfk hs,zs,hs]
  simp only [cond_true,Option.bind_some]
  rw [zem hm,hx];rfl) (by
  show zfm L m T n (T.length:Int)=_
  unfold zfm
  rw [zfJ];rfl)]
 exact zhO _ _
theorem znX(h:zcC l L)(c:Tx):∀s∈zdW L c,zdL L s=true:=fun s hs=>(ziz h _ c s hs).1
theorem znI(h:zcC l L)(hm:zbc L m)(hL:zlT L)(c n:Tx):zfT L m c n=some (((zdW L c).findSome? (zm6 L zaU n)).getD ([],zM,false)):=by
 have h26:=ze9 h c
 unfold zfT
 rw [zim h hm]
 simp only [Option.bind_some]
 rw [zzY h hm hL (by omega) (znX h c)];rfl
theorem zr3(h:zcC l L)(hL:zlT L)(c n:Tx):ziw L c n=some (((zdW L c).findSome? (zm6 L zaU n)).getD ([],zM,false)):=by
 have h26:=ze9 h c
 have hl:=h.len
 unfold ziw
 rw [zhu h]
 simp only [Option.bind_some]
 rw [show zm (fun z=>zdb L n (zdW L c) z) 0=some (zoz () ((zdW L c).findSome? (zm6 L zaU n))) from zdN (fun i s hs=>by
  have hi:=(List.getElem?_eq_some_iff.1 hs).1
  obtain ⟨x,hx⟩:=zf4 (znX h c s (List.mem_of_getElem? hs))
  show zdb L n (zdW L c) (i:Int)=_
  unfold zdb
  rw [zfk hs,zs,hs]
  simp only [cond_true,Option.bind_some]
  rw [zns (by omega)]
  simp only [Option.bind_some]
  rw [zpw hx]
  simp only [Option.bind_some]
  rw [zmC (hL x (zbR hx).1).2]
  simp only [Option.bind_some]
  rw [zl1,zoe,zQ (by omega)]
  unfold zm6
  rw [hx]
  show _=some (zxh i (match x.Methods.find? (fun y=>y.Name == n) with |some f=>cond (zaU f) (some (s,f,true)) none |none=>none))
  cases hf:x.Methods.find? (fun y=>y.Name == n) with
  |none=>rfl
  |some f =>
   have e:f.Name=n:=by have:=List.find?_some hf;simpa using this
   simp only [zaU,Option.isSome_some,Bool.true_and,Option.bind_some,e]
   cases (n == [36,105,110,105,116]) <;> rfl) (by
  show zdb L n (zdW L c) ((zdW L c).length:Int)=_
  unfold zdb
  rw [zfJ];rfl)]
 exact zhO _ _
def zn9(L:List za)(c n:Tx):MR:=cond (isF L c) (((c ::zeJ L c).findSome? (zm6 L ze1 n)).getD ([],zM,false)) ([],zM,false)
theorem ztT{c:Tx}(h:isF L c=true):zdL L c=true:=by
 unfold isF at h
 cases hc:cl L c with
 |none=>rw [hc] at h;cases h
 |some x=>exact zgP hc
theorem zxG(h:zcC l L)(hm:zbc L m)(hL:zlT L)(c n:Tx):zii L m c n=some (zn9 L c n):=by
 have h52:=zlq h c
 unfold zii zn9
 rw [zem hm]
 have e:isF L c=(match cl L c with |some c=>(c,true) |none=>(zC,false)).1.Interface:=by
  unfold isF
  cases cl L c <;> rfl
 cases hF:isF L c with
 |false =>
  rw [hF] at e
  simp only [Option.bind_some]
  rw [←e];rfl
 |true =>
  rw [hF] at e
  simp only [Option.bind_some]
  rw [←e]
  simp only [Bool.not_true,cond_false]
  rw [zpl h hm]
  simp only [Option.bind_some]
  rw [zbF (by simp;omega) (by simp;omega)]
  simp only [Option.bind_some]
  rw [zzZ h hm hL (by simp;omega) (fun s hs=>by
   rcases List.mem_cons.1 (show s∈c ::zeJ L c from hs) with e |e
   ·rw [e];exact ztT hF
   ·exact znx h e)]
  rfl
theorem zuj(h:zcC l L)(hL:zlT L)(c n:Tx):zjJ L c n=some (zn9 L c n):=by
 have h52:=zlq h c
 have hl:=h.len
 unfold zjJ zn9
 rw [zns (by omega)]
 simp only [Option.bind_some]
 rw [zqE,zoD]
 have e:(cond (!zdL L c) (some true) ((cl L c).bind fun v5=>some (!v5.Interface)))=some (!isF L c):=by
  unfold isF
  cases hc:cl L c with
  |none=>rw [zmU hc];rfl
  |some x=>rw [zgP hc];rfl
 rw [e]
 simp only [Option.bind_some]
 cases hF:isF L c with
 |false=>rfl
 |true =>
  simp only [Bool.not_true,cond_false,cond_true]
  rw [zoJ h]
  simp only [Option.bind_some]
  rw [zbF (by simp;omega) (by simp;omega)]
  simp only [Option.bind_some]
  rw [show zm (fun z=>zeg L n ([c]++zeJ L c) z) 0=some (zoz () ((c ::zeJ L c).findSome? (zm6 L ze1 n))) from zdN (l:=c ::zeJ L c) (fun i s hs=>by
   have hi:=(List.getElem?_eq_some_iff.1 hs).1
   simp only [List.length_cons] at hi
   have hsh:zdL L s=true:=by
    rcases List.mem_cons.1 (List.mem_of_getElem? hs) with e |e
    ·rw [e];exact ztT hF
    ·exact znx h e
   obtain ⟨x,hx⟩:=zf4 hsh
   show zeg L n (c ::zeJ L c) (i:Int)=_
   unfold zeg
   rw [zfk hs,zs,hs]
   simp only [cond_true,Option.bind_some]
   rw [zns (by omega)]
   simp only [Option.bind_some]
   rw [zpw hx]
   simp only [Option.bind_some]
   rw [zmC (hL x (zbR hx).1).2]
   simp only [Option.bind_some]
   rw [zl1,zoe,zQ (by omega)]
   unfold zm6 ze1
   rw [hx]
   show _=some (zxh i (match x.Methods.find? (fun y=>y.Name == n) with |some f=>cond true (some (s,f,true)) none |none=>none))
   cases x.Methods.find? (fun y=>y.Name == n) <;> rfl) (by
   show zeg L n (c ::zeJ L c) ((c ::zeJ L c).length:Int)=_
   unfold zeg
   rw [zfJ];rfl)]
  exact zhO _ _
theorem zmK(h:zcC l L){x:za}(hx:x∈L){f:zb}(hf:f∈x.Methods):f.Abstract=x.Interface:=by
 rw [h.app] at hx
 rcases List.mem_append.1 hx with e |e
 ·have hg:giv.all (fun c=>decide (c.Methods.length=0))=true:=by decide +kernel
  have:=of_decide_eq_true (List.all_eq_true.1 hg x e)
  rw [List.eq_nil_of_length_eq_zero this] at hf;cases hf
 ·have:=h.may x e
  unfold zsX at this
  simp only [Bool.and_eq_true,Bool.not_eq_true',decide_eq_true_eq] at this
  have h2:=zq7 this.2.2.1 f hf
  rw [Bool.and_eq_true,beq_iff_eq] at h2
  exact h2.1
def chG(L:List za)(n s:Tx):Option (List UInt8×Bool):=match cl L s with |some x=>(match x.Methods.find? (fun y=>y.Name == n) with |some f=>cond (!f.Static) (some (s,true)) none |none=>none) |none=>none
theorem zxq(h:zcC l L)(hm:zbc L m)(hL:zlT L)(c n:Tx):zgR L m c n=some ((((zdW L c).findSome? (zm6 L zbB n)).getD ([],zM,false)).1,(((zdW L c).findSome? (zm6 L zbB n)).getD ([],zM,false)).2.2):=by
 have h26:=ze9 h c
 unfold zgR
 rw [zim h hm]
 simp only [Option.bind_some]
 rw [zzX h hm hL (by omega) (znX h c)];rfl
theorem zoC{α β γ:Type}{f:α→Option β}{g:β→γ}:∀{l:List α},(l.findSome? f).map g=l.findSome? (fun x=>(f x).map g)
 | []=>rfl
 |x ::l=>by
  rw [List.findSome?_cons,List.findSome?_cons]
  cases f x with
  |some y=>rfl
  |none=>exact zoC
theorem znz{α β:Type}{f:α→Option β}:∀{l:List α},(∀x∈l,f x=none)→l.findSome? f=none
 | [],_=>rfl
 |x ::l,h=>by
  rw [List.findSome?_cons,h x (by simp)]
  exact znz fun y hy=>h y (by simp [hy])
theorem zAl(h:zcC l L)(may:zb→Bool)(n:Tx):zm6 L may n zwY=none:=by
 have e:cl L zwY=some (gC zwY []):=zuK h.app rfl
 unfold zm6
 rw [e];rfl
theorem zCM(h:zcC l L){c s:Tx}(hs:s∈zdW L c)(hF:isF L c=false):isF L s=false:=by
 rcases (ziz h _ c s hs).2.2 with e |⟨x,hx,e⟩
 ·rw [e];exact hF
 ·rw [e];exact h.superF x hx
theorem zAQ(h:zcC l L){c s:Tx}(hs:s∈zdW L c)(hF:isF L c=true):s=c∨s=zwY:=by
 unfold zdW at hs
 have hn:=ztT hF
 cases hd:L.length with
 |zero=>rw [hd] at hs;simp [sup] at hs
 |succ d =>
  rw [hd] at hs
  unfold sup at hs
  obtain ⟨x,hx⟩:=zf4 hn
  rw [hx] at hs
  rcases List.mem_cons.1 hs with e |e
  ·exact .inl e
  ·right
   have hI:x.Interface=true:=by unfold isF at hF;rw [hx] at hF;exact hF
   have hxS:x.Super=zwY:=by
    have hxm:=(zbR hx).1
    rw [h.app] at hxm
    rcases List.mem_append.1 hxm with e |e
    ·rw [(zCb e).2.1] at hI;cases hI
    ·have:=h.may x e
     unfold zsX at this
     rw [hI] at this
     simp only [Bool.and_eq_true,Bool.not_eq_true',Bool.true_and,Bool.or_eq_false_iff,Bool.not_eq_false'] at this
     exact eq_of_beq this.1.1
   rw [hxS] at e
   cases d with
   |zero=>simp [sup] at e
   |succ d =>
    unfold sup at e
    have eo:cl L zwY=some (gC zwY []):=zuK h.app rfl
    rw [eo] at e
    rcases List.mem_cons.1 e with e |e
    ·exact e
    ·rw [show (gC zwY []).Super=[] from rfl,zuv h] at e;cases e
def chN(L:List za)(c n:Tx):List UInt8×Bool:=cond (zdL L c&&!isF L c) (((zdW L c).findSome? (chG L n)).getD ([],false)) ([],false)
theorem zzU(h:zcC l L)(hm:zbc L m)(hL:zlT L)(c n:Tx):zgR L m c n=some (chN L c n):=by
 rw [zxq h hm hL]
 congr 1
 unfold chN
 cases hn:zdL L c with
 |false=>rw [zj8 hn];rfl
 |true =>
  cases hF:isF L c with
  |true =>
   rw [znz (fun s hs=>?_)]
   ·rfl
   ·rcases zAQ h hs hF with e |e
    ·subst e
     obtain ⟨x,hx⟩:=zf4 hn
     have hI:x.Interface=true:=by unfold isF at hF;rw [hx] at hF;exact hF
     unfold zm6
     rw [hx]
     show (match x.Methods.find? (fun y=>y.Name == n) with |some f=>cond (zbB f) (some (s,f,true)) none |none=>none)=none
     cases hf:x.Methods.find? (fun y=>y.Name == n) with
     |none=>rfl
     |some f =>
      have:=zmK h (zbR hx).1 (List.mem_of_find?_eq_some hf)
      simp only [zbB,this,hI,Bool.not_true,Bool.and_false,cond_false]
    ·rw [e];exact zAl h _ _
  |false =>
   simp only [Bool.not_false,Bool.and_self,cond_true]
   have e:(zdW L c).findSome? (chG L n)=((zdW L c).findSome? (zm6 L zbB n)).map (fun z:MR=>(z.1,z.2.2)):=by
    rw [zoC]
    refine zoB fun s hs=>?_
    obtain ⟨x,hx⟩:=zf4 (znX h c s hs)
    have hI:x.Interface=false:=by
     have:=zCM h hs hF
     unfold isF at this
     rw [hx] at this;exact this
    unfold chG zm6
    rw [hx]
    show (match x.Methods.find? (fun y=>y.Name == n) with |some f=>cond (!f.Static) (some (s,true)) none |none=>none)=Option.map _ (match x.Methods.find? (fun y=>y.Name == n) with |some f=>cond (zbB f) (some (s,f,true)) none |none=>none)
    cases hf:x.Methods.find? (fun y=>y.Name == n) with
    |none=>rfl
    |some f =>
     have:=zmK h (zbR hx).1 (List.mem_of_find?_eq_some hf)
     simp only [zbB,this,hI,Bool.not_false,Bool.and_true]
     cases f.Static <;> rfl
   rw [e]
   cases (zdW L c).findSome? (zm6 L zbB n) <;> rfl
end
section
variable {l L : List za} {m : List (Tx × Int)}
def zsa(L:List za)(t:Tx):Bool:=((t == [78])||(t == [84]))||thN L t
def zyH(L:List za)(t:Tx):Bool:=!(t == [73])&&thN L t
def zmt(L:List za)(a b:Tx):Bool:=
 (zsa L a&&zsa L b)&&cond ((b == [84])||(a == b)) true (cond (a == [78]) (zyH L b) ((zyH L a&&zyH L b)&&(isF L b||zut L a b)))
theorem sub_self(t:Tx):zut L t t=thN L t:=by
 rw [zuu]
 simp
theorem zCs:zfU [78]=false:=by decide +kernel
theorem zCt:zfU [84]=false:=by decide +kernel
theorem zEI:thN L [78]=false:=by unfold thN;rw [zCs];rfl
theorem zE3:thN L [84]=false:=by unfold thN;rw [zCt];rfl
theorem znn(h:zcC l L)(hm:zbc L m){t:Tx}(ht:t.length≤25):zdl L m t=some (zsa L t):=by
 unfold zdl zsa
 rw [zor h hm ht (by unfold Len;omega),sub_self]
 cases ((t == [78])||(t == [84])) <;> rfl
theorem zyI(h:zcC l L)(hm:zbc L m){t:Tx}(ht:t.length≤25):zhg L m t=some (zyH L t):=by
 unfold zhg zyH
 rw [zor h hm ht (by unfold Len;omega),sub_self]
 cases (t == [73]) <;> rfl
theorem zsK(b:Tx):isF L b=(match cl L b with |some c=>(c,true) |none=>(zC,false)).1.Interface:=by
 unfold isF
 cases cl L b <;> rfl
theorem zoV(h:zcC l L)(hm:zbc L m){a b:Tx}(ha:a.length≤25)(hb:b.length≤25):zeW L m a b=some (zmt L a b):=by
 unfold zeW zmt
 rw [znn h hm ha,znn h hm hb,zyI h hm ha,zyI h hm hb,zor h hm ha (by unfold Len;omega)]
 have e:zz L m b=some (match cl L b with |some c=>(c,true) |none=>(zC,false)):=zuL hm b
 rw [e]
 simp only [Option.bind_some]
 rw [←zsK]
 cases zsa L a <;> cases zsa L b <;> cases ((b == [84])||(a == b)) <;> cases (a == [78]) <;> cases zyH L a <;> cases zyH L b <;> cases isF L b <;> rfl
theorem zkX{a b:Tx}(h:a≠b):(a == b)=false:=beq_eq_false_iff_ne.2 h
theorem zxK(a b:Tx):zmt L a b=cond (b == [84]) (((a == [84])||(a == [78]))||thN L a) (cond (a == [78]) ((b == [78])||(!(b == [73])&&thN L b)) (cond (a == b) (thN L a)
  (cond (((a == [73])||(b == [73]))||!thN L a) false (cond (!thN L b) false (isF L b||zut L a b))))):=by
 unfold zmt
 by_cases hbT:b=[84]
 ·subst hbT
  unfold zsa
  cases (a == [84]) <;> cases (a == [78]) <;> cases thN L a <;> simp
 ·rw [zkX hbT]
  by_cases haN:a=[78]
  ·subst haN
   by_cases hbN:b=[78]
   ·subst hbN
    unfold zsa
    simp
   ·have e:(([78]:Tx) == b)=false:=zkX (Ne.symm hbN)
    unfold zsa zyH
    rw [e,zkX hbN,zkX hbT,zEI]
    cases (b == [73]) <;> cases thN L b <;> simp
  ·rw [zkX haN]
   by_cases hab:a=b
   ·subst hab
    unfold zsa
    rw [zkX haN,zkX hbT]
    cases thN L a <;> simp
   ·rw [zkX hab]
    by_cases haT:a=[84]
    ·subst haT
     unfold zyH
     rw [zE3]
     simp
    ·by_cases hbN:b=[78]
     ·subst hbN
      unfold zyH
      rw [zEI]
      simp
     ·unfold zsa zyH
      rw [zkX haN,zkX haT,zkX hbN,zkX hbT]
      cases (a == [73]) <;> cases (b == [73]) <;> cases thN L a <;> cases thN L b <;> simp
theorem zhf(h:zcC l L){a b:Tx}(ha:a.length≤25)(hb:b.length≤25):zcm L a b=some (zmt L a b):=by
 have h26:=h.len
 rw [zxK]
 unfold zcm
 rw [zd5 h (by omega),zd5 h (by omega),zns (by omega),zqY h ha (by omega)]
 simp only [Option.bind_some]
 have e:(cond (decide (0≤atN L b)) ((idx L (atN L b)).bind fun v15=>some v15.Interface) (some false))=some (isF L b):=by
  rw [zsx,zoD]
  unfold isF
  cases hc:cl L b with
  |none=>rw [zmU hc];rfl
  |some c=>rw [zgP hc];rfl
 rw [e]
 simp only [Option.bind_some]
 cases (b == [84]) <;> cases (a == [84]) <;> cases (a == [78]) <;> cases (b == [78]) <;> cases (a == [73]) <;> cases (b == [73]) <;> cases (a == b) <;> cases thN L a <;> cases thN L b <;> cases isF L b <;> rfl
end
def ShL(l:List Tx):Prop:=l.length≤100∧∀t∈l,t.length≤25
theorem ShL.add{l:List Tx}{t:Tx}(h:l.length≤99∧∀t∈l,t.length≤25)(ht:t.length≤25):ShL (l++[t]):=
 ⟨by simp;omega,fun x hx=>by
  rcases List.mem_append.1 hx with h1 |h1
  ·exact h.2 x h1
  ·rw [List.mem_singleton.1 h1];exact ht⟩
theorem ShL.drop{l:List Tx}(h:ShL l):ShL l.dropLast:=⟨by rw [List.length_dropLast];have:=h.1;omega,fun x hx=>h.2 x (List.dropLast_subset l hx)⟩
def zbH(e:Tx)(s:List Tx)(b:Bool):Tx×List Tx×Bool:=match s.getLast? with |some t=>(t,s.dropLast,b) |none=>(e,s,true)
theorem zkE(e:Tx)(s:List Tx)(t:Tx)(b:Bool):zbH e (s++[t]) b=(t,s,b):=by simp [zbH]
theorem zhQ(s:List Tx):s=[]∨∃r t,s=r++[t]:=by
 rcases List.eq_nil_or_concat s with h |⟨r,t,h⟩
 ·exact .inl h
 ·exact .inr ⟨r,t,by simpa using h⟩
theorem zdU{e:Tx}{s:List Tx}{b:Bool}(h:ShL s)(he:e.length≤25):(zbH e s b).1.length≤25∧ShL (zbH e s b).2.1:=by
 rcases zhQ s with rfl |⟨r,t,rfl⟩
 ·exact ⟨he,h⟩
 ·rw [zkE]
  refine ⟨h.2 t (by simp),⟨?_,fun x hx=>h.2 x (by simp [hx])⟩⟩
  have:=h.1;simp at this;show r.length≤100;omega
theorem zgX{e:Tx}{s:List Tx}{b:Bool}(h:b=true):(zbH e s b).2.2=true:=by
 unfold zbH;split <;> simp [h]
section
variable {l L : List za} {m : List (Tx × Int)} {c : Tx} {mt : zb} {loc stk : List Tx} {b : Bool}
theorem zmB(hs:stk.length≤1000):zaf L m c mt loc stk b=some (zbH [84] stk b):=by
 unfold zaf
 rcases zhQ stk with rfl |⟨r,t,rfl⟩
 ·rfl
 ·have hl:((r++[t]).length:Int)=(r.length:Int)+1:=by simp
  have h0:(((r++[t]).length:Int) == 0)=false:=beq_eq_false_iff_ne.2 (by omega)
  have hw:IntKind.i64.wrap (((r++[t]).length:Int)-1)=(r.length:Int):=by
   rw [hl,zmj (by omega) (by simp at hs;omega)];omega
  rw [h0,hw,zkE,zs]
  have h1:(r++[t])[r.length]?=some t:=by simp
  have h2:zjs (r++[t]) 0 (r.length:Int)=some r:=by
   unfold zjs
   rw [if_pos ⟨by omega,by omega,by omega⟩]
   simp
  rw [h1,h2]
  rfl
theorem ze2{t:Tx}(hs:stk.length≤1000):zw L m c mt loc stk b t=some (stk++[t]):=by
 unfold zw zgT
 rw [if_pos (by simp;omega)]
 rfl
theorem zrn{x:List Tx}(hs:x.length≤1000):zkT x=some x:=by
 unfold zkT zgT
 rw [if_pos (by simp;omega)]
 rfl
def zac(L:List za)(e:Tx):List Tx→List Tx→Bool→List Tx×Bool
 | [],s,b=>(s,b)
 |w ::r,s,b=>zac L e r (zbH e s b).2.1 ((zbH e s b).2.2||!zmt L (zbH e s b).1 w)
theorem zdX{e:Tx}(he:e.length≤25):∀(ts s:List Tx) (b:Bool),ShL s→ShL (zac L e ts s b).1:=by
 intro ts
 induction ts with
 |nil=>intro s b h;exact h
 |cons w r ih=>intro s b h;exact ih _ _ (zdU h he).2
theorem zbk{e:Tx}:∀(ts s:List Tx) (b:Bool),b=true→(zac L e ts s b).2=true:=by
 intro ts
 induction ts with
 |nil=>intro s b h;exact h
 |cons w r ih=>intro s b h;exact ih _ _ (by rw [zgX h];rfl)
theorem zCO(h:zcC l L)(hm:zbc L m){ts:List Tx}(ht:ShL ts):∀(k:Nat),k≤ts.length→∀(s:List Tx) (b:Bool),ShL s →
  zm (fun z=>zaH L m c mt loc ts z.1 z.2.1 z.2.2) (s,b,(k:Int)-1)=some (.inl (zac L [84] (ts.take k).reverse s b)):=by
 intro k
 induction k with
 |zero =>
  intro _ s b hs
  rw [zE]
  show (zaH L m c mt loc ts s b (((0:Nat):Int)-1)).bind _=_
  unfold zaH
  rw [decide_eq_false (by omega)]
  rfl
 |succ k ih =>
  intro hk s b hs
  rw [zE]
  show (zaH L m c mt loc ts s b (((k+1:Nat):Int)-1)).bind _=_
  have e1:(((k+1:Nat):Int)-1)=(k:Int):=by omega
  have hlt:k<ts.length:=by omega
  obtain ⟨h1,h2⟩:=zdU (b:=b) hs (e:=[84]) (by decide)
  have hw:IntKind.i64.wrap ((k:Int)-1)=(k:Int)-1:=zmj (by omega) (by have:=ht.1;omega)
  have step:zaH L m c mt loc ts s b (((k+1:Nat):Int)-1)=some (.inl ((zbH [84] s b).2.1,(zbH [84] s b).2.2||!zmt L (zbH [84] s b).1 ts[k],(k:Int)-1)):=by
   unfold zaH
   rw [e1,decide_eq_true (by omega),zs,List.getElem?_eq_getElem hlt,zmB (by have:=hs.1;omega)]
   simp only [cond_true,Option.bind_some]
   rw [zoV h hm h1 (ht.2 _ (List.getElem_mem hlt)),hw]
   rfl
  rw [step]
  simp only [Option.bind_some,Sum.elim_inl]
  rw [show zm (fun z=>zaH L m c mt loc ts z.1 z.2.1 z.2.2) ((zbH [84] s b).2.1,(zbH [84] s b).2.2||!zmt L (zbH [84] s b).1 ts[k],(k:Int)-1)=_ from ih (by omega) _ _ h2]
  have e2:(ts.take (k+1)).reverse=ts[k]::(ts.take k).reverse:=by
   rw [List.take_add_one,List.getElem?_eq_getElem hlt];simp
  rw [e2]
  rfl
theorem zfD(h:zcC l L)(hm:zbc L m){ts:List Tx}(ht:ShL ts)(hs:ShL stk):zB L m c mt loc stk b ts=some (zac L [84] ts.reverse stk b):=by
 unfold zB
 have hw:IntKind.i64.wrap ((ts.length:Int)-1)=(ts.length:Int)-1:=zmj (by omega) (by have:=ht.1;omega)
 rw [hw,show zm (fun z=>zaH L m c mt loc ts z.1 z.2.1 z.2.2) (stk,b,(ts.length:Int)-1)=_ from zCO h hm ht ts.length (Nat.le_refl _) stk b hs,List.take_length]
 rfl
end
theorem sh1{t:Tx}(h:t.length≤25):ShL [t]:=⟨by simp,fun x hx=>by rw [List.mem_singleton.1 hx];exact h⟩
theorem sh2{t u:Tx}(h:t.length≤25)(k:u.length≤25):ShL [t,u]:=⟨by simp,fun x hx=>by
 rcases List.mem_cons.1 hx with rfl |hx
 ·exact h
 ·rw [List.mem_singleton.1 hx];exact k⟩
theorem sh3{t u v:Tx}(h:t.length≤25)(k:u.length≤25)(j:v.length≤25):ShL [t,u,v]:=⟨by simp,fun x hx=>by
 rcases List.mem_cons.1 hx with rfl |hx
 ·exact h
 ·exact (sh2 k j).2 x hx⟩
theorem ShL.len{l:List Tx}(h:ShL l):l.length≤1000:=by have:=h.1;omega
theorem zur{t:Tx}(h:t.length≤25):Len t:=by
 show t.length≤9223372036854775807
 omega
section
variable {l L : List za} {m : List (Tx × Int)} {c : Tx} {mt : zb} {loc stk : List Tx} {b : Bool}
def zhe(e:Tx)(s:List Tx)(b:Bool):Tx×List Tx×Bool:=
 ((zbH e s b).1,(zbH e s b).2.1,(zbH e s b).2.2||!(((zbH e s b).1 == [78])||zr2 (zbH e s b).1))
theorem zr1{e:Tx}{s:List Tx}{b:Bool}(h:ShL s)(he:e.length≤25):(zhe e s b).1.length≤25∧ShL (zhe e s b).2.1:=zdU h he
theorem zqX(hs:ShL stk):zb1 L m c mt loc stk b=some (zhe [84] stk b):=by
 unfold zb1 zhe
 obtain ⟨h1,h2⟩:=zdU (b:=b) hs (e:=[84]) (by decide)
 rw [zmB hs.len]
 simp only [Option.bind_some]
 rw [zkv (zur h1)]
 cases (zbH [84] stk b).1 == [78] <;> rfl
def zke(e:Tx)(s:List Tx)(b:Bool):Tx×List Tx×Bool:=
 (cond ((zbH e s b).1 == [78]) (zbH e s b).1 (zeZ (zbH e s b).1).1,(zbH e s b).2.1,(zbH e s b).2.2||!(((zbH e s b).1 == [78])||((zeZ (zbH e s b).1).2&&!((zeZ (zbH e s b).1).1 == [73]))))
theorem zxA{t:Tx}(h:t.length≤25):(zeZ t).1.length≤25:=by
 unfold zeZ
 cases zfU t&&brk t
 ·exact Nat.zero_le _
 ·show (t.drop 1).length≤25
  simp;omega
theorem ztH{e:Tx}{s:List Tx}{b:Bool}(h:ShL s)(he:e.length≤25):(zke e s b).1.length≤25∧ShL (zke e s b).2.1:=by
 obtain ⟨h1,h2⟩:=zdU (b:=b) h he
 refine ⟨?_,h2⟩
 unfold zke
 cases (zbH e s b).1 == [78]
 ·exact zxA h1
 ·exact h1
theorem zuF(hs:ShL stk):zdQ L m c mt loc stk b=some (zke [84] stk b):=by
 unfold zdQ zke
 obtain ⟨h1,h2⟩:=zdU (b:=b) hs (e:=[84]) (by decide)
 rw [zmB hs.len]
 simp only [Option.bind_some]
 rw [zfw (zur h1)]
 cases (zbH [84] stk b).1 == [78] <;> rfl
theorem zj4(e f:Tx)(s:List Tx)(b:Bool):(zbH e s b).2=(zbH f s b).2:=by
 unfold zbH;split <;> rfl
theorem zfq(e f:Tx)(s:List Tx)(b:Bool)(h:(zbH e s b).2.2=false):(zbH e s b).1=(zbH f s b).1:=by
 unfold zbH at h ⊢
 split
 ·rfl
 ·rename_i hq;rw [hq] at h;cases h
theorem zpM{a p q:Bool}(h:a=false→p=q):(a||p)=(a||q):=by
 cases a
 ·rw [h rfl]
 ·rfl
theorem ze4(e f:Tx):∀(ts s:List Tx) (b:Bool),zac L e ts s b=zac L f ts s b:=by
 intro ts
 induction ts with
 |nil=>intro s b;rfl
 |cons w r ih =>
  intro s b
  show zac L e r (zbH e s b).2.1 ((zbH e s b).2.2||!zmt L (zbH e s b).1 w)=zac L f r (zbH f s b).2.1 ((zbH f s b).2.2||!zmt L (zbH f s b).1 w)
  rw [ih,←zj4 e f s b,zpM (fun h=>by rw [zfq e f s b h])]
theorem zBs(e f:Tx)(s:List Tx)(b:Bool):(zhe e s b).2=(zhe f s b).2:=by
 unfold zhe
 rw [←zj4 e f s b,zpM (fun h=>by rw [zfq e f s b h])]
theorem zwE(e f:Tx)(s:List Tx)(b:Bool)(h:(zhe e s b).2.2=false):(zhe e s b).1=(zhe f s b).1:=
 zfq e f s b (by unfold zhe at h;simp only [Bool.or_eq_false_iff] at h;exact h.1)
theorem zA5(e f:Tx)(s:List Tx)(b:Bool):(zke e s b).2=(zke f s b).2:=by
 unfold zke
 rw [←zj4 e f s b,zpM (fun h=>by rw [zfq e f s b h])]
theorem zvX(e f:Tx)(s:List Tx)(b:Bool)(h:(zke e s b).2.2=false):(zke e s b).1=(zke f s b).1:=by
 have h1:(zbH e s b).2.2=false:=by unfold zke at h;simp only [Bool.or_eq_false_iff] at h;exact h.1
 unfold zke
 rw [zfq e f s b h1]
end
section
variable {l L : List za} {c : Tx} {mt : zb} {loc stk : List Tx} {b : Bool}
theorem zjb(hs:stk.length≤1000):zaz L c mt loc stk b=some (zbH [78] stk b):=by
 unfold zaz
 rcases zhQ stk with rfl |⟨r,t,rfl⟩
 ·rfl
 ·have hl:((r++[t]).length:Int)=(r.length:Int)+1:=by simp
  have h0:(((r++[t]).length:Int) == 0)=false:=beq_eq_false_iff_ne.2 (by omega)
  have hw:IntKind.i64.wrap (((r++[t]).length:Int)-1)=(r.length:Int):=by
   rw [hl,zmj (by omega) (by simp at hs;omega)];omega
  rw [h0,hw,zkE,zs]
  have h1:(r++[t])[r.length]?=some t:=by simp
  have h2:zjs (r++[t]) 0 (r.length:Int)=some r:=by
   unfold zjs
   rw [if_pos ⟨by omega,by omega,by omega⟩]
   simp
  rw [h1,h2]
  rfl
theorem zAA(h:zcC l L){ts:List Tx}(ht:ShL ts):∀(k:Nat),k≤ts.length→∀(s:List Tx) (b:Bool),ShL s →
  zm (fun z=>zaV L c mt loc ts z.1 z.2.1 z.2.2) (s,b,(k:Int)-1)=some (.inl (zac L [78] (ts.take k).reverse s b)):=by
 intro k
 induction k with
 |zero =>
  intro _ s b hs
  rw [zE]
  show (zaV L c mt loc ts s b (((0:Nat):Int)-1)).bind _=_
  unfold zaV
  rw [decide_eq_false (by omega)]
  rfl
 |succ k ih =>
  intro hk s b hs
  rw [zE]
  show (zaV L c mt loc ts s b (((k+1:Nat):Int)-1)).bind _=_
  have e1:(((k+1:Nat):Int)-1)=(k:Int):=by omega
  have hlt:k<ts.length:=by omega
  obtain ⟨h1,h2⟩:=zdU (b:=b) hs (e:=[78]) (by decide)
  have hw:IntKind.i64.wrap ((k:Int)-1)=(k:Int)-1:=zmj (by omega) (by have:=ht.1;omega)
  have step:zaV L c mt loc ts s b (((k+1:Nat):Int)-1)=some (.inl ((zbH [78] s b).2.1,(zbH [78] s b).2.2||!zmt L (zbH [78] s b).1 ts[k],(k:Int)-1)):=by
   unfold zaV
   rw [e1,decide_eq_true (by omega),zs,List.getElem?_eq_getElem hlt,zjb hs.len]
   simp only [cond_true,Option.bind_some]
   rw [zhf h h1 (ht.2 _ (List.getElem_mem hlt)),hw]
   rfl
  rw [step]
  simp only [Option.bind_some,Sum.elim_inl]
  rw [show zm (fun z=>zaV L c mt loc ts z.1 z.2.1 z.2.2) ((zbH [78] s b).2.1,(zbH [78] s b).2.2||!zmt L (zbH [78] s b).1 ts[k],(k:Int)-1)=_ from ih (by omega) _ _ h2]
  have e2:(ts.take (k+1)).reverse=ts[k]::(ts.take k).reverse:=by
   rw [List.take_add_one,List.getElem?_eq_getElem hlt];simp
  rw [e2]
  rfl
theorem zew(h:zcC l L){ts:List Tx}(ht:ShL ts)(hs:ShL stk):zV L c mt loc stk b ts=some (zac L [78] ts.reverse stk b):=by
 unfold zV
 have hw:IntKind.i64.wrap ((ts.length:Int)-1)=(ts.length:Int)-1:=zmj (by omega) (by have:=ht.1;omega)
 rw [hw,show zm (fun z=>zaV L c mt loc ts z.1 z.2.1 z.2.2) (stk,b,(ts.length:Int)-1)=_ from zAA h ht ts.length (Nat.le_refl _) stk b hs,List.take_length]
 rfl
def zoI(most:Int)(s:List Tx)(b:Bool)(t:Tx):List Tx×Bool:=(s++[t],b||!decide (((s++[t]).length:Int)≤most))
theorem ze3{t:Tx}(hs:stk.length≤1000):zR L c mt loc stk b t=some (zoI mt.Stack stk b t):=by
 unfold zR zoI zgT
 rw [if_pos (by simp;omega)]
 simp only [List.nil_append,Option.bind_some]
 rw [if_pos (by simp;omega)]
 rfl
def zni(s:List Tx)(b:Bool):Tx×List Tx×Bool:=((zbH [78] s b).1,(zbH [78] s b).2.1,(zbH [78] s b).2.2||!(!((zbH [78] s b).1 == [73])))
theorem znj(hs:ShL stk):zcd L c mt loc stk b=some (zni stk b):=by
 unfold zcd
 rw [zjb hs.len]
 rfl
theorem zxw{p q:List Tx}(hp:p.length≤1000)(hq:q.length≤1000):zfs (zjM.mk p q)=some (p,q):=by
 unfold zfs zgT
 simp only
 rw [if_pos (by simp;omega),if_pos (by simp;omega)]
 rfl
end
def zn4(most:Int)(p r:List Tx×List Tx×Bool):Prop:=
 (p.2.2||!decide ((p.2.1.length:Int)≤most))=r.2.2∧(r.2.2=false→p.1=r.1∧p.2.1=r.2.1)
section
variable {L : List za} {most : Int} {loc s : List Tx} {b : Bool}
theorem zeT(t:Tx):zn4 most (loc,s++[t],b) (loc,(zoI most s b t).1,(zoI most s b t).2):=⟨rfl,fun _=>⟨rfl,rfl⟩⟩
theorem ztn(t u:Tx):zn4 most (loc,s++[t]++[u],b) (loc,(zoI most (zoI most s b t).1 (zoI most s b t).2 u).1,(zoI most (zoI most s b t).1 (zoI most s b t).2 u).2):=by
 refine ⟨?_,fun _=>⟨rfl,rfl⟩⟩
 show (b||!decide (((s++[t]++[u]).length:Int)≤most))=((b||!decide (((s++[t]).length:Int)≤most))||!decide (((s++[t]++[u]).length:Int)≤most))
 by_cases h:((s++[t]++[u]).length:Int)≤most
 ·have h2:((s++[t]).length:Int)≤most:=by simp at h ⊢;omega
  rw [decide_eq_true h,decide_eq_true h2];simp
 ·rw [decide_eq_false h];simp
theorem zft(h:b=false→(s.length:Int)≤most):zn4 most (loc,s,b) (loc,s,b):=by
 refine ⟨?_,fun _=>⟨rfl,rfl⟩⟩
 show (b||!decide ((s.length:Int)≤most))=b
 cases b with
 |true=>rfl
 |false=>rw [decide_eq_true (h rfl)];rfl
theorem zgb{p r:List Tx×List Tx×Bool}(hp:p.2.2=true)(hr:r.2.2=true):zn4 most p r:=
 ⟨by rw [hp,hr];rfl,fun h=>by rw [hr] at h;cases h⟩
theorem zpN(e:Tx)(s:List Tx)(b:Bool):(zbH e s b).2.1.length≤s.length:=by
 rcases zhQ s with rfl |⟨r,t,rfl⟩
 ·exact Nat.le_refl _
 ·rw [zkE];simp
theorem zjy(e:Tx):∀(ts s:List Tx) (b:Bool),(zac L e ts s b).1.length≤s.length:=by
 intro ts
 induction ts with
 |nil=>intro s b;exact Nat.le_refl _
 |cons w r ih=>intro s b;exact Nat.le_trans (ih _ _) (zpN e s b)
theorem zza(e w w':Tx)(s:List Tx)(b:Bool):zac L e [w,w'] s b=zac L e [w'] (zac L e [w] s b).1 (zac L e [w] s b).2:=rfl
end
def onS(t:Tx):Prop:=t=[78]∨zfU t=true
theorem znS{s:List Tx}{b:Bool}(h:∀t∈s,onS t):(zni s b).2=(zhe [84] s b).2∧((zni s b).2.2=false→(zni s b).1=(zhe [84] s b).1):=by
 have key:(zni s b).2=(zhe [78] s b).2:=by
  unfold zni zhe
  rcases zhQ s with rfl |⟨r,t,rfl⟩
  ·rfl
  ·rw [zkE]
   have ht:=h t (by simp)
   show (r,b||!(!(t == [73])))=(r,b||!((t == [78])||zr2 t))
   rcases ht with rfl |ht
   ·rfl
   ·unfold zr2
    rw [ht]
    have:(t == [78])=false:=beq_eq_false_iff_ne.2 fun e=>by rw [e,zCs] at ht;cases ht
    rw [this]
    cases t == [73] <;> rfl
 refine ⟨key.trans (zBs [78] [84] s b),fun hf=>?_⟩
 have:(zni s b).2.2=(zhe [84] s b).2.2:=by rw [key,zBs [78] [84] s b]
 rw [this] at hf
 exact (zwE [84] [78] s b hf).symm
def zzD(t:Tx):Prop:=t.length≤25∧onS t
theorem zlr:zzD [73]:=⟨by decide,.inr (by decide +kernel)⟩
theorem zz0:zzD [78]:=⟨by decide,.inl rfl⟩
theorem zwa{t:Tx}(h:zfU t=true)(hl:t.length≤25):zzD t:=⟨hl,.inr h⟩
def zmf(loc stk:List Tx)(b:Bool)(p:List Tx×List Tx×Bool):Prop:=
 (b=true→p.2.2=true) ∧
 (p.1.length=loc.length∧p.2.1.length≤stk.length+2∧(∀t∈p.1,t.length≤25)∧∀t∈p.2.1,t.length≤25) ∧
 (p.2.2=false→(∀t∈p.2.1,t∈stk∨zzD t)∧∀t∈p.1,t∈loc∨t∈stk)
theorem zgY(e:Tx)(s:List Tx)(b:Bool):(zbH e s b).2.1<+:s:=by
 rcases zhQ s with rfl |⟨r,t,rfl⟩
 ·exact List.prefix_refl _
 ·rw [zkE];exact List.prefix_append _ _
theorem zlG{e:Tx}{s:List Tx}{b:Bool}(h:(zbH e s b).2.2=false):(zbH e s b).1∈s:=by
 rcases zhQ s with rfl |⟨r,t,rfl⟩
 ·cases h
 ·rw [zkE];simp
theorem zkJ(e:Tx)(s:List Tx)(b:Bool):(zhe e s b).2.1<+:s:=zgY e s b
theorem zuD(e:Tx)(s:List Tx)(b:Bool):(zke e s b).2.1<+:s:=zgY e s b
theorem zma{e:Tx}{s:List Tx}{b:Bool}(h:b=true):(zhe e s b).2.2=true:=by unfold zhe;rw [zgX h];rfl
theorem zuC{e:Tx}{s:List Tx}{b:Bool}(h:b=true):(zke e s b).2.2=true:=by unfold zke;rw [zgX h];rfl
theorem zdz(L:List za)(e:Tx):∀(ts s:List Tx) (b:Bool),(zac L e ts s b).1<+:s:=by
 intro ts
 induction ts with
 |nil=>intro s b;exact List.prefix_refl _
 |cons w r ih=>intro s b;exact (ih _ _).trans (zgY e s b)
section
variable {L : List za} {loc stk s : List Tx} {b0 b : Bool}
theorem zfl(hb0:b0=true→b=true)(hl:ShL loc)(hs:ShL stk)(h:s<+:stk):zmf loc stk b0 (loc,s,b):=
 ⟨hb0,⟨rfl,by have:=h.length_le;show s.length≤_;omega,hl.2,fun t ht=>hs.2 t (h.subset ht)⟩,fun _=>⟨fun t ht=>.inl (h.subset ht),fun t ht=>.inl ht⟩⟩
theorem zes{u:Tx}(hb0:b0=true→b=true)(hl:ShL loc)(hs:ShL stk)(h:s<+:stk)(h1:u.length≤25)(hu:b=false→u∈stk∨zzD u):zmf loc stk b0 (loc,s++[u],b):=
 ⟨hb0,⟨rfl,by have:=h.length_le;show (s++[u]).length≤_;simp;omega,hl.2,fun t ht=>by
  rcases List.mem_append.1 ht with k |k
  ·exact hs.2 t (h.subset k)
  ·rw [List.mem_singleton.1 k];exact h1⟩,fun hb=>⟨fun t ht=>by
  rcases List.mem_append.1 ht with k |k
  ·exact .inl (h.subset k)
  ·rw [List.mem_singleton.1 k];exact hu hb,fun t ht=>.inl ht⟩⟩
theorem zsL{u v:Tx}(hb0:b0=true→b=true)(hl:ShL loc)(hs:ShL stk)(h:s<+:stk)(h1:u.length≤25)(hu:b=false→u∈stk∨zzD u)(h2:v.length≤25)(hv:b=false→v∈stk∨zzD v):zmf loc stk b0 (loc,s++[u]++[v],b):=
 ⟨hb0,⟨rfl,by have:=h.length_le;show (s++[u]++[v]).length≤_;simp;omega,hl.2,fun t ht=>by
  rcases List.mem_append.1 ht with k |k
  ·rcases List.mem_append.1 k with k |k
   ·exact hs.2 t (h.subset k)
   ·rw [List.mem_singleton.1 k];exact h1
  ·rw [List.mem_singleton.1 k];exact h2⟩,fun hb=>⟨fun t ht=>by
  rcases List.mem_append.1 ht with k |k
  ·rcases List.mem_append.1 k with k |k
   ·exact .inl (h.subset k)
   ·rw [List.mem_singleton.1 k];exact hu hb
  ·rw [List.mem_singleton.1 k];exact hv hb,fun t ht=>.inl ht⟩⟩
theorem zqM{k:Nat}{u:Tx}(hb0:b0=true→b=true)(hl:ShL loc)(hs:ShL stk)(h:s<+:stk)(h1:u.length≤25)(hu:b=false→u∈stk):zmf loc stk b0 (loc.set k u,s,b):=
 ⟨hb0,⟨List.length_set ..,by have:=h.length_le;show s.length≤_;omega,fun t ht=>by
  rcases List.mem_or_eq_of_mem_set ht with k |rfl
  ·exact hl.2 t k
  ·exact h1,fun t ht=>hs.2 t (h.subset ht)⟩,fun hb=>⟨fun t ht=>.inl (h.subset ht),fun t ht=>by
  rcases List.mem_or_eq_of_mem_set ht with k |rfl
  ·exact .inl k
  ·exact .inr (hu hb)⟩⟩
end
theorem bt{n a b:Int}(h:a≤n∧n≤b):zau n a b=true:=by
 unfold zau;rw [decide_eq_true h.1,decide_eq_true h.2];rfl
theorem bf{n a b:Int}(h:¬(a≤n∧n≤b)):zau n a b=false:=by
 unfold zau
 rw [Bool.and_eq_false_iff,decide_eq_false_iff_not,decide_eq_false_iff_not];omega
theorem ct{n a b:Int}(h:a≤n∧n≤b):(decide (a≤n)&&decide (n≤b))=true:=bt h
theorem cf{n a b:Int}(h:¬(a≤n∧n≤b)):(decide (a≤n)&&decide (n≤b))=false:=bf h
theorem qt{n k:Int}(h:n=k):(n == k)=true:=by rw [h];exact beq_self_eq_true k
theorem qf{n k:Int}(h:n≠k):(n == k)=false:=beq_eq_false_iff_ne.2 h
structure zfb(l L:List za)(m:List (Tx×Int))(mt:zb)(loc stk:List Tx)(b:Bool):Prop where
 made:zcC l L
 map:zbc L m
 lens:zlT L
 shL:ShL loc
 shS:ShL stk
 on:∀t∈stk,onS t
 room:(stk.length:Int)≤mt.Stack
 onL:∀t∈loc,t=[84]∨onS t
section
variable {l L : List za} {m : List (Tx × Int)} {c : Tx} {mt : zb} {loc stk : List Tx} {b : Bool} {x : zl}
theorem zwM(h:zfb l L m mt loc stk b)(ho:8≤x.Op∧x.Op≤19):
  ∃p r,zg L m c mt loc stk b x=some p∧zk L c mt loc stk b x=some r∧zn4 mt.Stack p r∧zmf loc stk b p:=by
 have h73:([73]:Tx).length≤25:=by decide
 by_cases hn:x.Op=13
 ·refine ⟨(loc,(zac L [84] [[73]] stk b).1++[[73]],(zac L [84] [[73]] stk b).2),_,?_,?_,zeT _,zes (zbk _ _ _) h.shL h.shS (zdz _ _ _ _ _) (by decide) fun _=>.inr zlr⟩
  ·unfold zg
   rw [bf (by omega),qt hn,zfD h.made h.map (sh1 h73) h.shS]
   simp only [cond_false,cond_true,Option.bind_some,List.reverse_singleton]
   rw [ze2 (zdX (by decide) _ _ _ h.shS).len]
   rfl
  ·unfold zk
   rw [ct ho,zew h.made (sh1 h73) h.shS,qt hn]
   simp only [cond_false,cond_true,Option.bind_some,List.reverse_singleton,Bool.not_true]
   unfold zeQ
   rw [ze3 (zdX (by decide) _ _ _ h.shS).len,ze4 [78] [84]]
   rfl
 ·refine ⟨(loc,(zac L [84] [[73],[73]] stk b).1++[[73]],(zac L [84] [[73],[73]] stk b).2),_,?_,?_,zeT _,zes (zbk _ _ _) h.shL h.shS (zdz _ _ _ _ _) (by decide) fun _=>.inr zlr⟩
  ·unfold zg
   rw [bf (by omega),qf hn,bt ho,zfD h.made h.map (sh2 h73 h73) h.shS]
   simp only [cond_false,cond_true,Option.bind_some]
   rw [show ([[73],[73]]:List Tx).reverse=[[73],[73]] from rfl,ze2 (zdX (by decide) _ _ _ h.shS).len]
   rfl
  ·unfold zk
   have hs:=zdX (L:=L) (e:=[78]) (by decide) [[73]] stk b h.shS
   rw [ct ho,zew h.made (sh1 h73) h.shS,qf hn]
   simp only [cond_false,cond_true,Option.bind_some,List.reverse_singleton,Bool.not_false]
   rw [zew h.made (sh1 h73) hs]
   simp only [Option.bind_some,List.reverse_singleton]
   unfold zeQ
   rw [ze3 (zdX (by decide) _ _ _ hs).len]
   rw [←zza,ze4 [78] [84]]
   rfl
theorem instr_plain(h1:¬(8≤x.Op∧x.Op≤45))(h2:¬(49≤x.Op∧x.Op≤55)):zk L c mt loc stk b x=(zU L c mt loc stk b x).bind fun v=>some (v.1,v.2.1,v.2.2):=by
 unfold zk
 rw [cf (by omega),cf (by omega),qf (show x.Op≠20 by omega),cf (by omega),cf (by omega),cf (by omega)]
 rfl
theorem zkB(h:1≤x.Op∧x.Op≤7):zg L m c mt loc stk b x=(zaP L m c mt loc stk b x).bind fun v=>some (v.1,v.2.1,v.2.2):=by
 unfold zg
 rw [bt h]
 rfl
theorem znL(h:56≤x.Op∧x.Op≤61):zg L m c mt loc stk b x=(zbO L m c mt loc stk b x).bind fun v=>some (loc,v.1,v.2):=by
 unfold zg
 rw [bf (by omega),qf (by omega),bf (by omega),qf (by omega),bf (by omega),bf (by omega),bf (by omega),bf (by omega),qf (by omega),bf (by omega),bf (by omega),bf (by omega),bf (by omega)]
 rfl
theorem zwN(h:zfb l L m mt loc stk b)(ho:x.Op=1∨x.Op=2):
  ∃p r,zg L m c mt loc stk b x=some p∧zk L c mt loc stk b x=some r∧zn4 mt.Stack p r∧zmf loc stk b p:=by
 rcases ho with ho |ho
 ·refine ⟨(loc,stk++[[73]],b),_,?_,?_,zeT _,zes id h.shL h.shS (List.prefix_refl _) (by decide) fun _=>.inr zlr⟩
  ·rw [zkB (by omega)]
   unfold zaP
   rw [qt ho,ze2 h.shS.len]
   rfl
  ·rw [instr_plain (by omega) (by omega)]
   unfold zU
   rw [qt ho,ze3 h.shS.len]
   rfl
 ·refine ⟨(loc,stk++[[78]],b),_,?_,?_,zeT _,zes id h.shL h.shS (List.prefix_refl _) (by decide) fun _=>.inr zz0⟩
  ·rw [zkB (by omega)]
   unfold zaP
   rw [qf (show x.Op≠1 by omega),qt ho]
   simp only [cond_false,cond_true]
   rw [ze2 h.shS.len]
   rfl
  ·rw [instr_plain (by omega) (by omega)]
   unfold zU
   rw [qf (show x.Op≠1 by omega),qt ho]
   simp only [cond_false,cond_true]
   rw [ze3 h.shS.len]
   rfl
theorem zAN(h:zfb l L m mt loc stk b)(ho:x.Op=5):
  ∃p r,zg L m c mt loc stk b x=some p∧zk L c mt loc stk b x=some r∧zn4 mt.Stack p r∧zmf loc stk b p:=by
 obtain ⟨g1,g2⟩:=zdU (b:=b) h.shS (e:=[84]) (by decide)
 obtain ⟨k1,k2⟩:=zdU (b:=b) h.shS (e:=[78]) (by decide)
 ·refine ⟨(loc,(zbH [84] stk b).2.1,(zbH [84] stk b).2.2),(loc,(zbH [84] stk b).2.1,(zbH [84] stk b).2.2),?_,?_,zft fun _=>?_,zfl zgX h.shL h.shS (zgY _ _ _)⟩
  ·rw [zkB (by omega)]
   unfold zaP
   rw [qf (show x.Op≠1 by omega),qf (show x.Op≠2 by omega),qf (show x.Op≠3 by omega),qf (show x.Op≠4 by omega),qt ho]
   simp only [cond_false,cond_true]
   rw [zmB h.shS.len]
   rfl
  ·rw [instr_plain (by omega) (by omega)]
   unfold zU
   rw [qf (show x.Op≠1 by omega),qf (show x.Op≠2 by omega),qf (show x.Op≠3 by omega),qf (show x.Op≠4 by omega),qt ho]
   simp only [cond_false,cond_true]
   rw [zjb h.shS.len,zj4 [84] [78]]
   rfl
  ·have:=zpN [84] stk b
   have:=h.room
   omega
end
section
variable {l L : List za} {m : List (Tx × Int)} {c : Tx} {mt : zb} {loc stk : List Tx} {b : Bool} {x : zl}
theorem znP{most:Int}{s:List Tx}{b:Bool}{t:Tx}(h:b=true):(zoI most s b t).2=true:=by
 unfold zoI;rw [h];rfl
theorem zAK(h:zfb l L m mt loc stk b)(ho:x.Op=6):
  ∃p r,zg L m c mt loc stk b x=some p∧zk L c mt loc stk b x=some r∧zn4 mt.Stack p r∧zmf loc stk b p:=by
 obtain ⟨g1,g2⟩:=zdU (b:=b) h.shS (e:=[84]) (by decide)
 obtain ⟨k1,k2⟩:=zdU (b:=b) h.shS (e:=[78]) (by decide)
 refine ⟨(loc,(zbH [84] stk b).2.1++[(zbH [84] stk b).1]++[(zbH [84] stk b).1],(zbH [84] stk b).2.2),
  (loc,(zoI mt.Stack (zoI mt.Stack (zbH [78] stk b).2.1 (zbH [78] stk b).2.2 (zbH [78] stk b).1).1 (zoI mt.Stack (zbH [78] stk b).2.1 (zbH [78] stk b).2.2 (zbH [78] stk b).1).2 (zbH [78] stk b).1).1,
   (zoI mt.Stack (zoI mt.Stack (zbH [78] stk b).2.1 (zbH [78] stk b).2.2 (zbH [78] stk b).1).1 (zoI mt.Stack (zbH [78] stk b).2.1 (zbH [78] stk b).2.2 (zbH [78] stk b).1).2 (zbH [78] stk b).1).2),?_,?_,?_,zsL zgX h.shL h.shS (zgY _ _ _) g1 (fun hb=>.inl (zlG hb)) g1 fun hb=>.inl (zlG hb)⟩
 ·rw [zkB (by omega)]
  unfold zaP
  rw [qf (show x.Op≠1 by omega),qf (show x.Op≠2 by omega),qf (show x.Op≠3 by omega),qf (show x.Op≠4 by omega),qf (show x.Op≠5 by omega),qt ho]
  simp only [cond_false,cond_true]
  rw [zmB h.shS.len]
  simp only [Option.bind_some]
  rw [ze2 g2.len]
  simp only [Option.bind_some]
  rw [ze2 (by have:=g2.1;simp;omega)]
  rfl
 ·rw [instr_plain (by omega) (by omega)]
  unfold zU
  rw [qf (show x.Op≠1 by omega),qf (show x.Op≠2 by omega),qf (show x.Op≠3 by omega),qf (show x.Op≠4 by omega),qf (show x.Op≠5 by omega),qt ho]
  simp only [cond_false,cond_true]
  rw [zjb h.shS.len]
  simp only [Option.bind_some]
  rw [ze3 k2.len]
  simp only [Option.bind_some]
  rw [ze3 (by have:=k2.1;show ((zbH [78] stk b).2.1++[(zbH [78] stk b).1]).length≤1000;simp;omega)]
  rfl
 ·cases hb:(zbH [84] stk b).2.2 with
  |true =>
   refine zgb rfl ?_
   have:(zbH [78] stk b).2.2=true:=by rw [←zj4 [84] [78]];exact hb
   exact znP (znP this)
  |false =>
   have e1:=zfq [84] [78] stk b hb
   have e2:=zj4 [84] [78] stk b
   rw [←e1,←e2,hb]
   exact ztn _ _
theorem zvn{e:Tx}{s:List Tx}{b:Bool}(h:(zbH e s b).2.2=false):b=false:=by
 cases b with
 |false=>rfl
 |true=>rw [zgX rfl] at h;cases h
theorem zy4(h:zfb l L m mt loc stk b)(ho:x.Op=7):
  ∃p r,zg L m c mt loc stk b x=some p∧zk L c mt loc stk b x=some r∧zn4 mt.Stack p r∧zmf loc stk b p:=by
 obtain ⟨g1,g2⟩:=zdU (b:=b) h.shS (e:=[84]) (by decide)
 obtain ⟨k1,k2⟩:=zdU (b:=b) h.shS (e:=[78]) (by decide)
 generalize hP:zbH [84] stk b=P at g1 g2
 generalize hR:zbH [78] stk b=R at k1 k2
 obtain ⟨g3,g4⟩:=zdU (b:=P.2.2) g2 (e:=[84]) (by decide)
 obtain ⟨k3,k4⟩:=zdU (b:=R.2.2) k2 (e:=[78]) (by decide)
 have hPs:P.2.1<+:stk:=by rw [←hP];exact zgY _ _ _
 have hPb:b=true→P.2.2=true:=by rw [←hP];exact zgX
 have hPi:P.2.2=false→P.1∈stk:=by rw [←hP];exact zlG
 refine ⟨(loc,(zbH [84] P.2.1 P.2.2).2.1++[P.1]++[(zbH [84] P.2.1 P.2.2).1],(zbH [84] P.2.1 P.2.2).2.2),
  (loc,(zoI mt.Stack (zoI mt.Stack (zbH [78] R.2.1 R.2.2).2.1 (zbH [78] R.2.1 R.2.2).2.2 R.1).1 (zoI mt.Stack (zbH [78] R.2.1 R.2.2).2.1 (zbH [78] R.2.1 R.2.2).2.2 R.1).2 (zbH [78] R.2.1 R.2.2).1).1,
   (zoI mt.Stack (zoI mt.Stack (zbH [78] R.2.1 R.2.2).2.1 (zbH [78] R.2.1 R.2.2).2.2 R.1).1 (zoI mt.Stack (zbH [78] R.2.1 R.2.2).2.1 (zbH [78] R.2.1 R.2.2).2.2 R.1).2 (zbH [78] R.2.1 R.2.2).1).2),?_,?_,?_,zsL (fun e=>zgX (hPb e)) h.shL h.shS ((zgY _ _ _).trans hPs) g1 (fun hb=>.inl (hPi (zvn hb))) g3 fun hb=>.inl (hPs.subset (zlG hb))⟩
 ·rw [zkB (by omega)]
  unfold zaP
  rw [qf (show x.Op≠1 by omega),qf (show x.Op≠2 by omega),qf (show x.Op≠3 by omega),qf (show x.Op≠4 by omega),qf (show x.Op≠5 by omega),qf (show x.Op≠6 by omega),qt ho]
  simp only [cond_false,cond_true]
  rw [zmB h.shS.len,hP]
  simp only [Option.bind_some]
  rw [zmB g2.len]
  simp only [Option.bind_some]
  rw [ze2 g4.len]
  simp only [Option.bind_some]
  rw [ze2 (by have:=g4.1;simp;omega)]
  rfl
 ·rw [instr_plain (by omega) (by omega)]
  unfold zU
  rw [qf (show x.Op≠1 by omega),qf (show x.Op≠2 by omega),qf (show x.Op≠3 by omega),qf (show x.Op≠4 by omega),qf (show x.Op≠5 by omega),qf (show x.Op≠6 by omega),qt ho]
  simp only [cond_false,cond_true]
  rw [zjb h.shS.len,hR]
  simp only [Option.bind_some]
  rw [zjb k2.len]
  simp only [Option.bind_some]
  rw [ze3 k4.len]
  simp only [Option.bind_some]
  rw [ze3 (by have:=k4.1;show ((zbH [78] R.2.1 R.2.2).2.1++[R.1]).length≤1000;simp;omega)]
  rfl
 ·have e2:P.2=R.2:=by rw [←hP,←hR];exact zj4 [84] [78] stk b
  cases hb:(zbH [84] P.2.1 P.2.2).2.2 with
  |true =>
   refine zgb rfl ?_
   have:(zbH [78] R.2.1 R.2.2).2.2=true:=by rw [←e2,←zj4 [84] [78]];exact hb
   exact znP (znP this)
  |false =>
   have e1:P.1=R.1:=by
    rw [←hP,←hR]
    exact zfq [84] [78] stk b (by rw [hP];exact zvn hb)
   have e3:=zfq [84] [78] P.2.1 P.2.2 hb
   have e4:=zj4 [84] [78] P.2.1 P.2.2
   rw [←e2,←e1,←e3,←e4,hb]
   exact ztn _ _
theorem zok(h:58≤x.Op):∀k:Int,k<58→(x.Op == k)=false:=fun k hk=>qf (by omega)
theorem zCI(h:zfb l L m mt loc stk b)(ho:x.Op=59):
  ∃p r,zg L m c mt loc stk b x=some p∧zk L c mt loc stk b x=some r∧zn4 mt.Stack p r∧zmf loc stk b p:=by
 have hq:=zok (x:=x) (by omega)
 refine ⟨(loc,stk++[[73]],b),_,?_,?_,zeT _,zes id h.shL h.shS (List.prefix_refl _) (by decide) fun _=>.inr zlr⟩
 ·rw [znL (by omega)]
  unfold zbO
  rw [hq 56 (by omega),hq 57 (by omega)]
  unfold zaT
  rw [qf (show x.Op≠58 by omega),qt ho]
  simp only [cond_false,cond_true]
  rw [ze2 h.shS.len]
  rfl
 ·rw [instr_plain (by omega) (by omega)]
  unfold zU
  rw [hq 1 (by omega),hq 2 (by omega),hq 3 (by omega),hq 4 (by omega),hq 5 (by omega),hq 6 (by omega),hq 7 (by omega),hq 46 (by omega),hq 47 (by omega),hq 48 (by omega),hq 56 (by omega),hq 57 (by omega),qf (show x.Op≠58 by omega),qt ho]
  simp only [cond_false,cond_true]
  rw [ze3 h.shS.len]
  rfl
theorem zAM(h:zfb l L m mt loc stk b)(ho:x.Op=60∨x.Op=61):
  ∃p r,zg L m c mt loc stk b x=some p∧zk L c mt loc stk b x=some r∧zn4 mt.Stack p r∧zmf loc stk b p:=by
 have hq:=zok (x:=x) (by omega)
 have h73:([73]:Tx).length≤25:=by decide
 refine ⟨(loc,(zac L [84] [[73]] stk b).1,(zac L [84] [[73]] stk b).2),(loc,(zac L [84] [[73]] stk b).1,(zac L [84] [[73]] stk b).2),?_,?_,zft fun _=>?_,zfl (zbk _ _ _) h.shL h.shS (zdz _ _ _ _ _)⟩
 ·rw [znL (by omega)]
  unfold zbO
  rw [hq 56 (by omega),hq 57 (by omega)]
  unfold zaT
  rw [qf (show x.Op≠58 by omega),qf (show x.Op≠59 by omega)]
  simp only [cond_false,cond_true]
  rw [zfD h.made h.map (sh1 h73) h.shS]
  rfl
 ·rw [instr_plain (by omega) (by omega)]
  unfold zU
  rw [hq 1 (by omega),hq 2 (by omega),hq 3 (by omega),hq 4 (by omega),hq 5 (by omega),hq 6 (by omega),hq 7 (by omega),hq 46 (by omega),hq 47 (by omega),hq 48 (by omega),hq 56 (by omega),hq 57 (by omega),qf (show x.Op≠58 by omega),qf (show x.Op≠59 by omega)]
  simp only [cond_false]
  have key:∀v,v=true→(zeR L c mt loc stk b v).bind (fun v=>some (v.1,v.2.1,v.2.2))=some (loc,(zac L [84] [[73]] stk b).1,(zac L [84] [[73]] stk b).2):=fun v hv=>by
   unfold zeR
   rw [hv,zew h.made (sh1 h73) h.shS,ze4 [78] [84]]
   rfl
  rcases ho with ho |ho
  ·rw [qt ho]
   exact key _ rfl
  ·rw [qf (show x.Op≠60 by omega),qt ho]
   exact key _ rfl
 ·have:=zjy (L:=L) [84] [[73]] stk b
  have:=h.room
  omega
theorem zwQ(h:zfb l L m mt loc stk b)(ho:x.Op=58):
  ∃p r,zg L m c mt loc stk b x=some p∧zk L c mt loc stk b x=some r∧zn4 mt.Stack p r∧zmf loc stk b p:=by
 have hq:=zok (x:=x) (by omega)
 have ht:([84,104,114,111,119,110]:Tx).length≤25:=by decide
 obtain ⟨k1,k2⟩:=zdU (b:=b) h.shS (e:=[78]) (by decide)
 refine ⟨(loc,(zac L [84] [[84,104,114,111,119,110]] stk b).1,(zac L [84] [[84,104,114,111,119,110]] stk b).2),(loc,(zac L [84] [[84,104,114,111,119,110]] stk b).1,(zac L [84] [[84,104,114,111,119,110]] stk b).2),?_,?_,zft fun _=>?_,zfl (zbk _ _ _) h.shL h.shS (zdz _ _ _ _ _)⟩
 ·rw [znL (by omega)]
  unfold zbO
  rw [hq 56 (by omega),hq 57 (by omega)]
  unfold zaT
  rw [qt ho]
  simp only [cond_false,cond_true]
  rw [zfD h.made h.map (sh1 ht) h.shS]
  rfl
 ·rw [instr_plain (by omega) (by omega)]
  unfold zU
  rw [hq 1 (by omega),hq 2 (by omega),hq 3 (by omega),hq 4 (by omega),hq 5 (by omega),hq 6 (by omega),hq 7 (by omega),hq 46 (by omega),hq 47 (by omega),hq 48 (by omega),hq 56 (by omega),hq 57 (by omega),qt ho]
  simp only [cond_false,cond_true]
  rw [zjb h.shS.len]
  simp only [Option.bind_some]
  rw [zhf h.made k1 ht,ze4 [84] [78]]
  rfl
 ·have:=zjy (L:=L) [84] [[84,104,114,111,119,110]] stk b
  have:=h.room
  omega
theorem zuc(h:46≤x.Op∧x.Op≤48):zg L m c mt loc stk b x=(zdI L m c mt loc stk b x.Op).bind fun v=>some (loc,v.1,v.2):=by
 unfold zg
 rw [bf (by omega),qf (show x.Op≠13 by omega),bf (by omega),qf (show x.Op≠20 by omega),bf (by omega),bf (by omega),bf (by omega),bf (by omega),qf (show x.Op≠37 by omega),bf (by omega),bf (by omega),bt h]
 rfl
theorem zAO(h:zfb l L m mt loc stk b)(ho:x.Op=46∨x.Op=47):
  ∃p r,zg L m c mt loc stk b x=some p∧zk L c mt loc stk b x=some r∧zn4 mt.Stack p r∧zmf loc stk b p:=by
 have h73:([73]:Tx).length≤25:=by decide
 have hq:∀k:Int,k<46→(x.Op == k)=false:=fun k hk=>qf (by omega)
 rcases ho with ho |ho
 ·refine ⟨(loc,stk,b||!(mt.Ret == [86])),(loc,stk,b||!(mt.Ret == [86])),?_,?_,zft fun _=>h.room,zfl (fun e=>by rw [e];rfl) h.shL h.shS (List.prefix_refl _)⟩
  ·rw [zuc (by omega)]
   unfold zdI
   rw [qt ho]
   rfl
  ·rw [instr_plain (by omega) (by omega)]
   unfold zU
   rw [hq 1 (by omega),hq 2 (by omega),hq 3 (by omega),hq 4 (by omega),hq 5 (by omega),hq 6 (by omega),hq 7 (by omega),qt ho]
   rfl
 ·refine ⟨(loc,(zac L [84] [[73]] stk (b||!(mt.Ret == [73]))).1,(zac L [84] [[73]] stk (b||!(mt.Ret == [73]))).2),(loc,(zac L [84] [[73]] stk b).1,(zac L [84] [[73]] stk b).2||!(mt.Ret == [73])),?_,?_,?_,zfl (fun e=>zbk _ _ _ (by rw [e];rfl)) h.shL h.shS (zdz _ _ _ _ _)⟩
  ·rw [zuc (by omega)]
   unfold zdI
   rw [qf (show x.Op≠46 by omega),qt ho]
   simp only [cond_false,cond_true]
   rw [zfD h.made h.map (sh1 h73) h.shS]
   rfl
  ·rw [instr_plain (by omega) (by omega)]
   unfold zU
   rw [hq 1 (by omega),hq 2 (by omega),hq 3 (by omega),hq 4 (by omega),hq 5 (by omega),hq 6 (by omega),hq 7 (by omega),qf (show x.Op≠46 by omega),qt ho]
   simp only [cond_false,cond_true]
   rw [zew h.made (sh1 h73) h.shS,ze4 [78] [84]]
   rfl
  ·have hl:=zjy (L:=L) [84] [[73]] stk b
   have hr:=h.room
   cases mt.Ret == [73] with
   |true =>
    rw [show (b||!true)=b by simp]
    rw [show ((zac L [84] [[73]] stk b).2||!true)=(zac L [84] [[73]] stk b).2 by simp]
    exact zft fun _=>by omega
   |false=>exact zgb (zbk _ _ _ (by simp)) (by simp)
end
section
variable {l L : List za} {m : List (Tx × Int)} {c : Tx} {mt : zb} {loc stk : List Tx} {b : Bool} {x : zl}
theorem zy3(h:zfb l L m mt loc stk b)(ho:x.Op=3)(hA:0≤x.A):
  ∃p r,zg L m c mt loc stk b x=some p∧zk L c mt loc stk b x=some r∧zn4 mt.Stack p r∧zmf loc stk b p:=by
 have P0:zg L m c mt loc stk b x=(cond (decide (((List.length loc):Int)≤x.A)) (zbA L m c mt loc stk b x true) ((idx loc x.A).bind fun v11=>zbA L m c mt loc stk b x (v11 == [84]))).bind fun v=>some (v.1,v.2.1,v.2.2):=by
  rw [zkB (by omega)]
  unfold zaP
  rw [qf (show x.Op≠1 by omega),qf (show x.Op≠2 by omega),qt ho]
  rfl
 have R0:zk L c mt loc stk b x=(cond (decide (x.A<(List.length loc:Int))) ((idx loc (if (IntKind.i64.wrap ((List.length loc:Int)-1))<x.A then (IntKind.i64.wrap ((List.length loc:Int)-1)) else x.A)).bind fun v10=>zcp L c mt loc stk x (b||(!(!(v10 == [84]))))) (zcp L c mt loc stk x (b||(!false)))).bind fun v=>some (v.1,v.2.1,v.2.2):=by
  rw [instr_plain (by omega) (by omega)]
  unfold zU
  rw [qf (show x.Op≠1 by omega),qf (show x.Op≠2 by omega),qt ho]
  rfl
 rw [P0,R0]
 by_cases hlt:x.A<(loc.length:Int)
 ·obtain ⟨k,hk⟩:∃k:Nat,x.A=(k:Int):=⟨x.A.toNat,by omega⟩
  have hkl:k<loc.length:=by omega
  have hw:IntKind.i64.wrap ((loc.length:Int)-1)=(loc.length:Int)-1:=zmj (by omega) (by have:=h.shL.1;omega)
  have hi:idx loc x.A=some loc[k]:=by rw [hk,zs,List.getElem?_eq_getElem hkl]
  rw [hw,if_neg (by omega),decide_eq_false (by omega),decide_eq_true hlt,hi]
  simp only [cond_false,cond_true,Option.bind_some]
  unfold zbA zcp
  rw [hi]
  simp only [Option.bind_some]
  cases ht:loc[k] == [84] with
  |true =>
   refine ⟨_,_,rfl,?_,zgb (r:=(loc,stk,true)) rfl rfl,zfl (fun _=>rfl) h.shL h.shS (List.prefix_refl _)⟩
   simp
  |false =>
   rw [ze2 h.shS.len]
   cases b with
   |true=>exact ⟨_,_,rfl,rfl,zgb rfl rfl,zes id h.shL h.shS (List.prefix_refl _) (h.shL.2 _ (List.getElem_mem hkl)) fun e=>by cases e⟩
   |false =>
    simp only [Bool.not_false,Bool.not_true,Bool.or_false,cond_true]
    rw [ze3 h.shS.len]
    exact ⟨_,_,rfl,rfl,zeT _,zes id h.shL h.shS (List.prefix_refl _) (h.shL.2 _ (List.getElem_mem hkl)) fun _=>.inr ⟨h.shL.2 _ (List.getElem_mem hkl),(h.onL _ (List.getElem_mem hkl)).resolve_left fun e=>by rw [e] at ht;cases ht⟩⟩
 ·rw [decide_eq_true (by omega),decide_eq_false hlt]
  simp only [cond_false,cond_true]
  unfold zbA zcp
  refine ⟨_,_,rfl,?_,zgb (r:=(loc,stk,true)) rfl rfl,zfl (fun _=>rfl) h.shL h.shS (List.prefix_refl _)⟩
  simp
theorem zwP(h:zfb l L m mt loc stk b)(ho:x.Op=4)(hA:0≤x.A):
  ∃p r,zg L m c mt loc stk b x=some p∧zk L c mt loc stk b x=some r∧zn4 mt.Stack p r∧zmf loc stk b p:=by
 have P0:zg L m c mt loc stk b x=((zaf L m c mt loc stk b).bind fun v15=>cond (decide (((List.length loc):Int)≤x.A)) (some (loc,v15.2.1,true)) ((zkT loc).bind fun v16=>(idx v16 x.A).bind fun v17=>some ((List.set v16 (Int.toNat x.A) v15.1),v15.2.1,v15.2.2))).bind fun v=>some (v.1,v.2.1,v.2.2):=by
  rw [zkB (by omega)]
  unfold zaP
  rw [qf (show x.Op≠1 by omega),qf (show x.Op≠2 by omega),qf (show x.Op≠3 by omega),qt ho]
  rfl
 have R0:zk L c mt loc stk b x=((zaz L c mt loc stk b).bind fun v14=>cond (!(v14.2.2||(!(decide (x.A<(List.length loc:Int)))))) ((zfs (zjM.mk loc v14.2.1)).bind fun v15=>(idx v15.1 x.A).bind fun v16=>some ((List.set v15.1 (Int.toNat x.A) v14.1),v15.2,(v14.2.2||(!(decide (x.A<(List.length loc:Int))))))) (some (loc,v14.2.1,(v14.2.2||(!(decide (x.A<(List.length loc:Int)))))))).bind fun v=>some (v.1,v.2.1,v.2.2):=by
  rw [instr_plain (by omega) (by omega)]
  unfold zU
  rw [qf (show x.Op≠1 by omega),qf (show x.Op≠2 by omega),qf (show x.Op≠3 by omega),qt ho]
  rfl
 obtain ⟨g1,g2⟩:=zdU (b:=b) h.shS (e:=[84]) (by decide)
 obtain ⟨k1,k2⟩:=zdU (b:=b) h.shS (e:=[78]) (by decide)
 rw [P0,R0,zmB h.shS.len,zjb h.shS.len]
 simp only [Option.bind_some]
 by_cases hlt:x.A<(loc.length:Int)
 ·obtain ⟨k,hk⟩:∃k:Nat,x.A=(k:Int):=⟨x.A.toNat,by omega⟩
  have hkl:k<loc.length:=by omega
  have hi:idx loc x.A=some loc[k]:=by rw [hk,zs,List.getElem?_eq_getElem hkl]
  rw [decide_eq_false (by omega),decide_eq_true hlt,zrn h.shL.len,zxw h.shL.len k2.len]
  simp only [cond_false,Option.bind_some,Bool.not_true,Bool.or_false]
  rw [hi]
  have e2:=zj4 [84] [78] stk b
  cases hb:(zbH [78] stk b).2.2 with
  |true=>exact ⟨_,_,rfl,rfl,zgb (by show (zbH [84] stk b).2.2=true;rw [e2];exact hb) rfl,zqM zgX h.shL h.shS (zgY _ _ _) g1 zlG⟩
  |false =>
   have e1:=zfq [78] [84] stk b hb
   refine ⟨_,_,rfl,rfl,?_,zqM zgX h.shL h.shS (zgY _ _ _) g1 zlG⟩
   rw [e1,e2,hb]
   refine zft fun _=>?_
   have:=zpN [78] stk b
   have:=h.room
   omega
 ·rw [decide_eq_true (by omega),decide_eq_false hlt]
  simp only [cond_true,Bool.not_false,Bool.or_true,Bool.not_true,cond_false]
  exact ⟨_,_,rfl,rfl,zgb rfl rfl,zfl (fun _=>rfl) h.shL h.shS (zgY _ _ _)⟩
theorem zsb{t:Tx}(ht:zfU t=true):zsa L t=thN L t:=by
 unfold zsa
 have e1:(t == [78])=false:=beq_eq_false_iff_ne.2 fun e=>by rw [e,zCs] at ht;cases ht
 have e2:(t == [84])=false:=beq_eq_false_iff_ne.2 fun e=>by rw [e,zCt] at ht;cases ht
 rw [e1,e2];rfl
theorem zy1(h:zfb l L m mt loc stk b)(ho:x.Op=56∨x.Op=57)(hC:zfU x.C=true)(hl:x.C.length≤25):
  ∃p r,zg L m c mt loc stk b x=some p∧zk L c mt loc stk b x=some r∧zn4 mt.Stack p r∧zmf loc stk b p:=by
 have hq:∀k:Int,k<56→(x.Op == k)=false:=fun k hk=>qf (by omega)
 obtain ⟨g1,g2⟩:=zr1 (b:=b) h.shS (e:=[84]) (by decide)
 have e2:=(znS (b:=b) h.on).1
 have k2:ShL (zni stk b).2.1:=by rw [e2];exact g2
 rcases ho with ho |ho
 ·refine ⟨(loc,(zhe [84] stk b).2.1++[x.C],(zhe [84] stk b).2.2||!thN L x.C),_,?_,?_,zeT _,zes (fun e=>by rw [zma e];rfl) h.shL h.shS (zkJ _ _ _) hl fun _=>.inr (zwa hC hl)⟩
  ·rw [znL (by omega)]
   unfold zbO
   rw [qt ho]
   unfold zaT
   simp only [cond_true]
   rw [zqX h.shS]
   simp only [Option.bind_some]
   rw [znn h.made h.map hl,zsb hC]
   simp only [Option.bind_some]
   rw [qt ho]
   simp only [cond_true]
   rw [ze2 g2.len]
   rfl
  ·rw [instr_plain (by omega) (by omega)]
   unfold zU
   rw [hq 1 (by omega),hq 2 (by omega),hq 3 (by omega),hq 4 (by omega),hq 5 (by omega),hq 6 (by omega),hq 7 (by omega),hq 46 (by omega),hq 47 (by omega),hq 48 (by omega),qt ho]
   simp only [cond_false,cond_true]
   rw [znj h.shS]
   simp only [Option.bind_some]
   rw [zd5 h.made (by omega)]
   simp only [Option.bind_some]
   rw [ze3 k2.len,e2]
   rfl
 ·refine ⟨(loc,(zhe [84] stk b).2.1++[[73]],(zhe [84] stk b).2.2||!thN L x.C),_,?_,?_,zeT _,zes (fun e=>by rw [zma e];rfl) h.shL h.shS (zkJ _ _ _) (by decide) fun _=>.inr zlr⟩
  ·rw [znL (by omega)]
   unfold zbO
   rw [qf (show x.Op≠56 by omega),qt ho]
   unfold zaT
   simp only [cond_true,cond_false]
   rw [zqX h.shS]
   simp only [Option.bind_some]
   rw [znn h.made h.map hl,zsb hC]
   simp only [Option.bind_some]
   rw [qf (show x.Op≠56 by omega)]
   simp only [cond_false]
   rw [ze2 g2.len]
   rfl
  ·rw [instr_plain (by omega) (by omega)]
   unfold zU
   rw [hq 1 (by omega),hq 2 (by omega),hq 3 (by omega),hq 4 (by omega),hq 5 (by omega),hq 6 (by omega),hq 7 (by omega),hq 46 (by omega),hq 47 (by omega),hq 48 (by omega),qf (show x.Op≠56 by omega),qt ho]
   simp only [cond_false,cond_true]
   rw [znj h.shS]
   simp only [Option.bind_some]
   rw [zd5 h.made (by omega)]
   simp only [Option.bind_some]
   rw [ze3 k2.len,e2]
   rfl
end
section
variable {l L : List za} {m : List (Tx × Int)} {c : Tx} {mt : zb} {loc stk : List Tx} {b : Bool} {x : zl}
theorem zB8{t:Tx}(h1:(t == [73])=false)(h2:zfU t=true):zmt L [73] t=false:=by
 have e2:(t == [84])=false:=beq_eq_false_iff_ne.2 fun e=>by rw [e,zCt] at h2;cases h2
 have e3:(([73]:Tx) == t)=false:=by rw [Bool.eq_false_iff] at h1 ⊢;intro h;exact h1 (by rw [beq_iff_eq] at h ⊢;exact h.symm)
 rw [zxK,e2]
 simp only [cond_false]
 rw [show (([73]:Tx) == [78])=false from by decide,e3]
 simp
theorem zEb:zfU [86]=false:=by decide +kernel
theorem zyX(h:zfb l L m mt loc stk b)(ho:x.Op=48)(hr:zuk mt.Ret=true)(hl:mt.Ret.length≤25):
  ∃p r,zg L m c mt loc stk b x=some p∧zk L c mt loc stk b x=some r∧zn4 mt.Stack p r∧zmf loc stk b p:=by
 have hq:∀k:Int,k<48→(x.Op == k)=false:=fun k hk=>qf (by omega)
 obtain ⟨k1,k2⟩:=zdU (b:=b) h.shS (e:=[78]) (by decide)
 have P0:zg L m c mt loc stk b x=some (loc,(zac L [84] [mt.Ret] stk (b||!zr2 mt.Ret)).1,(zac L [84] [mt.Ret] stk (b||!zr2 mt.Ret)).2):=by
  rw [zuc (by omega)]
  unfold zdI
  rw [hq 46 (by omega),hq 47 (by omega),zkv (zur hl)]
  simp only [cond_false,Option.bind_some]
  rw [zfD h.made h.map (sh1 hl) h.shS]
  rfl
 have R0:zk L c mt loc stk b x=some (loc,(zni stk b).2.1,(zni stk b).2.2||!(!(mt.Ret == [86])&&(!(mt.Ret == [73])&&zmt L (zni stk b).1 mt.Ret))):=by
  rw [instr_plain (by omega) (by omega)]
  unfold zU
  rw [hq 1 (by omega),hq 2 (by omega),hq 3 (by omega),hq 4 (by omega),hq 5 (by omega),hq 6 (by omega),hq 7 (by omega),hq 46 (by omega),hq 47 (by omega),qt ho]
  simp only [cond_false,cond_true]
  rw [znj h.shS]
  simp only [Option.bind_some]
  rw [zhf h.made (show (zni stk b).1.length≤25 from k1) hl]
  cases mt.Ret == [86] <;> cases mt.Ret == [73] <;> rfl
 refine ⟨_,_,P0,R0,?_,zfl (fun e=>zbk _ _ _ (by rw [e];rfl)) h.shL h.shS (zdz _ _ _ _ _)⟩
 cases h1:mt.Ret == [86] with
 |true =>
  have e:mt.Ret=[86]:=by simpa using h1
  have:zr2 mt.Ret=false:=by unfold zr2;rw [e,zEb];rfl
  rw [this]
  exact zgb (zbk _ _ _ (by simp)) (by simp)
 |false =>
  cases h2:mt.Ret == [73] with
  |true =>
   have:zr2 mt.Ret=false:=by unfold zr2;rw [h2];rfl
   rw [this]
   exact zgb (zbk _ _ _ (by simp)) (by simp)
  |false =>
   have hm:zfU mt.Ret=true:=by unfold zuk at hr;rw [h1] at hr;simpa using hr
   have:zr2 mt.Ret=true:=by unfold zr2;rw [h2,hm];rfl
   rw [this]
   simp only [Bool.not_true,Bool.or_false,Bool.not_false,Bool.true_and]
   have key:((zni stk b).2.1,(zni stk b).2.2||!zmt L (zni stk b).1 mt.Ret)=zac L [84] [mt.Ret] stk b:=by
    rw [ze4 [84] [78]]
    show ((zbH [78] stk b).2.1,((zbH [78] stk b).2.2||!(!((zbH [78] stk b).1 == [73])))||!zmt L (zbH [78] stk b).1 mt.Ret)=((zbH [78] stk b).2.1,(zbH [78] stk b).2.2||!zmt L (zbH [78] stk b).1 mt.Ret)
    cases h3:(zbH [78] stk b).1 == [73] with
    |true =>
     have e:(zbH [78] stk b).1=[73]:=by simpa using h3
     rw [e,zB8 h2 hm];simp
    |false=>simp
   rw [←key]
   refine zft fun _=>?_
   have:=zpN [78] stk b
   have:=h.room
   show (((zbH [78] stk b).2.1).length:Int)≤mt.Stack
   omega
end
theorem zzm(t:Tx):t.length≤(zfE t).length+1:=by
 cases t with
 |nil=>exact Nat.zero_le _
 |cons x r=>rw [zgD];split <;> simp
theorem znv{t:Tx}(h:zcQ t=true):t.length≤8:=by
 unfold zcQ zsf at h
 simp only [Bool.and_eq_true,decide_eq_true_eq] at h
 have:=h.1.1.2.2
 omega
theorem zBk{t:Tx}(h:zfU t=true):t.length≤10:=by
 have h1:=zzm t
 have h2:=zzm (zfE t)
 unfold zfU at h
 rw [Bool.or_eq_true] at h
 rcases h with h |h
 ·have e:zfE (zfE t)=[73]:=by simpa using h
  rw [e] at h2
  simp at h2
  omega
 ·have:=znv h
  omega
theorem zlD{t:Tx}(h:zfU t=true):t.length≤25:=by have:=zBk h;omega
theorem zqZ{t:Tx}(h:zuk t=true):t.length≤25:=by
 unfold zuk at h
 rw [Bool.or_eq_true] at h
 rcases h with h |h
 ·have e:t=[86]:=by simpa using h
  rw [e];decide
 ·exact zlD h
theorem zAE{t:Tx}(h:zr8 t=true):t.length≤25∧(t=[84]∨onS t):=by
 unfold zr8 at h
 simp only [Bool.or_eq_true,beq_iff_eq] at h
 rcases h with ((h |h) |h) |h
 ·subst h;exact ⟨zlr.1,.inr zlr.2⟩
 ·subst h;exact ⟨zz0.1,.inr zz0.2⟩
 ·subst h;exact ⟨by decide,.inl rfl⟩
 ·unfold zr2 at h
  rw [Bool.and_eq_true] at h
  exact ⟨zlD h.2,.inr (.inr h.2)⟩
theorem zBd{α:Type}{bad:List α→α→Bool}:∀{l pre:List α},gB bad pre l=false→∀x∈l,∃q,bad q x=false
 | [],_,_,x,hx=>by cases hx
 |y ::r,pre,h,x,hx=>by
  unfold gB at h
  rw [Bool.or_eq_false_iff] at h
  rcases List.mem_cons.1 hx with e |e
  ·rw [e];exact ⟨pre,h.1⟩
  ·exact zBd h.2 x e
structure zwZ(m:zb)(x:zT):Prop where
 locs:(x.Locals.length:Int)=m.Locals
 stks:(x.Stack.length:Int)≤m.Stack
 locT:∀t∈x.Locals,zr8 t=true
 stkT:∀t∈x.Stack,zr8 t=true∧t≠[84]
structure zlh(m:zb):Prop where
 params:∀s∈m.Params,zfU s=true
 npar:m.Params.length≤6
 ret:zuk m.Ret=true
 locs:zax m≤m.Locals∧m.Locals≤16
 stack:0≤m.Stack∧m.Stack≤16
 code:1≤m.Code.length∧m.Code.length≤100
 last:∃y,m.Code.getLast?=some y∧zkC y.Op=true
 ins:∀x∈m.Code,zmz x=true
 traps:∀y∈m.Traps,y.C=[]∨zcQ y.C=true
 ntraps:m.Traps.length≤6
 maps:∀x∈m.Maps,zwZ m x
 nmaps:m.Maps.length≤100
theorem btw{n a b:Int}(h:zt n a b=true):a≤n∧n≤b:=by
 unfold zt at h
 simpa using h
theorem ztp{l:List Tx}(h:znU l=true):∀t∈l,zr8 t=true:=fun t ht=>by
 unfold znU at h
 rw [Bool.not_eq_true',List.any_eq_false] at h
 simpa using h t ht
theorem zrL{m:zb}(h:zgK m=true):(∀s∈m.Params,zfU s=true)∧m.Params.length≤6∧zuk m.Ret=true:=by
 unfold zgK at h
 simp only [Bool.and_eq_true,Bool.not_eq_true',Bool.or_eq_false_iff,decide_eq_false_iff_not] at h
 obtain ⟨⟨⟨⟨h1,h2⟩,h3⟩,h4⟩,h5⟩:=h
 refine ⟨fun s hs=>?_,by omega,h4⟩
 unfold zvK at h3
 rw [Bool.not_eq_true',List.any_eq_false] at h3
 simpa using h3 s hs
theorem zAf{m:zb}(h:zgK m=true)(ha:m.Abstract=true):m.Static=false:=by
 unfold zgK at h
 rw [ha] at h
 simp only [Bool.and_eq_true,cond_true] at h
 obtain ⟨_,h5⟩:=h
 unfold zhF at h5
 simp only [Bool.and_eq_true,Bool.not_eq_true'] at h5
 first
  |exact h5.1
  |exact h5.1.1
  |exact h5.1.1.1
  |exact h5.1.1.1.1
theorem zDm{m:zb}(h:zgK m=true)(ha:m.Abstract=false):zlh m:=by
 obtain ⟨p1,p2,p3⟩:=zrL h
 unfold zgK at h
 rw [ha] at h
 simp only [Bool.and_eq_true,cond_false] at h
 obtain ⟨_,_,hl,hs,⟨hi,ht⟩,hm⟩:=h
 have hl:=btw hl
 have hs:=btw hs
 unfold instrN at hi
 simp only [Bool.and_eq_true,Bool.not_eq_true'] at hi
 obtain ⟨i1,i2,i3⟩:=hi
 have i1:=btw i1
 unfold zvH at ht
 simp only [Bool.and_eq_true,Bool.not_eq_true',decide_eq_true_eq] at ht
 obtain ⟨t1,t2⟩:=ht
 unfold zx8 at hm
 simp only [Bool.and_eq_true,Bool.not_eq_true',decide_eq_true_eq] at hm
 obtain ⟨m1,m2⟩:=hm
 refine ⟨p1,p2,p3,hl,hs,by omega,?_,fun x hx=>?_,fun y hy=>?_,by omega,fun x hx=>?_,by omega⟩
 ·cases hg:m.Code.getLast? with
  |none=>rw [hg] at i2;cases i2
  |some y=>rw [hg] at i2;exact ⟨y,rfl,i2⟩
 ·have:=(List.any_eq_false.1 i3) x hx
  unfold zDM at this
  simp only [Bool.or_eq_true,Bool.not_eq_true',not_or] at this
  simpa using this.1
 ·have:=(List.any_eq_false.1 t1) y hy
  unfold zAT at this
  simp only [Bool.or_eq_true,not_or,Bool.and_eq_true,Bool.not_eq_true',not_and,beq_eq_false_iff_ne] at this
  by_cases e:y.C=[]
  ·exact .inl e
  ·right
   have:=this.2 e
   simpa using this
 ·obtain ⟨q,hq⟩:=zBd m1 x hx
  unfold zDj at hq
  simp only [Bool.or_eq_false_iff,Bool.not_eq_false',beq_iff_eq,decide_eq_false_iff_not] at hq
  obtain ⟨_,⟨h1,h2⟩,⟨h3,h4⟩,h5⟩:=hq
  refine ⟨h1,by omega,ztp h3,fun t ht=>⟨ztp h4 t ht,fun e=>?_⟩⟩
  subst e
  have:=(List.any_eq_false.1 h5) [84] ht
  simp at this
theorem zvc{l L:List za}(h:zcC l L){x:za}(hx:x∈L){f:zb}(hf:f∈x.Methods):zgK f=true:=by
 rw [h.app] at hx
 rcases List.mem_append.1 hx with e |e
 ·have hg:giv.all (fun c=>decide (c.Methods.length=0))=true:=by decide +kernel
  have:=of_decide_eq_true (List.all_eq_true.1 hg x e)
  rw [List.eq_nil_of_length_eq_zero this] at hf;cases hf
 ·have:=h.may x e
  unfold zsX at this
  simp only [Bool.and_eq_true,Bool.not_eq_true',decide_eq_true_eq] at this
  have h2:=zq7 this.2.2.1 f hf
  rw [Bool.and_eq_true] at h2
  exact h2.2
theorem zzW{l L:List za}(h:zcC l L){x:za}(hx:x∈L){f:zi}(hf:f∈x.Fields):zfU f.Type_=true:=by
 rw [h.app] at hx
 rcases List.mem_append.1 hx with e |e
 ·have hg:giv.all (fun c=>decide (c.Fields.length=0))=true:=by decide +kernel
  have:=of_decide_eq_true (List.all_eq_true.1 hg x e)
  rw [List.eq_nil_of_length_eq_zero this] at hf;cases hf
 ·have:=h.may x e
  unfold zsX at this
  simp only [Bool.and_eq_true,Bool.not_eq_true',decide_eq_true_eq] at this
  have h2:=zq7 this.2.1.2.1 f hf
  unfold zny at h2
  simp only [Bool.and_eq_true] at h2
  exact h2.2
theorem zCn{x:zl}(h:zmz x=true):x.C.length≤10:=by
 unfold zmz at h
 simp only [Bool.and_eq_true] at h
 have:=h.1.2
 unfold zt5 at this
 cases h1:ziM x.Op <;> rw [h1] at this
 ·cases h2:zCW x.Op <;> rw [h2] at this
  ·have e:x.C=[]:=by simpa using this
   rw [e];decide
  ·have:=znv (show zcQ x.C=true from this);omega
 ·have:zr2 x.C=true:=this
  unfold zr2 at this
  rw [Bool.and_eq_true] at this
  exact zBk this.2
def zva(mt:zb)(n:Int):Option zT:=mt.Maps.find? (fun x=>x.At == n)
def zvT(L:List za)(a b:List Tx):Bool:=((a.length:Int) == (b.length:Int))&&!(List.range a.length).any (fun i=>!zmt L ((a[i]?).getD []) ((b[i]?).getD []))
def znB(L:List za)(mt:zb)(loc stk:List Tx)(n:Int):Bool:=match zva mt n with |some x=>zvT L loc x.Locals&&zvT L stk x.Stack |none=>false
theorem zCo{α:Type}(p:α→Bool)(l:List α):decide (ixF p 0 l<0)=!(l.find? p).isSome:=by
 rw [←zl1]
 by_cases h:ixF p 0 l<0
 ·rw [decide_eq_true h,decide_eq_false (by omega)];rfl
 ·rw [decide_eq_false h,decide_eq_true (by omega)];rfl
section
variable {l L : List za} {m : List (Tx × Int)} {c : Tx} {mt : zb} {loc stk : List Tx} {b : Bool}
theorem zuz{body:Int→Option (Sum Int (Sum Unit Bool))}{a b:List Tx}(ha:a.length≤1000)(hn:a.length=b.length)
  (hb:∀(i:Nat) x y,a[i]?=some x→b[i]?=some y→body (i:Int)=cond (!zmt L x y) (some (.inr (.inr false))) (some (.inl (IntKind.i64.wrap ((i:Int)+1)))))
  (he:body (a.length:Int)=some (.inr (.inl ()))):((zm body 0).bind fun o=>zI o (fun _=>some true) some)=some (zvT L a b):=by
 rw [zqP (n:=a.length) (g:=fun i=>cond (!zmt L ((a[i]?).getD []) ((b[i]?).getD [])) (some false) none) (u:=()) (fun i hi=>by
  have h1:a[i]?=some a[i]:=List.getElem?_eq_getElem hi
  have h2:b[i]?=some (b[i]'(by omega)):=List.getElem?_eq_getElem (by omega)
  rw [hb i _ _ h1 h2,h1,h2,zQ (by omega)]
  simp only [Option.getD_some]
  cases zmt L a[i] (b[i]'(by omega)) <;> rfl) he,zck]
 unfold zvT
 rw [hn,beq_self_eq_true,Bool.true_and]
 cases (List.range b.length).any (fun i=>!zmt L ((a[i]?).getD []) ((b[i]?).getD [])) <;> rfl
theorem zxb{a b:List Tx}(h:a.length≠b.length):zvT L a b=false:=by
 unfold zvT
 rw [beq_eq_false_iff_ne.2 (show (a.length:Int)≠(b.length:Int) by omega)];rfl
theorem zw5(h:zcC l L)(hm:zbc L m){a b:List Tx}(ha:ShL a)(hb2:∀t∈b,t.length≤25):zio L m a b=some (zvT L a b):=by
 unfold zio
 by_cases hn:a.length=b.length
 ·rw [show ((a.length:Int) == (b.length:Int))=true by rw [hn];exact beq_self_eq_true _]
  exact zuz (body:=fun z=>zfv L m a b z) ha.len hn (fun i x y hx hy=>by
   show zfv L m a b (i:Int)=_
   have:=ha.2 x (List.mem_of_getElem? hx)
   have:=hb2 y (List.mem_of_getElem? hy)
   unfold zfv
   rw [zfk hx,zs,zs,hx,hy]
   simp only [cond_true,Option.bind_some]
   rw [zoV h hm (by omega) (by omega)];rfl) (by
   show zfv L m a b (a.length:Int)=_
   unfold zfv
   rw [zfJ];rfl)
 ·rw [beq_eq_false_iff_ne.2 (show (a.length:Int)≠(b.length:Int) by omega),zxb hn];rfl
theorem zlh.lenM(hk:zlh mt):zjL mt.Maps:=by have:=hk.nmaps;unfold zjL;omega
theorem zpG(hk:zlh mt){n:Int}{x:zT}(h:zva mt n=some x):zwZ mt x:=hk.maps x (List.mem_of_find?_eq_some h)
theorem zwZ.loc25{x:zT}(h:zwZ mt x):∀t∈x.Locals,t.length≤25:=fun t ht=>(zAE (h.locT t ht)).1
theorem zwZ.stk25{x:zT}(h:zwZ mt x):∀t∈x.Stack,t.length≤25:=fun t ht=>(zAE (h.stkT t ht).1).1
theorem ztO(hk:zlh mt){n:Int}:zdf L m c mt loc stk b n=some (zva mt n):=by
 unfold zdf zbJ
 rw [show ((zm (fun z=>zbi mt.Maps n z) 0).bind fun o=>zI o (fun b=>zeq) some)=_ from zay (p:=fun x:zT=>x.At == n) hk.lenM
  (fun i x hx=>by
   unfold zbi zeY
   rw [zfk hx,zs,hx];rfl) (by unfold zbi;rw [zfJ];rfl)]
 simp only [Option.bind_some]
 rw [zCo,zoe]
 unfold zva
 cases mt.Maps.find? (fun x=>x.At == n) <;> rfl
theorem zu4(h:zcC l L)(hm:zbc L m){x:zT}(hx:zwZ mt x)(hl:ShL loc)(hs:ShL stk):zeX L m x loc stk=some (zvT L loc x.Locals&&zvT L stk x.Stack):=by
 unfold zeX
 rw [zw5 h hm hl hx.loc25,zw5 h hm hs hx.stk25]
 cases zvT L loc x.Locals <;> rfl
theorem zBf(h:zcC l L)(hm:zbc L m)(hk:zlh mt)(hl:ShL loc)(hs:ShL stk){n:Int}:zdg L m c mt loc stk b n=some (b||!znB L mt loc stk n):=by
 unfold zdg znB
 rw [ztO hk]
 simp only [Option.bind_some]
 cases hf:zva mt n with
 |none=>rfl
 |some x =>
  show (zeX L m x loc stk).bind _=_
  rw [zu4 h hm (zpG hk hf) hl hs];rfl
theorem zCg(h:zcC l L)(hm:zbc L m)(hk:zlh mt)(hl:ShL loc){s:List Tx}(hs:ShL s){n:Int}:zex L m c mt loc stk b n s=some (b||!znB L mt loc s n):=by
 unfold zex znB
 rw [ztO hk]
 simp only [Option.bind_some]
 cases hf:zva mt n with
 |none=>rfl
 |some x =>
  show (zeX L m x loc s).bind _=_
  rw [zu4 h hm (zpG hk hf) hl hs];rfl
end
section
variable {l L : List za} {m : List (Tx × Int)} {c : Tx} {mt : zb} {loc stk : List Tx} {b : Bool} {x : zl}
def zmu(L:List za)(C M:Tx):FR:=((zdW L C).findSome? (zzB L M)).getD ([],zF,false)
theorem zxM(h:zcC l L)(C M:Tx):(zmu L C M).2.1.Type_.length≤25∧((zmu L C M).2.2=true→zfU (zmu L C M).2.1.Type_=true):=by
 unfold zmu
 cases hq:(zdW L C).findSome? (zzB L M) with
 |none=>exact ⟨Nat.zero_le _,fun e=>by cases e⟩
 |some r =>
  obtain ⟨s,hs,e⟩:=List.exists_of_findSome?_eq_some hq
  unfold zzB at e
  cases hc:cl L s with
  |none=>rw [hc] at e;cases e
  |some y =>
   rw [hc] at e
   simp only at e
   cases hf:y.Fields.find? (fun y=>y.Name == M) with
   |none=>rw [hf] at e;cases e
   |some f =>
    rw [hf] at e
    cases e
    have:=zzW h (zbR hc).1 (List.mem_of_find?_eq_some hf)
    exact ⟨zlD this,fun _=>this⟩
structure zDY(r:MR):Prop where
 params:∀s∈r.2.1.Params,zfU s=true
 npar:r.2.1.Params.length≤6
 ret25:r.2.1.Ret.length≤25
 ret:r.2.2=true→zuk r.2.1.Ret=true
theorem zyc:zDY ([],zM,false):=⟨fun s hs=>(List.not_mem_nil (show s∈([]:List Tx) from hs)).elim,Nat.zero_le _,Nat.zero_le _,fun e=>by cases e⟩
theorem zx9{may:zb→Bool}{n s:Tx}{r:MR}(e:zm6 L may n s=some r):∃y f,cl L s=some y∧f∈y.Methods∧r=(s,f,true):=by
 unfold zm6 at e
 cases hc:cl L s with
 |none=>rw [hc] at e;cases e
 |some y =>
  rw [hc] at e
  simp only at e
  cases hf:y.Methods.find? (fun y=>y.Name == n) with
  |none=>rw [hf] at e;cases e
  |some f =>
   rw [hf] at e
   simp only at e
   cases hm:may f with
   |false=>rw [hm] at e;cases e
   |true =>
    rw [hm] at e
    cases e
    exact ⟨y,f,rfl,List.mem_of_find?_eq_some hf,rfl⟩
theorem zyb(h:zcC l L)(may:zb→Bool)(n:Tx)(T:List Tx):zDY ((T.findSome? (zm6 L may n)).getD ([],zM,false)):=by
 cases hq:T.findSome? (zm6 L may n) with
 |none=>exact zyc
 |some r =>
  obtain ⟨s,hs,e⟩:=List.exists_of_findSome?_eq_some hq
  obtain ⟨y,f,hc,hf,rfl⟩:=zx9 e
  obtain ⟨p1,p2,p3⟩:=zrL (zvc h (zbR hc).1 hf)
  exact ⟨p1,p2,zqZ p3,fun _=>p3⟩
theorem zCz(h:zcC l L)(C n:Tx):zDY (zn9 L C n)∧((zn9 L C n).2.2=true→(zn9 L C n).2.1.Static=false):=by
 unfold zn9
 cases hF:isF L C with
 |false=>exact ⟨zyc,fun e=>by cases e⟩
 |true =>
  refine ⟨zyb h _ _ _,?_⟩
  simp only [cond_true]
  cases hq:(C ::zeJ L C).findSome? (zm6 L ze1 n) with
  |none=>exact fun e=>by cases e
  |some r =>
   obtain ⟨s,hs,e⟩:=List.exists_of_findSome?_eq_some hq
   obtain ⟨y,f,hc,hf,rfl⟩:=zx9 e
   intro _
   have hI:isF L s=true:=by
    rcases List.mem_cons.1 hs with e |e
    ·rw [e];exact hF
    ·exact (zsE.1 e).2
   have hy:y.Interface=true:=by unfold isF at hI;rw [hc] at hI;exact hI
   have ha:=zmK h (zbR hc).1 hf
   exact zAf (zvc h (zbR hc).1 hf) (ha.trans hy)
theorem zym(ho:x.Op=20):zg L m c mt loc stk b x=some (loc,stk,b):=by
 unfold zg
 rw [bf (by omega),qf (show x.Op≠13 by omega),bf (by omega),qt ho]
 rfl
theorem zyn(h:zfb l L m mt loc stk b)(ho:21≤x.Op∧x.Op≤26):zg L m c mt loc stk b x=some (loc,zac L [84] [[73]] stk b):=by
 unfold zg
 rw [bf (by omega),qf (show x.Op≠13 by omega),bf (by omega),qf (show x.Op≠20 by omega),bt ho]
 simp only [cond_false,cond_true]
 rw [zfD h.made h.map (sh1 zlr.1) h.shS]
 rfl
theorem zyo(h:zfb l L m mt loc stk b)(ho:27≤x.Op∧x.Op≤32):zg L m c mt loc stk b x=some (loc,zac L [84] [[73],[73]] stk b):=by
 unfold zg
 rw [bf (by omega),qf (show x.Op≠13 by omega),bf (by omega),qf (show x.Op≠20 by omega),bf (by omega),bt ho]
 simp only [cond_false,cond_true]
 rw [zfD h.made h.map (sh2 zlr.1 zlr.1) h.shS]
 rfl
theorem zyp(h:zfb l L m mt loc stk b)(ho:33≤x.Op∧x.Op≤34):zg L m c mt loc stk b x=some (loc,(zhe [84] stk b).2):=by
 unfold zg
 rw [bf (by omega),qf (show x.Op≠13 by omega),bf (by omega),qf (show x.Op≠20 by omega),bf (by omega),bf (by omega),bt ho]
 simp only [cond_false,cond_true]
 rw [zqX h.shS]
 rfl
theorem zyq(h:zfb l L m mt loc stk b)(ho:35≤x.Op∧x.Op≤36):zg L m c mt loc stk b x=some (loc,(zhe [84] (zhe [84] stk b).2.1 (zhe [84] stk b).2.2).2):=by
 unfold zg
 rw [bf (by omega),qf (show x.Op≠13 by omega),bf (by omega),qf (show x.Op≠20 by omega),bf (by omega),bf (by omega),bf (by omega),bt ho]
 simp only [cond_false,cond_true]
 rw [zqX h.shS]
 simp only [Option.bind_some]
 rw [zqX (zr1 h.shS (by decide)).2]
 rfl
theorem zs6(ho:37≤x.Op∧x.Op≤41):zg L m c mt loc stk b x=(zdR L m c mt loc stk b x).bind fun v=>some (loc,v.1,v.2):=by
 have e:((x.Op == (37:Int))||zau x.Op 38 41)=true:=by
  by_cases h:x.Op=37
  ·rw [qt h];rfl
  ·rw [bt (show (38:Int)≤x.Op∧x.Op≤41 by omega),Bool.or_true]
 unfold zg
 rw [bf (by omega),qf (show x.Op≠13 by omega),bf (by omega),qf (show x.Op≠20 by omega),bf (by omega),bf (by omega),bf (by omega),bf (by omega),e]
 rfl
theorem zAn(ho:42≤x.Op∧x.Op≤45):zg L m c mt loc stk b x=(zde L m c mt loc stk b x).bind fun v=>some (loc,v.1,v.2):=by
 unfold zg
 rw [bf (by omega),qf (show x.Op≠13 by omega),bf (by omega),qf (show x.Op≠20 by omega),bf (by omega),bf (by omega),bf (by omega),bf (by omega),qf (show x.Op≠37 by omega),bf (by omega),bt ho]
 rfl
theorem zhR(ho:49≤x.Op∧x.Op≤55):zg L m c mt loc stk b x=(zav L m c mt loc stk b x).bind fun v=>some (loc,v.1,v.2):=by
 unfold zg
 rw [bf (by omega),qf (show x.Op≠13 by omega),bf (by omega),qf (show x.Op≠20 by omega),bf (by omega),bf (by omega),bf (by omega),bf (by omega),qf (show x.Op≠37 by omega),bf (by omega),bf (by omega),bf (by omega),bt ho]
 rfl
end
theorem zlU{α R:Type}{body:Bool×Int→Option (Sum (Bool×Int) (Sum Bool R))}{l:List α}{p:α→Bool}(hl:l.length≤1000000)
  (hb:∀(i:Nat) x (b:Bool),l[i]?=some x→body (b,(i:Int))=some (.inl (b||p x,IntKind.i64.wrap ((i:Int)+1))))
  (he:∀b:Bool,body (b,(l.length:Int))=some (.inr (.inl b))) (b0:Bool):zm body (b0,0)=some (.inl (b0||l.any p)):=by
 have key:∀(r pre:List α) (b:Bool),l=pre++r→zm body (b,(pre.length:Int))=some (.inl (b||r.any p)):=by
  intro r
  induction r with
  |nil =>
   intro pre b h
   have e:l=pre:=by rw [h,List.append_nil]
   subst e
   rw [zE,he]
   simp
  |cons x r ih =>
   intro pre b h
   have hlen:l.length=pre.length+(r.length+1):=by rw [h];simp
   have hx:l[pre.length]?=some x:=by rw [h];simp
   rw [zE,hb _ x b hx,zQ (by omega)]
   have:=ih (pre++[x]) (b||p x) (by rw [h];simp)
   rw [show (pre++[x]).length=pre.length+1 by simp] at this
   simp only [Option.bind_some,Sum.elim_inl]
   rw [this,List.any_cons,Bool.or_assoc]
 exact key l [] b0 rfl
def zgF(L:List za)(mt:zb)(loc stk:List Tx)(n:Int)(g:Bool):List Tx×List Tx×Bool:=
 match zva mt n with |none=>(loc,stk,!g) |some x=>(x.Locals,x.Stack,g&&!znB L mt loc stk n)
def zpZ:Tx:=[84,104,114,111,119,110]
def zqv(t:zN):Tx:=cond (t.C == []) zpZ t.C
def zp2(L:List za)(mt:zb)(loc:List Tx)(n:Int)(t:zN):Bool:=
 !zut L (zqv t) zpZ||((decide (t.From≤n)&&decide (n<t.To))&&!znB L mt loc [zqv t] t.At)
section
variable {l L : List za} {m : List (Tx × Int)} {c : Tx} {mt : zb} {loc stk : List Tx} {b : Bool}
theorem zwZ.shl{x:zT}(hk:zlh mt)(h:zwZ mt x):ShL x.Locals:=⟨by have:=h.locs;have:=hk.locs.2;omega,h.loc25⟩
theorem zwZ.shs{x:zT}(hk:zlh mt)(h:zwZ mt x):ShL x.Stack:=⟨by have:=h.stks;have:=hk.stack.2;omega,h.stk25⟩
theorem zxD(h:zcC l L)(hm:zbc L m)(hk:zlh mt)(hl:ShL loc)(hs:ShL stk){n:Int}{g:Bool}:
  zfa L m c mt loc stk b n g=some ((zgF L mt loc stk n g).1,(zgF L mt loc stk n g).2.1,b||(zgF L mt loc stk n g).2.2):=by
 unfold zfa zgF
 rw [ztO hk]
 simp only [Option.bind_some]
 cases hf:zva mt n with
 |none=>rfl
 |some x =>
  have hx:=zpG hk hf
  simp only [Option.isNone_some,cond_false]
  have key:∀v:Bool,zbj (some x) v=some (x.Locals,x.Stack,v):=fun v=>by
   unfold zbj
   show (zkT x.Locals).bind _=_
   rw [zrn (hx.shl hk).len]
   simp only [Option.bind_some]
   rw [zrn (hx.shs hk).len]
   rfl
  rw [zBf h hm hk hl hs]
  cases g with
  |true=>simp only [cond_true,Option.bind_some];rw [key];rfl
  |false=>simp only [cond_false];rw [key];simp
theorem zfb.to{b':Bool}(h:zfb l L m mt loc stk b):zfb l L m mt loc stk b':=⟨h.made,h.map,h.lens,h.shL,h.shS,h.on,h.room,h.onL⟩
theorem ztK(h:zfb l L m mt loc stk b)(hk:zlh mt){n:Int}{g b':Bool}:zfb l L m mt (zgF L mt loc stk n g).1 (zgF L mt loc stk n g).2.1 b':=by
 unfold zgF
 cases hf:zva mt n with
 |none=>exact h.to
 |some x =>
  have hx:=zpG hk hf
  exact ⟨h.made,h.map,h.lens,hx.shl hk,hx.shs hk,fun t ht=>((zAE (hx.stkT t ht).1).2).resolve_left (hx.stkT t ht).2,hx.stks,fun t ht=>(zAE (hx.locT t ht)).2⟩
theorem zvG(hk:zlh mt){t:zN}(ht:t∈mt.Traps):(zqv t).length≤25:=by
 unfold zqv
 rcases hk.traps t ht with e |e
 ·rw [e];decide
 ·cases t.C == []
  ·have:=znv e;show t.C.length≤25;omega
  ·show zpZ.length≤25;decide
theorem zCP(h:zcC l L)(hm:zbc L m)(hk:zlh mt)(hl:ShL loc){n:Int}:zdS L m c mt loc stk b n=some (b||mt.Traps.any (zp2 L mt loc n)):=by
 unfold zdS
 rw [zlU (body:=fun z=>zbU L m c mt loc stk n z.1 z.2) (l:=mt.Traps) (p:=zp2 L mt loc n) (by have:=hk.ntraps;omega) (fun i t b hi=>by
  have ht:=List.mem_of_getElem? hi
  have hc:=zvG hk ht
  have key:∀v:Tx,v=zqv t→zcO L m c mt loc stk n b (i:Int) t v=some (.inl (b||zp2 L mt loc n t,IntKind.i64.wrap ((i:Int)+1))):=fun v hv=>by
   unfold zcO zdY
   rw [hv,zor h hm hc (by show _≤_;decide)]
   simp only [Option.bind_some]
   rw [zCg h hm hk hl (sh1 hc)]
   unfold zp2 zpZ
   simp only [Option.bind_some]
   cases decide (t.From≤n)&&decide (n<t.To) <;> cases b <;> simp
  show zbU L m c mt loc stk n b (i:Int)=_
  unfold zbU
  rw [zfk hi,zs,hi]
  simp only [cond_true,Option.bind_some]
  cases he:t.C == [] with
  |true=>exact key _ (by unfold zqv;rw [he];rfl)
  |false=>exact key _ (by unfold zqv;rw [he];rfl)) (fun b=>by
  show zbU L m c mt loc stk n b (mt.Traps.length:Int)=_
  unfold zbU
  rw [zfJ];rfl)]
 rfl
end
theorem zuX{α β:Type}(p:α→Bool)(g:α→β):∀l:List α,l.findSome? (fun x=>cond (p x) (some (g x)) none)=(l.find? p).map g
 | []=>rfl
 |x ::l=>by
  rw [List.findSome?_cons,List.find?_cons]
  cases p x with
  |true=>rfl
  |false=>exact zuX p g l
section
variable {l L : List za} {m : List (Tx × Int)} {c : Tx} {mt : zb} {loc stk : List Tx} {b : Bool} {x : zl}
def zDk(mt:zb)(n:Int):zT×Bool:=match zva mt n with |some x=>(x,true) |none=>(zT.mk 0 [] [],false)
theorem zrJ(hk:zlh mt){n:Int}:zdF L c mt loc stk b n=some (zDk mt n):=by
 have hl:=hk.nmaps
 unfold zdF
 rw [show zm (fun z=>zco mt n z) 0=some (zoz () (mt.Maps.findSome? (fun x=>cond (x.At == n) (some (x,true)) none))) from zdN (fun i x hx=>by
  have hi:=(List.getElem?_eq_some_iff.1 hx).1
  show zco mt n (i:Int)=_
  unfold zco
  rw [zfk hx,zs,hx,zQ (by omega)]
  simp only [cond_true,Option.bind_some]
  cases x.At == n <;> rfl) (by
  show zco mt n (mt.Maps.length:Int)=_
  unfold zco
  rw [zfJ];rfl),zuX (fun x:zT=>x.At == n)]
 unfold zDk zva
 cases mt.Maps.find? (fun x=>x.At == n) <;> rfl
theorem zzK(h:zcC l L){a b:List Tx}(ha:ShL a)(hb2:∀t∈b,t.length≤25):zeE L a b=some (zvT L a b):=by
 unfold zeE
 by_cases hn:a.length=b.length
 ·rw [show ((a.length:Int) == (b.length:Int))=true by rw [hn];exact beq_self_eq_true _]
  exact zuz (body:=fun z=>zc8 L a b z) ha.len hn (fun i x y hx hy=>by
   show zc8 L a b (i:Int)=_
   have:=ha.2 x (List.mem_of_getElem? hx)
   have:=hb2 y (List.mem_of_getElem? hy)
   unfold zc8
   rw [zfk hx,zs,zs,hx,hy]
   simp only [cond_true,Option.bind_some]
   rw [zhf h (by omega) (by omega)];rfl) (by
   show zc8 L a b (a.length:Int)=_
   unfold zc8
   rw [zfJ];rfl)
 ·rw [beq_eq_false_iff_ne.2 (show (a.length:Int)≠(b.length:Int) by omega),zxb hn];rfl
theorem zxT(h:zcC l L)(hk:zlh mt){p q:List Tx}(hp:ShL p)(hq:ShL q){n:Int}:zei L c mt loc stk b n p q=some (b||!znB L mt p q n):=by
 unfold zei znB
 rw [zrJ hk]
 unfold zDk
 cases hf:zva mt n with
 |none=>rfl
 |some x =>
  have hx:=zpG hk hf
  simp only [Option.bind_some,cond_true]
  rw [zzK h hp hx.loc25,zzK h hq hx.stk25]
  cases zvT L p x.Locals <;> rfl
theorem zCh(h:zcC l L)(hk:zlh mt){p q:List Tx}(hp:ShL p)(hq:ShL q){n:Int}:zgL L c mt loc stk b n p q=some (b||!znB L mt p q n):=by
 unfold zgL znB
 rw [zrJ hk]
 unfold zDk
 cases hf:zva mt n with
 |none=>rfl
 |some x =>
  have hx:=zpG hk hf
  simp only [Option.bind_some,cond_true]
  rw [zzK h hp hx.loc25,zzK h hq hx.stk25]
  cases zvT L p x.Locals <;> rfl
theorem zCQ(h:zcC l L)(hk:zlh mt)(hl:ShL loc){n:Int}:zcG L c mt loc stk b n=some (b||mt.Traps.any (zp2 L mt loc n)):=by
 unfold zcG
 rw [zlU (body:=fun z=>zcq L c mt loc stk n z.1 z.2) (l:=mt.Traps) (p:=zp2 L mt loc n) (by have:=hk.ntraps;omega) (fun i t b hi=>by
  have ht:=List.mem_of_getElem? hi
  have hc:=zvG hk ht
  have key:∀v:Tx,v=zqv t→zeS L c mt loc stk n b (i:Int) t v=some (.inl (b||zp2 L mt loc n t,IntKind.i64.wrap ((i:Int)+1))):=fun v hv=>by
   unfold zeS zgp
   rw [hv,zqY h hc (by decide)]
   simp only [Option.bind_some]
   rw [zCh h hk hl (sh1 hc)]
   unfold zp2 zpZ
   simp only [Option.bind_some]
   cases decide (t.From≤n)&&decide (n<t.To) <;> cases b <;> simp
  show zcq L c mt loc stk n b (i:Int)=_
  unfold zcq
  rw [zfk hi,zs,hi]
  simp only [cond_true,Option.bind_some]
  cases he:t.C == [] with
  |true=>exact key _ (by unfold zqv;rw [he];rfl)
  |false=>exact key _ (by unfold zqv;rw [he];rfl)) (fun b=>by
  show zcq L c mt loc stk n b (mt.Traps.length:Int)=_
  unfold zcq
  rw [zfJ];rfl)]
 rfl
theorem znD{s:List Tx}{e:Bool}(h:zfb l L m mt loc stk b)(hk:zlh mt)(hp:zg L m c mt loc stk b x=some (loc,s,e))
  (hr:zk L c mt loc stk b x=(zbX L c mt loc x s e).bind fun v=>some (loc,v.1,v.2)) (hs:s<+:stk) (he:b=true→e=true):
  ∃p r,zg L m c mt loc stk b x=some p∧zk L c mt loc stk b x=some r∧zn4 mt.Stack (p.1,p.2.1,p.2.2||!znB L mt p.1 p.2.1 x.A) r∧zmf loc stk b p:=by
 have hl:=hs.length_le
 have hS:ShL s:=⟨by have:=h.shS.1;omega,fun t ht=>h.shS.2 t (hs.subset ht)⟩
 refine ⟨(loc,s,e),(loc,s,e||!znB L mt loc s x.A),hp,?_,zft fun _=>by have:=h.room;show (s.length:Int)≤mt.Stack;omega,zfl he h.shL h.shS hs⟩
 rw [hr]
 unfold zbX
 rw [zxT h.made hk h.shL hS];rfl
theorem instr_test(ho:21≤x.Op∧x.Op≤36):zk L c mt loc stk b x=(zej L c mt loc stk b x).bind fun v=>some (loc,v.1,v.2):=by
 unfold zk
 rw [cf (by omega),ct ho]
 rfl
theorem zy2(h:zfb l L m mt loc stk b)(hk:zlh mt)(ho:20≤x.Op∧x.Op≤36):
  ∃p r,zg L m c mt loc stk b x=some p∧zk L c mt loc stk b x=some r∧zn4 mt.Stack (p.1,p.2.1,p.2.2||!znB L mt p.1 p.2.1 x.A) r∧zmf loc stk b p:=by
 by_cases h0:x.Op=20
 ·refine znD (s:=stk) (e:=b) h hk (zym h0) ?_ (List.prefix_refl _) id
  unfold zk zbX
  rw [cf (by omega),cf (by omega),qt h0]
  simp only [cond_false,cond_true]
  rw [zxT h.made hk h.shL h.shS]
  rfl
 by_cases h1:x.Op≤26
 ·refine znD (s:=(zac L [84] [[73]] stk b).1) (e:=(zac L [84] [[73]] stk b).2) h hk (zyn h ⟨by omega,h1⟩) ?_ (zdz _ _ _ _ _) (zbk _ _ _)
  rw [instr_test ⟨by omega,ho.2⟩]
  unfold zej
  rw [decide_eq_true h1]
  simp only [cond_true]
  rw [zew h.made (sh1 zlr.1) h.shS,ze4 [78] [84]]
  rfl
 by_cases h2:x.Op≤32
 ·refine znD (s:=(zac L [84] [[73],[73]] stk b).1) (e:=(zac L [84] [[73],[73]] stk b).2) h hk (zyo h ⟨by omega,h2⟩) ?_ (zdz _ _ _ _ _) (zbk _ _ _)
  rw [instr_test ⟨by omega,ho.2⟩]
  unfold zej
  rw [decide_eq_false h1,decide_eq_true h2]
  simp only [cond_true,cond_false]
  rw [zew h.made (sh2 zlr.1 zlr.1) h.shS,ze4 [78] [84]]
  rfl
 have e2:=(znS (b:=b) h.on).1
 by_cases h3:x.Op≤34
 ·refine znD (s:=(zhe [84] stk b).2.1) (e:=(zhe [84] stk b).2.2) h hk (zyp h ⟨by omega,h3⟩) ?_ (zkJ _ _ _) zma
  rw [instr_test ⟨by omega,ho.2⟩]
  unfold zej
  rw [decide_eq_false h1,decide_eq_false h2,decide_eq_true h3]
  simp only [cond_true,cond_false]
  rw [znj h.shS]
  simp only [Option.bind_some]
  rw [e2]
 ·refine znD (s:=(zhe [84] (zhe [84] stk b).2.1 (zhe [84] stk b).2.2).2.1) (e:=(zhe [84] (zhe [84] stk b).2.1 (zhe [84] stk b).2.2).2.2) h hk (zyq h ⟨by omega,ho.2⟩) ?_ ((zkJ _ _ _).trans (zkJ _ _ _)) (fun e=>zma (zma e))
  rw [instr_test ⟨by omega,ho.2⟩]
  unfold zej
  rw [decide_eq_false h1,decide_eq_false h2,decide_eq_false h3]
  simp only [cond_false]
  rw [znj h.shS]
  simp only [Option.bind_some]
  rw [e2,znj (zr1 h.shS (by decide)).2]
  simp only [Option.bind_some]
  rw [(znS fun t ht=>h.on t ((zkJ _ _ _).subset ht)).1]
end
section
variable {l L : List za} {m : List (Tx × Int)} {c : Tx} {mt : zb} {loc stk : List Tx} {b : Bool} {x : zl}
theorem instr_field(ho:37≤x.Op∧x.Op≤41):zk L c mt loc stk b x=(zdE L c mt loc stk b x).bind fun v=>some (loc,v.1,v.2):=by
 unfold zk
 rw [cf (by omega),cf (by omega),qf (show x.Op≠20 by omega),ct ho]
 rfl
def zBl(L:List za)(C:Tx):Bool:=match cl L C with |some y=>!y.Interface |none=>false
theorem zAL(h:zfb l L m mt loc stk b)(ho:x.Op=37)(hC:x.C.length≤25):
  ∃p r,zg L m c mt loc stk b x=some p∧zk L c mt loc stk b x=some r∧zn4 mt.Stack p r∧zmf loc stk b p:=by
 have h26:=h.made.len
 have hP:zg L m c mt loc stk b x=some (loc,stk++[x.C],b||!zBl L x.C):=by
  rw [zs6 (by omega)]
  unfold zdR zBl
  rw [qt ho]
  simp only [cond_true]
  rw [zem h.map]
  simp only [Option.bind_some]
  rw [ze2 h.shS.len]
  cases cl L x.C <;> rfl
 have hK:zmf loc stk b (loc,stk++[x.C],b||!zBl L x.C):=zes (fun e=>by rw [e];rfl) h.shL h.shS (List.prefix_refl _) hC fun hb=>.inr (by
  simp only [Bool.or_eq_false_iff,Bool.not_eq_false'] at hb
  have hn:=hb.2
  unfold zBl at hn
  cases hc:cl L x.C with
  |none=>rw [hc] at hn;cases hn
  |some y=>exact zwa (zn8 (zj2 h.made (zgP hc))) hC)
 cases hc:cl L x.C with
 |none =>
  have e:zBl L x.C=false:=by unfold zBl;rw [hc]
  refine ⟨_,(loc,stk,true),hP,?_,zgb (by rw [e];simp) rfl,hK⟩
  rw [instr_field (by omega)]
  unfold zdE
  rw [zns (by omega)]
  simp only [Option.bind_some]
  rw [zqE,zmU hc]
  rfl
 |some y =>
  have e:zBl L x.C=!y.Interface:=by unfold zBl;rw [hc]
  refine ⟨_,_,hP,?_,zeT _,hK⟩
  ·rw [instr_field (by omega)]
   unfold zdE
   rw [zns (by omega)]
   simp only [Option.bind_some]
   rw [zqE,zgP hc,qt ho]
   simp only [Bool.not_true,cond_false,cond_true]
   rw [zoD,hc]
   simp only [Option.bind_some]
   rw [ze3 h.shS.len,←e]
   rfl
theorem zpz{b0:Bool}{ts:List Tx}(hb:b0=true→b=true)(hl:ShL loc)(hs:ShL stk):zmf loc stk b0 (loc,zac L [84] ts stk b):=
 zfl (s:=(zac L [84] ts stk b).1) (b:=(zac L [84] ts stk b).2) (fun e=>zbk _ _ _ (hb e)) hl hs (zdz _ _ _ _ _)
def zqI(L:List za)(b:Bool)(x:zl):Bool:=b||!((zmu L x.C x.M).2.2&&((zmu L x.C x.M).2.1.Static == ((x.Op == (40:Int))||(x.Op == (41:Int)))))
def zuY(L:List za)(stk:List Tx)(b:Bool)(x:zl):List Tx×Bool:=
 cond (x.Op == 38) ((zac L [84] [x.C] stk (zqI L b x)).1++[(zmu L x.C x.M).2.1.Type_],(zac L [84] [x.C] stk (zqI L b x)).2)
  (cond (x.Op == 39) (zac L [84] [(zmu L x.C x.M).2.1.Type_,x.C] stk (zqI L b x))
   (cond (x.Op == 40) (stk++[(zmu L x.C x.M).2.1.Type_],zqI L b x) (zac L [84] [(zmu L x.C x.M).2.1.Type_] stk (zqI L b x))))
theorem zpL(h:zfb l L m mt loc stk b)(ho:38≤x.Op∧x.Op≤41)(hC:x.C.length≤25):zg L m c mt loc stk b x=some (loc,zuY L stk b x):=by
 have hT:=(zxM h.made x.C x.M).1
 rw [zs6 (by omega)]
 unfold zdR zuY
 rw [qf (show x.Op≠37 by omega),zuW h.made h.map h.lens]
 simp only [cond_false,Option.bind_some]
 rw [show (((zdW L x.C).findSome? (zzB L x.M)).getD ([],zF,false))=zmu L x.C x.M from rfl]
 rw [show (b||!((zmu L x.C x.M).2.2&&((zmu L x.C x.M).2.1.Static == ((x.Op == (40:Int))||(x.Op == (41:Int))))))=zqI L b x from rfl]
 rw [zfD h.made h.map (sh1 hC) h.shS,zfD h.made h.map (sh2 hC hT) h.shS,zfD h.made h.map (sh1 hT) h.shS,ze2 h.shS.len]
 simp only [Option.bind_some,List.reverse_singleton]
 rw [ze2 (zdX (by decide) _ _ _ h.shS).len]
 cases x.Op == 38 <;> cases x.Op == 39 <;> cases x.Op == 40 <;> rfl
theorem zz1(hb:zqI L b x=true):(zuY L stk b x).2=true:=by
 unfold zuY
 cases x.Op == 38 <;> cases x.Op == 39 <;> cases x.Op == 40 <;> first |exact zbk _ _ _ hb |exact hb
theorem zls(h:zfb l L m mt loc stk b)(hC:x.C.length≤25):zmf loc stk b (loc,zuY L stk b x):=by
 obtain ⟨hT,hM⟩:=zxM h.made x.C x.M
 have hb0:b=true→zqI L b x=true:=fun e=>by unfold zqI;rw [e];rfl
 have hF:zqI L b x=false→zzD (zmu L x.C x.M).2.1.Type_:=fun e=>by
  unfold zqI at e
  simp only [Bool.or_eq_false_iff,Bool.not_eq_false',Bool.and_eq_true] at e
  exact zwa (hM e.2.1) hT
 have ht:∀{ts:List Tx},(zac L [84] ts stk (zqI L b x)).2=false→zqI L b x=false:=fun {ts} e=>by
  cases hq:zqI L b x with
  |false=>rfl
  |true=>rw [zbk _ _ _ hq] at e;cases e
 unfold zuY
 cases x.Op == 38 with
 |true=>exact zes (fun e=>zbk _ _ _ (hb0 e)) h.shL h.shS (zdz _ _ _ _ _) hT fun e=>.inr (hF (ht e))
 |false =>
  cases x.Op == 39 with
  |true=>exact zpz hb0 h.shL h.shS
  |false =>
   cases x.Op == 40 with
   |true=>exact zes hb0 h.shL h.shS (List.prefix_refl _) hT fun e=>.inr (hF e)
   |false=>exact zpz hb0 h.shL h.shS
theorem zwO(h:zfb l L m mt loc stk b)(ho:38≤x.Op∧x.Op≤41)(hC:x.C.length≤25):
  ∃p r,zg L m c mt loc stk b x=some p∧zk L c mt loc stk b x=some r∧zn4 mt.Stack p r∧zmf loc stk b p:=by
 have h26:=h.made.len
 have hT:=(zxM h.made x.C x.M).1
 have hD:zdE L c mt loc stk b x=cond (!zdL L x.C) (some (stk,true)) (cond (zqI L b x) (some (stk,zqI L b x))
   (cond ((x.Op == (39:Int))||(x.Op == (41:Int))) ((zV L c mt loc stk (zqI L b x) [(zmu L x.C x.M).2.1.Type_]).bind fun v12=>zbb L c mt loc x (zmu L x.C x.M) v12.1 v12.2) (zbb L c mt loc x (zmu L x.C x.M) stk (zqI L b x)))):=by
  unfold zdE
  rw [zns (by omega)]
  simp only [Option.bind_some]
  rw [zqE,qf (show x.Op≠37 by omega),zth h.made h.lens]
  rfl
 cases hb:zqI L b x with
 |true =>
  refine ⟨_,(loc,stk,true),zpL (c:=c) h ho hC,?_,zgb (zz1 hb) rfl,zls h hC⟩
  rw [instr_field (by omega),hD,hb]
  cases zdL L x.C <;> rfl
 |false =>
  have hn:zdL L x.C=true:=by
   cases hq:zdL L x.C with
   |true=>rfl
   |false =>
    have:zmu L x.C x.M=([],zF,false):=by unfold zmu;rw [zj8 hq];rfl
    unfold zqI at hb
    rw [this] at hb
    simp at hb
  rw [hn,hb] at hD
  simp only [Bool.not_true,cond_false] at hD
  have hr:=h.room
  have hl1:=zjy (L:=L) [84] [x.C] stk false
  have hl2:=zjy (L:=L) [84] [(zmu L x.C x.M).2.1.Type_,x.C] stk false
  have hl3:=zjy (L:=L) [84] [(zmu L x.C x.M).2.1.Type_] stk false
  have hs3:=zdX (L:=L) (e:=[84]) (by decide) [(zmu L x.C x.M).2.1.Type_] stk false h.shS
  have ho4:x.Op=38∨x.Op=39∨x.Op=40∨x.Op=41:=by omega
  rcases ho4 with h4 |h4 |h4 |h4
  ·have e:zuY L stk b x=((zac L [84] [x.C] stk false).1++[(zmu L x.C x.M).2.1.Type_],(zac L [84] [x.C] stk false).2):=by unfold zuY;rw [hb,qt h4];rfl
   have hO:=zpL (c:=c) h ho hC
   have hK:=zls (x:=x) h hC
   rw [e] at hO hK
   refine ⟨_,_,hO,?_,zeT _,hK⟩
   ·rw [instr_field (by omega),hD]
    unfold zbb zcn
    rw [qf (show x.Op≠39 by omega),qf (show x.Op≠41 by omega),qt h4]
    simp only [Bool.or_false,Bool.true_or,cond_false,cond_true]
    rw [zew h.made (sh1 hC) h.shS,ze4 [78] [84]]
    simp only [Option.bind_some,List.reverse_singleton]
    rw [ze3 (zdX (by decide) _ _ _ h.shS).len]
    rfl
  ·have e:zuY L stk b x=zac L [84] [(zmu L x.C x.M).2.1.Type_,x.C] stk false:=by unfold zuY;rw [hb,qf (show x.Op≠38 by omega),qt h4];rfl
   refine ⟨_,(loc,zac L [84] [(zmu L x.C x.M).2.1.Type_,x.C] stk false),zpL (c:=c) h ho hC,?_,?_,zls (x:=x) h hC⟩
   ·rw [instr_field (by omega),hD]
    unfold zbb zcn
    rw [qf (show x.Op≠38 by omega),qf (show x.Op≠40 by omega),qt h4]
    simp only [Bool.or_false,Bool.true_or,Bool.or_true,cond_false,cond_true]
    rw [zew h.made (sh1 hT) h.shS,ze4 [78] [84]]
    simp only [Option.bind_some,List.reverse_singleton]
    rw [zew h.made (sh1 hC) hs3,ze4 [78] [84]]
    rfl
   ·rw [e];exact zft fun _=>by show ((zac L [84] [(zmu L x.C x.M).2.1.Type_,x.C] stk false).1.length:Int)≤mt.Stack;omega
  ·have e:zuY L stk b x=(stk++[(zmu L x.C x.M).2.1.Type_],false):=by unfold zuY;rw [hb,qf (show x.Op≠38 by omega),qf (show x.Op≠39 by omega),qt h4];rfl
   have hO:=zpL (c:=c) h ho hC
   have hK:=zls (x:=x) h hC
   rw [e] at hO hK
   refine ⟨_,_,hO,?_,zeT _,hK⟩
   ·rw [instr_field (by omega),hD]
    unfold zbb zcn
    rw [qf (show x.Op≠38 by omega),qf (show x.Op≠39 by omega),qf (show x.Op≠41 by omega),qt h4]
    simp only [Bool.or_false,Bool.or_true,cond_false,cond_true]
    rw [ze3 h.shS.len]
    rfl
  ·have e:zuY L stk b x=zac L [84] [(zmu L x.C x.M).2.1.Type_] stk false:=by unfold zuY;rw [hb,qf (show x.Op≠38 by omega),qf (show x.Op≠39 by omega),qf (show x.Op≠40 by omega)];rfl
   refine ⟨_,(loc,zac L [84] [(zmu L x.C x.M).2.1.Type_] stk false),zpL (c:=c) h ho hC,?_,?_,zls (x:=x) h hC⟩
   ·rw [instr_field (by omega),hD]
    unfold zbb zcn
    rw [qf (show x.Op≠38 by omega),qf (show x.Op≠39 by omega),qf (show x.Op≠40 by omega),qt h4]
    simp only [Bool.or_false,Bool.or_true,cond_false,cond_true]
    rw [zew h.made (sh1 hT) h.shS,ze4 [78] [84]]
    rfl
   ·rw [e];exact zft fun _=>by show ((zac L [84] [(zmu L x.C x.M).2.1.Type_] stk false).1.length:Int)≤mt.Stack;omega
end
section
variable {l L : List za} {m : List (Tx × Int)} {c : Tx} {mt : zb} {loc stk : List Tx} {b : Bool} {x : zl}
theorem instr_call(ho:42≤x.Op∧x.Op≤45):zk L c mt loc stk b x=(zfr L c mt loc stk b x).bind fun v=>some (loc,v.1,v.2):=by
 unfold zk
 rw [cf (by omega),cf (by omega),qf (show x.Op≠20 by omega),cf (by omega),ct ho]
 rfl
def zAy(t:Tx)(p:List Tx×Bool):List Tx×Bool:=cond (!(t == [86])) (p.1++[t],p.2) p
def zws(L:List za)(c:Tx)(x:zl)(s:Tx)(p:List Tx×Bool):List Tx×Bool:=
 cond ((x.Op == 43)||(x.Op == 45)) (zac L [84] [x.C] p.1 p.2)
  (cond (x.Op == 44) ((zbH [84] p.1 p.2).2.1,(zbH [84] p.1 p.2).2.2||!(zmt L (zbH [84] p.1 p.2).1 x.C&&(zmt L (zbH [84] p.1 p.2).1 c&&(zdW L c).any (fun y=>s == y)))) p)
def zri(L:List za)(c:Tx)(stk:List Tx)(b:Bool)(x:zl)(s:Tx)(f:zb)(ok:Bool):List Tx×Bool:=
 zAy f.Ret (zws L c x s (zac L [84] f.Params.reverse stk (b||!(ok&&(f.Static == (x.Op == (42:Int)))))))
theorem zvg(c:Tx)(x:zl)(s:Tx)(p:List Tx×Bool):(zws L c x s p).1<+:p.1:=by
 unfold zws
 cases (x.Op == 43)||(x.Op == 45) with
 |true=>exact zdz _ _ _ _ _
 |false =>
  cases x.Op == 44 with
  |true=>exact zgY _ _ _
  |false=>exact List.prefix_refl _
theorem zrQ{c:Tx}{x:zl}{s:Tx}{p:List Tx×Bool}(h:p.2=true):(zws L c x s p).2=true:=by
 unfold zws
 cases (x.Op == 43)||(x.Op == 45) with
 |true=>exact zbk _ _ _ h
 |false =>
  cases x.Op == 44 with
  |true=>show ((zbH [84] p.1 p.2).2.2||_)=true;rw [zgX h];rfl
  |false=>exact h
theorem zvZ(h:zfb l L m mt loc stk b){s:Tx}{f:zb}{ok:Bool}(hR:f.Ret.length≤25)(hM:ok=true→zuk f.Ret=true):zmf loc stk b (loc,zri L c stk b x s f ok):=by
 have hp:=(zvg (L:=L) c x s (zac L [84] f.Params.reverse stk (b||!(ok&&(f.Static == (x.Op == (42:Int))))))).trans (zdz _ _ _ _ _)
 have hb:b=true→(zws L c x s (zac L [84] f.Params.reverse stk (b||!(ok&&(f.Static == (x.Op == (42:Int))))))).2=true:=fun e=>zrQ (zbk _ _ _ (by rw [e];rfl))
 unfold zri zAy
 cases hv:f.Ret == [86] with
 |true=>exact zfl hb h.shL h.shS hp
 |false =>
  refine zes hb h.shL h.shS hp hR fun e=>.inr ?_
  have:ok=true:=by
   cases ok with
   |true=>rfl
   |false =>
    rw [zrQ (zbk _ _ _ (by simp))] at e
    cases e
  have hr:=hM this
  unfold zuk at hr
  rw [hv] at hr
  exact zwa (by simpa using hr) hR
theorem zyz{f:zb}(h1:∀s∈f.Params,zfU s=true)(h2:f.Params.length≤6):ShL f.Params:=⟨by omega,fun s hs=>zlD (h1 s hs)⟩
theorem zAb{f:zb}{s:List Tx}{e:Bool}(hs:s.length≤1000):zaS L m c mt loc f s e=some (zAy f.Ret (s,e)):=by
 unfold zaS zAy
 rw [ze2 hs]
 cases f.Ret == [86] <;> rfl
theorem zBS(h:zfb l L m mt loc stk b)(ho:42≤x.Op∧x.Op≤45)(hC:x.C.length≤25)(hc:c.length≤25){s:Tx}{f:zb}{ok:Bool}(h1:∀s∈f.Params,zfU s=true)(h2:f.Params.length≤6):
  zb4 L m c mt loc stk b x s f ok=some (zri L c stk b x s f ok):=by
 have h26:=ze9 h.made c
 unfold zb4 zri
 rw [zfD h.made h.map (zyz h1 h2) h.shS]
 simp only [Option.bind_some]
 generalize hq:zac L [84] f.Params.reverse stk (b||!(ok&&(f.Static == (x.Op == (42:Int)))))=q
 have hs:ShL q.1:=by rw [←hq];exact zdX (by decide) _ _ _ h.shS
 obtain ⟨g1,g2⟩:=zdU (b:=q.2) hs (e:=[84]) (by decide)
 have hT:∀v:Bool,v=true→zbz L m c mt loc x s f q v=some (zAy f.Ret (zac L [84] [x.C] q.1 q.2)):=fun v hv=>by
  unfold zbz
  rw [hv]
  simp only [cond_true]
  rw [zfD h.made h.map (sh1 hC) hs]
  simp only [Option.bind_some,List.reverse_singleton]
  rw [zAb (zdX (by decide) _ _ _ hs).len]
 have ho4:x.Op=42∨x.Op=43∨x.Op=44∨x.Op=45:=by omega
 unfold zws
 rcases ho4 with h4 |h4 |h4 |h4
 ·rw [qf (show x.Op≠43 by omega),qf (show x.Op≠45 by omega),qf (show x.Op≠44 by omega)]
  simp only [cond_false,Bool.or_false]
  unfold zbz
  rw [qf (show x.Op≠44 by omega)]
  simp only [cond_false]
  exact zAb hs.len
 ·rw [qt h4]
  simp only [cond_true,Bool.true_or]
  exact hT _ rfl
 ·rw [qf (show x.Op≠43 by omega),qf (show x.Op≠45 by omega),qt h4]
  simp only [cond_false,Bool.or_false,cond_true]
  unfold zbz
  rw [qt h4]
  simp only [cond_false,cond_true]
  rw [zmB hs.len]
  simp only [Option.bind_some]
  rw [zoV h.made h.map g1 hC,zoV h.made h.map g1 hc,zim h.made h.map]
  simp only [Option.bind_some]
  rw [zoW (by omega)]
  simp only [Option.bind_some]
  rw [zAb g2.len,zAb g2.len]
  cases zmt L (zbH [84] q.1 q.2).1 x.C <;> cases zmt L (zbH [84] q.1 q.2).1 c <;> rfl
 ·rw [qf (show x.Op≠43 by omega),qt h4]
  simp only [cond_false,cond_true,Bool.or_true]
  exact hT _ rfl
theorem zzM(T:List Tx)(s:Tx):(T.any fun y=>s == y)=T.any fun y=>y == s:=by
 congr 1
 funext y
 rw [Bool.eq_iff_iff,beq_iff_eq,beq_iff_eq]
 exact eq_comm
theorem zC9(h:zfb l L m mt loc stk false)(ho:42≤x.Op∧x.Op≤45)(hC:x.C.length≤25)(hc:c.length≤25){s:Tx}{f:zb}(h1:∀s∈f.Params,zfU s=true)(h2:f.Params.length≤6):
  zbm L c mt loc stk false x f s true=zbW L c mt loc f (zws L c x s (zac L [84] f.Params.reverse stk false)).1 (zws L c x s (zac L [84] f.Params.reverse stk false)).2:=by
 have h26:=ze9 h.made c
 unfold zbm
 simp only [Bool.not_true,Bool.or_false,cond_false]
 rw [zew h.made (zyz h1 h2) h.shS,ze4 [78] [84]]
 simp only [Option.bind_some]
 generalize hq:zac L [84] f.Params.reverse stk false=q
 have hs:ShL q.1:=by rw [←hq];exact zdX (by decide) _ _ _ h.shS
 obtain ⟨g1,g2⟩:=zdU (b:=q.2) hs (e:=[78]) (by decide)
 have ho4:x.Op=42∨x.Op=43∨x.Op=44∨x.Op=45:=by omega
 unfold zws
 rw [zjb hs.len]
 simp only [Option.bind_some]
 rw [zhf h.made g1 hC,zhf h.made g1 hc,zhu h.made]
 simp only [Option.bind_some]
 rw [zmb (by omega)]
 simp only [Option.bind_some]
 rcases ho4 with h4 |h4 |h4 |h4
 ·rw [qt h4,qf (show x.Op≠43 by omega),qf (show x.Op≠45 by omega),qf (show x.Op≠44 by omega)]
  rfl
 ·rw [qt h4,qf (show x.Op≠42 by omega),qf (show x.Op≠44 by omega),ze4 [84] [78]]
  rfl
 ·rw [qt h4,qf (show x.Op≠42 by omega),qf (show x.Op≠43 by omega),qf (show x.Op≠45 by omega)]
  simp only [Bool.not_false,cond_true,cond_false,Bool.or_false]
  have e2:=zj4 [84] [78] q.1 q.2
  rw [zzM,e2]
  have e3:((zbH [78] q.1 q.2).2.2||!(zmt L (zbH [84] q.1 q.2).1 x.C&&(zmt L (zbH [84] q.1 q.2).1 c&&(zdW L c).any (fun y=>y == s))))=((zbH [78] q.1 q.2).2.2||!(zmt L (zbH [78] q.1 q.2).1 x.C&&(zmt L (zbH [78] q.1 q.2).1 c&&(zdW L c).any (fun y=>y == s)))):=
   zpM fun e=>by rw [zfq [78] [84] q.1 q.2 e]
  rw [e3]
  cases zmt L (zbH [78] q.1 q.2).1 x.C <;> cases zmt L (zbH [78] q.1 q.2).1 c <;> cases (zdW L c).any (fun y=>y == s) <;> simp
 ·rw [qt h4,qf (show x.Op≠42 by omega),qf (show x.Op≠43 by omega),qf (show x.Op≠44 by omega),ze4 [84] [78]]
  rfl
theorem zuJ(h:zfb l L m mt loc stk b)(ho:42≤x.Op∧x.Op≤45)(hC:x.C.length≤25)(hc:c.length≤25){s:Tx}{f:zb}{ok:Bool}(h1:∀s∈f.Params,zfU s=true)(h2:f.Params.length≤6)(h3:f.Ret.length≤25)(h4:ok=true→zuk f.Ret=true)
  (hP:zde L m c mt loc stk b x=zb4 L m c mt loc stk b x s f ok) (hD:zfr L c mt loc stk b x=zbm L c mt loc stk b x f s (ok&&(f.Static == (x.Op == (42:Int))))):
  ∃p r,zg L m c mt loc stk b x=some p∧zk L c mt loc stk b x=some r∧zn4 mt.Stack p r∧zmf loc stk b p:=by
 have hO:zg L m c mt loc stk b x=some (loc,zri L c stk b x s f ok):=by
  rw [zAn ho,hP,zBS h ho hC hc h1 h2];rfl
 have hK:=zvZ (c:=c) (x:=x) (s:=s) h h3 h4
 cases hb:(b||!(ok&&(f.Static == (x.Op == (42:Int))))) with
 |true =>
  refine ⟨_,(loc,stk,true),hO,?_,zgb ?_ rfl,hK⟩
  ·rw [instr_call ho,hD]
   unfold zbm
   rw [hb];rfl
  ·show (zri L c stk b x s f ok).2=true
   have:(zws L c x s (zac L [84] f.Params.reverse stk (b||!(ok&&(f.Static == (x.Op == (42:Int))))))).2=true:=zrQ (zbk _ _ _ hb)
   unfold zri zAy
   cases f.Ret == [86] <;> exact this
 |false =>
  have hb1:b=false:=by simp only [Bool.or_eq_false_iff] at hb;exact hb.1
  have hb2:(ok&&(f.Static == (x.Op == (42:Int))))=true:=by simp only [Bool.or_eq_false_iff,Bool.not_eq_false'] at hb;exact hb.2
  subst hb1
  rw [hb2,zC9 h ho hC hc h1 h2] at hD
  have hl:=(zvg (L:=L) c x s (zac L [84] f.Params.reverse stk false)).length_le
  have hl2:=zjy (L:=L) [84] f.Params.reverse stk false
  have hr:=h.room
  have hsh:=h.shS.1
  have eK:zri L c stk false x s f ok=zAy f.Ret (zws L c x s (zac L [84] f.Params.reverse stk false)):=by unfold zri;rw [hb]
  generalize zws L c x s (zac L [84] f.Params.reverse stk false)=q at hD hl eK
  cases hv:f.Ret == [86] with
  |true =>
   refine ⟨_,(loc,q.1,q.2),hO,?_,?_,hK⟩
   ·rw [instr_call ho,hD]
    unfold zbW
    rw [hv];rfl
   ·rw [eK]
    unfold zAy
    rw [hv]
    exact zft fun _=>by omega
  |false =>
   rw [eK] at hO hK
   unfold zAy at hO hK
   rw [hv] at hO hK
   refine ⟨_,_,hO,?_,zeT _,hK⟩
   rw [instr_call ho,hD]
   unfold zbW
   rw [hv]
   simp only [Bool.not_false,cond_true]
   rw [ze3 (by omega)]
   rfl
theorem zy0(h:zfb l L m mt loc stk b)(ho:42≤x.Op∧x.Op≤45)(hC:x.C.length≤25)(hc:c.length≤25):
  ∃p r,zg L m c mt loc stk b x=some p∧zk L c mt loc stk b x=some r∧zn4 mt.Stack p r∧zmf loc stk b p:=by
 by_cases h5:x.Op=45
 ·obtain ⟨⟨k1,k2,k3,k4⟩,k5⟩:=zCz h.made x.C x.M
  refine zuJ (s:=(zn9 L x.C x.M).1) (f:=(zn9 L x.C x.M).2.1) (ok:=(zn9 L x.C x.M).2.2) h ho hC hc k1 k2 k3 k4 ?_ ?_
  ·unfold zde
   rw [znI h.made h.map h.lens,qt h5,zxG h.made h.map h.lens]
   rfl
  ·unfold zfr
   rw [qt h5,zuj h.made h.lens,qf (show x.Op≠42 by omega)]
   show zbm L c mt loc stk b x _ _ _=_
   congr 1
   cases hq:(zn9 L x.C x.M).2.2 with
   |false=>rfl
   |true=>rw [k5 hq];rfl
 ·obtain ⟨k1,k2,k3,k4⟩:=zyb h.made zaU x.M (zdW L x.C)
  generalize hR:((zdW L x.C).findSome? (zm6 L zaU x.M)).getD ([],zM,false)=R at k1 k2 k3 k4
  refine zuJ (s:=R.1) (f:=R.2.1) (ok:=R.2.2&&!R.2.1.Abstract) h ho hC hc k1 k2 k3 (fun e=>k4 (by rw [Bool.and_eq_true] at e;exact e.1)) ?_ ?_
  ·unfold zde
   rw [znI h.made h.map h.lens,qf h5,hR]
   rfl
  ·unfold zfr
   rw [qf h5,zr3 h.made h.lens,hR]
   show zbm L c mt loc stk b x _ _ _=_
   congr 1
   cases R.2.2 <;> cases R.2.1.Abstract <;> cases R.2.1.Static == (x.Op == (42:Int)) <;> rfl
end
section
variable {l L : List za} {m : List (Tx × Int)} {c : Tx} {mt : zb} {loc stk : List Tx} {b : Bool} {x : zl}
theorem instr_arrays(ho:49≤x.Op∧x.Op≤55):zk L c mt loc stk b x=(zbg L c mt loc stk b x).bind fun v=>some (loc,v.1,v.2):=by
 unfold zk
 rw [cf (by omega),cf (by omega),qf (show x.Op≠20 by omega),cf (by omega),cf (by omega),ct ho]
 rfl
def ztI(C:Tx):Tx:=cond (zfU (91 ::C)) (91 ::C) []
theorem zCv{C:Tx}(h:zfU (91 ::C)=true):zfU C=true:=by
 have e:zfE (91 ::C)=C:=by rw [zgD,if_pos rfl]
 unfold zfU at h ⊢
 rw [e] at h
 have hb:brk (zfE C)=false:=by
  rw [Bool.or_eq_true] at h
  rcases h with h |h
  ·have:zfE C=[73]:=by simpa using h
   rw [this];rfl
  ·exact zjO h
 rw [zmd hb]
 exact h
theorem znE{C:Tx}(h:C.length≤1000):zjV C=some (ztI C):=by
 unfold zjV ztI
 have hl:Len C:=by show C.length≤9223372036854775807;omega
 have hl2:Len (91 ::C):=by show (91 ::C).length≤9223372036854775807;simp;omega
 rw [zg4 hl,zli (by simp;omega)]
 simp only [Option.bind_some,List.singleton_append]
 rw [zg4 hl2]
 cases h1:zfU (91 ::C) with
 |true=>rw [zCv h1];rfl
 |false=>cases zfU C <;> rfl
theorem zrX{C:Tx}(h:C.length≤1000):zol C=some (ztI C):=by
 unfold zol ztI
 have hl2:Len (91 ::C):=by show (91 ::C).length≤9223372036854775807;simp;omega
 rw [zli (by simp;omega)]
 simp only [Option.bind_some,List.singleton_append]
 rw [zm9 hl2]
 cases zfU (91 ::C) <;> rfl
theorem zxn(x:UInt8):((x.toNat:Int) == (91:Int))=(x == 91):=by
 rw [Bool.eq_iff_iff,beq_iff_eq,beq_iff_eq]
 constructor
 ·intro h;exact UInt8.toNat_inj.1 (by simpa using (Int.ofNat_inj.1 h))
 ·intro h;rw [h];rfl
theorem ztf{s:Tx}(h:Len s):zpQ s=some (zeZ s):=by
 unfold zpQ zeZ
 rw [zm9 h]
 cases hm:zfU s with
 |false=>rfl
 |true =>
  cases s with
  |nil =>
   exfalso
   unfold zfU at hm
   rw [show zfE (zfE [])=[] from rfl] at hm
   simp at hm
   exact zjP hm rfl
  |cons x r =>
   simp only [Option.bind_some,Bool.not_true,cond_false,Bool.true_and]
   rw [zjv]
   simp only [List.getElem?_cons_zero,Option.bind_some,zxn]
   rw [show (1:Int)=((1:Nat):Int) from rfl,zhk (by simp)]
   show cond (!(x == 91)) _ _=some (cond (x == 91) _ _)
   cases x == 91 <;> rfl
theorem zte(hs:ShL stk):zf9 L c mt loc stk b=some (zke [78] stk b):=by
 unfold zf9 zke
 obtain ⟨h1,h2⟩:=zdU (b:=b) hs (e:=[78]) (by decide)
 rw [zjb hs.len]
 simp only [Option.bind_some]
 rw [ztf (zur h1)]
 cases hq:(zbH [78] stk b).1 == [78] with
 |true =>
  have e:(zbH [78] stk b).1=[78]:=by simpa using hq
  rw [e];simp
 |false=>rfl
def zCV(t:Tx):Bool:=(t == [78])||(decide (1<(t.length:Int))&&brk t)
theorem zCp(t:Tx):((cond (t == [78]) (some true) ((cond (decide (1<(List.length t:Int))) ((idx t 0).bind fun v16=>some ((v16.toNat:Int) == (91:Int))) (some false)).bind fun v17=>some v17)):Option Bool)=some (zCV t):=by
 unfold zCV
 cases t == [78] with
 |true=>rfl
 |false =>
  cases t with
  |nil=>rfl
  |cons x r =>
   rw [zjv]
   simp only [List.getElem?_cons_zero,Option.bind_some,zxn]
   show ((cond (decide (1<(List.length (x ::r):Int))) (some (x == 91)) (some false)).bind fun v17=>some v17)=some (false||(decide (1<(List.length (x ::r):Int))&&(x == 91)))
   cases decide (1<(List.length (x ::r):Int)) <;> rfl
theorem zDi{t:Tx}(h:onS t):zCV t=((zeZ t).2||(t == [78])):=by
 rcases h with rfl |h
 ·unfold zCV
  rw [beq_self_eq_true];simp
 ·unfold zCV zeZ
  rw [h]
  cases hb:brk t with
  |false=>simp
  |true =>
   have h1:=(zo1 h hb).1
   have h2:t.drop 1≠[]:=fun e=>by
    rw [e] at h1
    unfold zfU at h1
    rw [show zfE (zfE [])=[] from rfl] at h1
    simp at h1
    exact zjP h1 rfl
   have h3:1<t.length:=by
    have:0<(t.drop 1).length:=List.length_pos_iff.2 h2
    simp at this
    omega
   rw [decide_eq_true (show 1<(t.length:Int) by omega)]
   simp
def thA(L:List za)(C:Tx):Bool:=zfU (91 ::C)&&thN L (91 ::C)
theorem zBv(C:Tx)(T:Tx→Bool)(h:zfU (91 ::C)=true→T (91 ::C)=thN L (91 ::C)):(cond (!(ztI C == [])) (some (T (ztI C))) (some false))=some (thA L C):=by
 unfold ztI thA
 cases hm:zfU (91 ::C) with
 |true =>
  rw [←h hm]
  rfl
 |false=>rfl
theorem zyY(h:zfb l L m mt loc stk b)(ho:x.Op=49∨x.Op=50∨x.Op=52∨x.Op=53)(hC:x.C.length≤10):
  ∃p r,zg L m c mt loc stk b x=some p∧zk L c mt loc stk b x=some r∧zn4 mt.Stack p r∧zmf loc stk b p:=by
 have hI:=zlr.1
 have hA:([91,73]:Tx).length≤25:=by decide
 have hr:=h.room
 rcases ho with h4 |h4 |h4 |h4
 ·refine ⟨(loc,(zac L [84] [[73]] stk b).1++[[91,73]],(zac L [84] [[73]] stk b).2),_,?_,?_,zeT _,zes (zbk _ _ _) h.shL h.shS (zdz _ _ _ _ _) hA fun _=>.inr ⟨hA,.inr (by decide +kernel)⟩⟩
  ·rw [zhR (by omega)]
   unfold zav
   rw [qt h4]
   simp only [cond_true]
   rw [zfD h.made h.map (sh1 hI) h.shS]
   simp only [Option.bind_some,List.reverse_singleton]
   rw [ze2 (zdX (by decide) _ _ _ h.shS).len]
   rfl
  ·rw [instr_arrays (by omega)]
   unfold zbg
   rw [qt h4]
   simp only [cond_true]
   rw [zew h.made (sh1 hI) h.shS,ze4 [78] [84]]
   simp only [Option.bind_some,List.reverse_singleton]
   rw [ze3 (zdX (by decide) _ _ _ h.shS).len]
   rfl
 ·have hT:(ztI x.C).length≤25:=by
   unfold ztI
   cases zfU (91 ::x.C)
   ·exact Nat.zero_le _
   ·show (91 ::x.C).length≤25
    simp;omega
  refine ⟨(loc,(zac L [84] [[73]] stk (b||!thA L x.C)).1++[ztI x.C],(zac L [84] [[73]] stk (b||!thA L x.C)).2),_,?_,?_,zeT _,zes (fun e=>zbk _ _ _ (by rw [e];rfl)) h.shL h.shS (zdz _ _ _ _ _) hT fun e=>.inr ?_⟩
  ·rw [zhR (by omega)]
   unfold zav
   rw [qf (show x.Op≠49 by omega),qt h4]
   simp only [cond_true,cond_false]
   rw [znE (by omega)]
   simp only [Option.bind_some]
   rw [znn h.made h.map hT]
   simp only [Option.bind_some]
   rw [zBv x.C (zsa L) fun hm=>zsb hm]
   simp only [Option.bind_some]
   rw [zfD h.made h.map (sh1 hI) h.shS]
   simp only [Option.bind_some,List.reverse_singleton]
   rw [ze2 (zdX (by decide) _ _ _ h.shS).len]
   rfl
  ·rw [instr_arrays (by omega)]
   unfold zbg
   rw [qf (show x.Op≠49 by omega),qt h4]
   simp only [cond_true,cond_false]
   rw [zrX (by omega)]
   simp only [Option.bind_some]
   rw [zd5 h.made (by omega)]
   simp only [Option.bind_some]
   rw [zBv x.C (thN L) fun hm=>rfl]
   simp only [Option.bind_some]
   rw [zew h.made (sh1 hI) h.shS,ze4 [78] [84]]
   simp only [Option.bind_some,List.reverse_singleton]
   rw [ze3 (zdX (by decide) _ _ _ h.shS).len]
   rfl
  ·have hth:thA L x.C=true:=by
    cases hq:thA L x.C with
    |true=>rfl
    |false=>rw [hq,zbk _ _ _ (by simp)] at e;cases e
   unfold thA at hth
   rw [Bool.and_eq_true] at hth
   unfold ztI at hT ⊢
   rw [hth.1] at hT ⊢
   exact zwa hth.1 hT
 ·refine ⟨(loc,(zac L [84] [[73],[91,73]] stk b).1++[[73]],(zac L [84] [[73],[91,73]] stk b).2),_,?_,?_,zeT _,zes (zbk _ _ _) h.shL h.shS (zdz _ _ _ _ _) hI fun _=>.inr zlr⟩
  ·rw [zhR (by omega)]
   unfold zav
   rw [qf (show x.Op≠49 by omega),qf (show x.Op≠50 by omega),qf (show x.Op≠51 by omega),qt h4]
   simp only [cond_true,cond_false]
   rw [zfD h.made h.map (sh2 hA hI) h.shS]
   simp only [Option.bind_some]
   rw [show ([[91,73],[73]]:List Tx).reverse=[[73],[91,73]] from rfl,ze2 (zdX (by decide) _ _ _ h.shS).len]
   rfl
  ·rw [instr_arrays (by omega)]
   unfold zbg
   rw [qf (show x.Op≠49 by omega),qf (show x.Op≠50 by omega),qf (show x.Op≠51 by omega),qt h4]
   simp only [cond_true,cond_false]
   rw [zew h.made (sh2 hA hI) h.shS,ze4 [78] [84]]
   simp only [Option.bind_some]
   rw [show ([[91,73],[73]]:List Tx).reverse=[[73],[91,73]] from rfl,ze3 (zdX (by decide) _ _ _ h.shS).len]
   rfl
 ·have hl:=zjy (L:=L) [84] [[73],[73],[91,73]] stk b
  refine ⟨(loc,zac L [84] [[73],[73],[91,73]] stk b),(loc,zac L [84] [[73],[73],[91,73]] stk b),?_,?_,zft fun _=>by show ((zac L [84] [[73],[73],[91,73]] stk b).1.length:Int)≤mt.Stack;omega,zpz id h.shL h.shS⟩
  ·rw [zhR (by omega)]
   unfold zav
   rw [qf (show x.Op≠49 by omega),qf (show x.Op≠50 by omega),qf (show x.Op≠51 by omega),qf (show x.Op≠52 by omega),qt h4]
   simp only [cond_true,cond_false]
   rw [zfD h.made h.map (sh3 hA hI hI) h.shS]
   rfl
  ·rw [instr_arrays (by omega)]
   unfold zbg
   rw [qf (show x.Op≠49 by omega),qf (show x.Op≠50 by omega),qf (show x.Op≠51 by omega),qf (show x.Op≠52 by omega),qt h4]
   simp only [cond_true,cond_false]
   rw [zew h.made (sh3 hA hI hI) h.shS,ze4 [78] [84]]
   rfl
theorem zBM(e:Tx)(s:List Tx)(b:Bool):(zke e s b).2.1.length≤s.length:=zpN e s b
theorem zBN{s:List Tx}{b:Bool}(hs:∀t∈s,onS t)(hl:∀t∈s,t.length≤25)(h:(zke [84] s b).2.2=false):zzD (zke [84] s b).1:=by
 unfold zke at h ⊢
 simp only [Bool.or_eq_false_iff,Bool.not_eq_false'] at h
 have hin:=zlG h.1
 generalize (zbH [84] s b).1=t at h hin
 have h1:=hl t hin
 simp only
 cases hq:t == [78] with
 |true =>
  have e:t=[78]:=by simpa using hq
  rw [e];exact zz0
 |false =>
  rw [hq] at h
  simp only [Bool.false_or,Bool.and_eq_true] at h
  have h2:=h.2.1
  unfold zeZ at h2 ⊢
  cases hb:zfU t&&brk t with
  |false=>rw [hb] at h2;cases h2
  |true =>
   rw [Bool.and_eq_true] at hb
   refine zwa (zo1 hb.1 hb.2).1 ?_
   show (t.drop 1).length≤25
   simp;omega
theorem zyZ(h:zfb l L m mt loc stk b)(ho:x.Op=51∨x.Op=54∨x.Op=55):
  ∃p r,zg L m c mt loc stk b x=some p∧zk L c mt loc stk b x=some r∧zn4 mt.Stack p r∧zmf loc stk b p:=by
 have hI:=zlr.1
 have hr:=h.room
 rcases ho with h4 |h4 |h4
 ·obtain ⟨g1,g2⟩:=zdU (b:=b) h.shS (e:=[84]) (by decide)
  obtain ⟨k1,k2⟩:=zdU (b:=b) h.shS (e:=[78]) (by decide)
  have hb:((zbH [78] stk b).2.2||!zCV (zbH [78] stk b).1)=((zbH [84] stk b).2.2||!((zeZ (zbH [84] stk b).1).2||((zbH [84] stk b).1 == [78]))):=by
   have e2:=zj4 [78] [84] stk b
   rw [e2]
   refine zpM fun e=>?_
   rw [←zfq [84] [78] stk b e,zDi (h.on _ (zlG e))]
  refine ⟨(loc,(zbH [84] stk b).2.1++[[73]],(zbH [84] stk b).2.2||!((zeZ (zbH [84] stk b).1).2||((zbH [84] stk b).1 == [78]))),_,?_,?_,zeT _,zes (fun e=>by rw [zgX e];rfl) h.shL h.shS (zgY _ _ _) hI fun _=>.inr zlr⟩
  ·rw [zhR (by omega)]
   unfold zav
   rw [qf (show x.Op≠49 by omega),qf (show x.Op≠50 by omega),qt h4]
   simp only [cond_true,cond_false]
   rw [zmB h.shS.len]
   simp only [Option.bind_some]
   rw [zfw (zur g1)]
   simp only [Option.bind_some]
   rw [ze2 g2.len]
   rfl
  ·rw [instr_arrays (by omega)]
   unfold zbg
   rw [qf (show x.Op≠49 by omega),qf (show x.Op≠50 by omega),qt h4]
   simp only [cond_true,cond_false]
   rw [zjb h.shS.len]
   simp only [Option.bind_some]
   rw [zCp]
   simp only [Option.bind_some]
   rw [ze3 k2.len,hb,zj4 [78] [84]]
   rfl
 ·have hT:=zdX (L:=L) (e:=[84]) (by decide) [[73]] stk b h.shS
  have hP:=zdz L [84] [[73]] stk b
  have hB:b=true→(zac L [84] [[73]] stk b).2=true:=zbk _ _ _
  have hOn:∀t∈(zac L [84] [[73]] stk b).1,onS t:=fun t ht=>h.on t (hP.subset ht)
  have hO:zg L m c mt loc stk b x=some (loc,(zke [84] (zac L [84] [[73]] stk b).1 (zac L [84] [[73]] stk b).2).2.1++[(zke [84] (zac L [84] [[73]] stk b).1 (zac L [84] [[73]] stk b).2).1],(zke [84] (zac L [84] [[73]] stk b).1 (zac L [84] [[73]] stk b).2).2.2):=by
   rw [zhR (by omega)]
   unfold zav
   rw [qf (show x.Op≠49 by omega),qf (show x.Op≠50 by omega),qf (show x.Op≠51 by omega),qf (show x.Op≠52 by omega),qf (show x.Op≠53 by omega),qt h4]
   simp only [cond_true,cond_false]
   rw [zfD h.made h.map (sh1 hI) h.shS]
   simp only [Option.bind_some,List.reverse_singleton]
   rw [zuF hT]
   simp only [Option.bind_some]
   rw [ze2 (ztH hT (by decide)).2.len]
   rfl
  have hD:zk L c mt loc stk b x=some (loc,(zoI mt.Stack (zke [78] (zac L [84] [[73]] stk b).1 (zac L [84] [[73]] stk b).2).2.1 (zke [78] (zac L [84] [[73]] stk b).1 (zac L [84] [[73]] stk b).2).2.2 (zke [78] (zac L [84] [[73]] stk b).1 (zac L [84] [[73]] stk b).2).1).1,(zoI mt.Stack (zke [78] (zac L [84] [[73]] stk b).1 (zac L [84] [[73]] stk b).2).2.1 (zke [78] (zac L [84] [[73]] stk b).1 (zac L [84] [[73]] stk b).2).2.2 (zke [78] (zac L [84] [[73]] stk b).1 (zac L [84] [[73]] stk b).2).1).2):=by
   rw [instr_arrays (by omega)]
   unfold zbg
   rw [qf (show x.Op≠49 by omega),qf (show x.Op≠50 by omega),qf (show x.Op≠51 by omega),qf (show x.Op≠52 by omega),qf (show x.Op≠53 by omega),qt h4]
   simp only [cond_true,cond_false]
   rw [zew h.made (sh1 hI) h.shS,ze4 [78] [84]]
   simp only [Option.bind_some,List.reverse_singleton]
   rw [zte hT]
   simp only [Option.bind_some]
   rw [ze3 (ztH hT (by decide)).2.len]
   rfl
  generalize zac L [84] [[73]] stk b=q at hT hP hB hOn hO hD
  have hK:zmf loc stk b (loc,(zke [84] q.1 q.2).2.1++[(zke [84] q.1 q.2).1],(zke [84] q.1 q.2).2.2):=
   zes (fun e=>zuC (hB e)) h.shL h.shS ((zuD _ _ _).trans hP) (ztH hT (by decide)).1 fun e=>.inr (zBN hOn hT.2 e)
  refine ⟨_,_,hO,hD,?_,hK⟩
  have e2:=zA5 [78] [84] q.1 q.2
  cases hb:(zke [84] q.1 q.2).2.2 with
  |true=>exact zgb rfl (znP (by rw [e2];exact hb))
  |false =>
   rw [←zvX [84] [78] q.1 q.2 hb,e2,hb]
   exact zeT _
 ·have e2:=(znS (b:=b) h.on).1
  obtain ⟨g1,g2⟩:=zr1 (b:=b) h.shS (e:=[84]) (by decide)
  have hP0:=zkJ [84] stk b
  have hB0:b=true→(zhe [84] stk b).2.2=true:=zma
  have hT:=zdX (L:=L) (e:=[84]) (by decide) [[73]] (zhe [84] stk b).2.1 (zhe [84] stk b).2.2 g2
  have hP:=(zdz L [84] [[73]] (zhe [84] stk b).2.1 (zhe [84] stk b).2.2).trans hP0
  have hB:b=true→(zac L [84] [[73]] (zhe [84] stk b).2.1 (zhe [84] stk b).2.2).2=true:=fun e=>zbk _ _ _ (hB0 e)
  have hO:zg L m c mt loc stk b x=some (loc,(zke [84] (zac L [84] [[73]] (zhe [84] stk b).2.1 (zhe [84] stk b).2.2).1 (zac L [84] [[73]] (zhe [84] stk b).2.1 (zhe [84] stk b).2.2).2).2.1,(zke [84] (zac L [84] [[73]] (zhe [84] stk b).2.1 (zhe [84] stk b).2.2).1 (zac L [84] [[73]] (zhe [84] stk b).2.1 (zhe [84] stk b).2.2).2).2.2):=by
   rw [zhR (by omega)]
   unfold zav
   rw [qf (show x.Op≠49 by omega),qf (show x.Op≠50 by omega),qf (show x.Op≠51 by omega),qf (show x.Op≠52 by omega),qf (show x.Op≠53 by omega),qf (show x.Op≠54 by omega)]
   simp only [cond_true,cond_false]
   rw [zqX h.shS]
   simp only [Option.bind_some]
   rw [zfD h.made h.map (sh1 hI) g2]
   simp only [Option.bind_some,List.reverse_singleton]
   rw [zuF hT]
   rfl
  have hD:zk L c mt loc stk b x=some (loc,(zke [78] (zac L [84] [[73]] (zhe [84] stk b).2.1 (zhe [84] stk b).2.2).1 (zac L [84] [[73]] (zhe [84] stk b).2.1 (zhe [84] stk b).2.2).2).2.1,(zke [78] (zac L [84] [[73]] (zhe [84] stk b).2.1 (zhe [84] stk b).2.2).1 (zac L [84] [[73]] (zhe [84] stk b).2.1 (zhe [84] stk b).2.2).2).2.2):=by
   rw [instr_arrays (by omega)]
   unfold zbg
   rw [qf (show x.Op≠49 by omega),qf (show x.Op≠50 by omega),qf (show x.Op≠51 by omega),qf (show x.Op≠52 by omega),qf (show x.Op≠53 by omega),qf (show x.Op≠54 by omega),qt h4]
   simp only [cond_true,cond_false]
   rw [znj h.shS]
   simp only [Option.bind_some]
   rw [e2,zew h.made (sh1 hI) g2,ze4 [78] [84]]
   simp only [Option.bind_some,List.reverse_singleton]
   rw [zte hT]
   rfl
  rw [zA5 [78] [84]] at hD
  have hl:=zBM [84] (zac L [84] [[73]] (zhe [84] stk b).2.1 (zhe [84] stk b).2.2).1 (zac L [84] [[73]] (zhe [84] stk b).2.1 (zhe [84] stk b).2.2).2
  have hl2:=hP.length_le
  exact ⟨_,_,hO,hD,zft fun _=>by omega,zfl (fun e=>zuC (hB e)) h.shL h.shS ((zuD _ _ _).trans hP)⟩
end
section
variable {l L : List za} {m : List (Tx × Int)} {c : Tx} {mt : zb} {loc stk : List Tx} {b : Bool} {x : zl}
theorem zxZ{x:zl}(h:zmz x=true):(1≤x.Op∧x.Op≤61)∧zm8 x.Op x.A=true∧zt5 x.Op x.C=true:=by
 unfold zmz zl4 zfp at h
 simp only [Bool.and_eq_true,decide_eq_true_eq] at h
 exact ⟨h.1.1.1,h.1.1.2,h.1.2⟩
def zA4(L:List za)(m:List (Tx×Int))(c:Tx)(mt:zb)(loc stk:List Tx)(b:Bool)(x:zl):Prop:=
 ∃p r,zg L m c mt loc stk b x=some p∧zk L c mt loc stk b x=some r∧zn4 mt.Stack (p.1,p.2.1,cond (zf7 x.Op) (p.2.2||!znB L mt p.1 p.2.1 x.A) p.2.2) r∧zmf loc stk b p
theorem zCJ(hj:zf7 x.Op=false)(h:∃p r,zg L m c mt loc stk b x=some p∧zk L c mt loc stk b x=some r∧zn4 mt.Stack p r∧zmf loc stk b p):zA4 L m c mt loc stk b x:=by
 obtain ⟨p,r,h1,h2,h3,h4⟩:=h
 exact ⟨p,r,h1,h2,by rw [hj];exact h3,h4⟩
theorem zAJ(h:zfb l L m mt loc stk b)(hk:zlh mt)(hm:zmz x=true)(hc:c.length≤25):zA4 L m c mt loc stk b x:=by
 obtain ⟨hO,hA,hC⟩:=zxZ hm
 have h10:=zCn hm
 by_cases hj:20≤x.Op∧x.Op≤36
 ·have e:zf7 x.Op=true:=bt hj
  obtain ⟨p,r,h1,h2,h3,h4⟩:=zy2 (c:=c) h hk hj
  exact ⟨p,r,h1,h2,by rw [e];exact h3,h4⟩
 have e:zf7 x.Op=false:=bf hj
 refine zCJ e ?_
 by_cases h1:x.Op=1∨x.Op=2
 ·exact zwN h h1
 by_cases h3:x.Op=3
 ·have:0≤x.A:=by
   unfold zm8 zfp at hA
   rw [h3] at hA
   simp at hA
   omega
  exact zy3 h h3 this
 by_cases h4:x.Op=4
 ·have:0≤x.A:=by
   unfold zm8 zfp at hA
   rw [h4] at hA
   simp at hA
   omega
  exact zwP h h4 this
 by_cases h5:x.Op=5
 ·exact zAN h h5
 by_cases h6:x.Op=6
 ·exact zAK h h6
 by_cases h7:x.Op=7
 ·exact zy4 h h7
 by_cases h8:8≤x.Op∧x.Op≤19
 ·exact zwM h h8
 by_cases h9:x.Op=37
 ·exact zAL h h9 (by omega)
 by_cases h11:38≤x.Op∧x.Op≤41
 ·exact zwO h h11 (by omega)
 by_cases h12:42≤x.Op∧x.Op≤45
 ·exact zy0 h h12 (by omega) hc
 by_cases h13:x.Op=46∨x.Op=47
 ·exact zAO h h13
 by_cases h14:x.Op=48
 ·exact zyX h h14 hk.ret (zqZ hk.ret)
 by_cases h15:x.Op=49∨x.Op=50∨x.Op=52∨x.Op=53
 ·exact zyY h h15 h10
 by_cases h16:x.Op=51∨x.Op=54∨x.Op=55
 ·exact zyZ h h16
 by_cases h17:x.Op=56∨x.Op=57
 ·refine zy1 h h17 ?_ (by omega)
  have ht:ziM x.Op=true:=by
   unfold ziM
   rcases h17 with e |e <;> rw [e] <;> rfl
  unfold zt5 at hC
  rw [ht] at hC
  simp only [cond_true] at hC
  unfold zr2 at hC
  rw [Bool.and_eq_true] at hC
  exact hC.2
 by_cases h18:x.Op=58
 ·exact zwQ h h18
 by_cases h19:x.Op=59
 ·exact zCI h h19
 exact zAM h (by omega)
theorem zxC(n:Int):zi5 n=zkC n:=rfl
theorem zvR(h:zfb l L m mt loc stk false)(hk:zlh mt){p:List Tx×List Tx×Bool}(hp:zmf loc stk false p)(hb:p.2.2=false)(hr:(p.2.1.length:Int)≤mt.Stack):zfb l L m mt p.1 p.2.1 false:=by
 obtain ⟨_,⟨k1,k2,k3,k4⟩,k5⟩:=hp
 obtain ⟨k6,k7⟩:=k5 hb
 have hs:=hk.stack.2
 refine ⟨h.made,h.map,h.lens,⟨by rw [k1];exact h.shL.1,k3⟩,⟨by omega,k4⟩,fun t ht=>?_,hr,fun t ht=>?_⟩
 ·rcases k6 t ht with e |e
  ·exact h.on t e
  ·exact e.2
 ·rcases k7 t ht with e |e
  ·exact h.onL t e
  ·exact .inr (h.on t e)
end
section
variable {l L : List za} {m : List (Tx × Int)} {c : Tx} {mt : zb} {loc stk : List Tx} {b : Bool}
def zwJ(L:List za)(m:List (Tx×Int))(c:Tx)(mt:zb)(z:List Tx×List Tx×Bool×Bool×Int):Option Bool:=
 (zm (fun z=>zaC c (zr.mk L m) mt z.1 z.2.1 z.2.2.1 z.2.2.2.1 z.2.2.2.2) z).bind fun o=>zI o (fun b=>zj9 b.1 b.2.1 b.2.2) some
def zAB(L:List za)(c:Tx)(mt:zb)(z:List Tx×List Tx×Bool×Bool×Int):Option Bool:=
 (zm (fun z=>zaI c (zbl.mk L) mt z.1 z.2.1 z.2.2.1 z.2.2.2.1 z.2.2.2.2) z).bind fun o=>zI o (fun b=>ziH b.1 b.2.1 b.2.2.1 b.2.2.2) some
theorem zyR{g g':Bool}{i i':Int}{loc' stk':List Tx}{b':Bool}(h:zaC c (zr.mk L m) mt loc stk b g i=some (.inl (loc',stk',b',g',i'))):zwJ L m c mt (loc,stk,b,g,i)=zwJ L m c mt (loc',stk',b',g',i'):=by
 unfold zwJ
 rw [zE]
 show ((zaC c (zr.mk L m) mt loc stk b g i).bind _).bind _=_
 rw [h];rfl
theorem ztm{g:Bool}{i:Int}{v:Bool}(h:zaC c (zr.mk L m) mt loc stk b g i=some (.inr (.inr v))):zwJ L m c mt (loc,stk,b,g,i)=some v:=by
 unfold zwJ
 rw [zE]
 show ((zaC c (zr.mk L m) mt loc stk b g i).bind _).bind _=_
 rw [h];rfl
theorem ztl{g:Bool}{i:Int}(h:zaC c (zr.mk L m) mt loc stk b g i=some (.inr (.inl (loc,stk,b)))):zwJ L m c mt (loc,stk,b,g,i)=some (!b):=by
 unfold zwJ
 rw [zE]
 show ((zaC c (zr.mk L m) mt loc stk b g i).bind _).bind _=_
 rw [h];rfl
theorem zyQ{g g':Bool}{i i':Int}{loc' stk':List Tx}{b':Bool}(h:zaI c (zbl.mk L) mt loc stk b g i=some (.inl (loc',stk',b',g',i'))):zAB L c mt (loc,stk,b,g,i)=zAB L c mt (loc',stk',b',g',i'):=by
 unfold zAB
 rw [zE]
 show ((zaI c (zbl.mk L) mt loc stk b g i).bind _).bind _=_
 rw [h];rfl
theorem ztk{g:Bool}{i:Int}(h:zaI c (zbl.mk L) mt loc stk b g i=some (.inr (.inl (loc,stk,b,g)))):zAB L c mt (loc,stk,b,g,i)=some (!b&&!g):=by
 unfold zAB
 rw [zE]
 show ((zaI c (zbl.mk L) mt loc stk b g i).bind _).bind _=_
 rw [h];rfl
theorem zvv(h:zcC l L)(hm:zbc L m)(hk:zlh mt)(hl:ShL loc)(hs:ShL stk){g:Bool}{i:Nat}(hi:i≤mt.Code.length):zwJ L m c mt (loc,stk,true,g,(i:Int))=some false:=by
 by_cases hlt:i<mt.Code.length
 ·refine ztm ?_
  unfold zaC
  have hx:mt.Code[i]?=some mt.Code[i]:=List.getElem?_eq_getElem hlt
  rw [zfk hx,zs,hx]
  simp only [cond_true,Option.bind_some]
  rw [zxD h hm hk hl hs]
  rfl
 ·refine ztl ?_
  unfold zaC
  rw [decide_eq_false (by omega)]
  rfl
theorem zr6{g:Bool}{i:Int}:zAB L c mt (loc,stk,true,g,i)=some false:=by
 refine ztk ?_
 unfold zaI
 rw [Bool.not_true,Bool.and_false]
 rfl
theorem zB5(h:zcC l L)(hk:zlh mt)(hl:ShL loc)(hs:ShL stk){g:Bool}{i:Nat}{x:zl}(hx:mt.Code[i]?=some x):
  zaI c (zbl.mk L) mt loc stk false g (i:Int) =
   (zcG L c mt (zgF L mt loc stk i g).1 (zgF L mt loc stk i g).2.1 (zgF L mt loc stk i g).2.2 (i:Int)).bind fun v98 =>
    (zk L c mt (zgF L mt loc stk i g).1 (zgF L mt loc stk i g).2.1 v98 x).bind fun v100=>some (.inl (v100.1,v100.2.1,v100.2.2,(!(zi5 x.Op)),(IntKind.i64.wrap ((i:Int)+1)))):=by
 unfold zaI
 rw [zfk hx]
 simp only [Bool.not_false,Bool.and_true,cond_true]
 rw [zrJ hk]
 unfold zDk zgF
 have key:∀(v:zT×Bool) (b:Bool) (p q:List Tx),ze8 c (zbl.mk L) mt g (i:Int) v b p q =
   (zcG L c mt p q (b||!(v.2||g)) (i:Int)).bind fun v98=>(zk L c mt p q v98 x).bind fun v100=>some (.inl (v100.1,v100.2.1,v100.2.2,(!(zi5 x.Op)),(IntKind.i64.wrap ((i:Int)+1)))):=fun v b p q=>by
  unfold ze8
  rw [zs,hx]
  rfl
 cases hf:zva mt (i:Int) with
 |none =>
  simp only [Option.bind_some,Bool.false_and,cond_false]
  unfold zdO
  simp only [cond_false]
  rw [key]
  simp
 |some y =>
  have hy:=zpG hk hf
  simp only [Option.bind_some,Bool.true_and]
  have key2:∀b:Bool,zdO c (zbl.mk L) mt loc stk g (i:Int) (y,true) b=(zcG L c mt y.Locals y.Stack b (i:Int)).bind fun v98=>(zk L c mt y.Locals y.Stack v98 x).bind fun v100=>some (.inl (v100.1,v100.2.1,v100.2.2,(!(zi5 x.Op)),(IntKind.i64.wrap ((i:Int)+1)))):=fun b=>by
   unfold zdO
   simp only [cond_true]
   rw [zxw (hy.shl hk).len (hy.shs hk).len]
   simp only [Option.bind_some]
   rw [key]
   simp
  rw [zxT h hk hl hs]
  cases g with
  |true=>simp only [cond_true,Option.bind_some,Bool.false_or,Bool.true_and];exact key2 _
  |false=>simp only [cond_false,Bool.false_and];exact key2 _
theorem zAC(hk:zlh mt)(hc:c.length≤25):∀(d i:Nat) (loc stk:List Tx) (g:Bool),d+i=mt.Code.length→zfb l L m mt loc stk false→(d=0→g=false) →
  ∃v,zwJ L m c mt (loc,stk,false,g,(i:Int))=some v∧zAB L c mt (loc,stk,false,g,(i:Int))=some v:=by
 intro d
 induction d with
 |zero =>
  intro i loc stk g hd h hg
  have hg:=hg rfl
  subst hg
  refine ⟨true,?_,?_⟩
  ·refine ztl ?_
   unfold zaC
   rw [decide_eq_false (by omega)]
   rfl
  ·refine ztk ?_
   unfold zaI
   rw [decide_eq_false (by omega)]
   rfl
 |succ d ih =>
  intro i loc stk g hd h hg
  have hlt:i<mt.Code.length:=by omega
  have hx:mt.Code[i]?=some mt.Code[i]:=List.getElem?_eq_getElem hlt
  have hxm:=hk.ins _ (List.getElem_mem hlt)
  have h100:=hk.code.2
  generalize mt.Code[i]=x at hx hxm
  have hw:IntKind.i64.wrap ((i:Int)+1)=((i+1:Nat):Int):=zQ (by omega)
  have hE:∀b,zfb l L m mt (zgF L mt loc stk i g).1 (zgF L mt loc stk i g).2.1 b:=fun b=>ztK h hk
  have hD:=zB5 (c:=c) h.made hk h.shL h.shS (g:=g) hx
  have hP:zaC c (zr.mk L m) mt loc stk false g (i:Int)=cond (zgF L mt loc stk i g).2.2 (some (.inr (.inr false))) ((zdS L m c mt (zgF L mt loc stk i g).1 (zgF L mt loc stk i g).2.1 (zgF L mt loc stk i g).2.2 (i:Int)).bind fun v51=>(zg L m c mt (zgF L mt loc stk i g).1 (zgF L mt loc stk i g).2.1 v51 x).bind fun v52=>cond (zf7 x.Op) ((zdg L m c mt v52.1 v52.2.1 v52.2.2 x.A).bind fun v53=>zeF mt (i:Int) x v52 v53) (zeF mt (i:Int) x v52 v52.2.2)):=by
   unfold zaC
   rw [zfk hx,zs,hx]
   simp only [cond_true,Option.bind_some]
   rw [zxD h.made h.map hk h.shL h.shS]
   rfl
  generalize zgF L mt loc stk i g=E at hE hD hP
  obtain ⟨p,r,s1,s2,s3,s4⟩:=zAJ (c:=c) (hE (E.2.2||mt.Traps.any (zp2 L mt E.1 i))) hk hxm hc
  rw [zCQ h.made hk (hE false).shL] at hD
  simp only [Option.bind_some] at hD
  rw [s2] at hD
  simp only [Option.bind_some] at hD
  rw [hw,zxC] at hD
  have hDn:=zyQ hD
  cases hb:E.2.2 with
  |true =>
   rw [hb] at hP s4
   refine ⟨false,ztm hP,?_⟩
   have hpb:p.2.2=true:=s4.1 rfl
   have hrb:r.2.2=true:=by
    rw [←s3.1,hpb]
    cases zf7 x.Op <;> rfl
   rw [hDn,hrb]
   exact zr6
  |false =>
   rw [hb] at hP s1 s4
   simp only [cond_false] at hP
   rw [zCP h.made h.map hk (hE false).shL] at hP
   simp only [Option.bind_some] at hP
   rw [s1] at hP
   simp only [Option.bind_some] at hP
   obtain ⟨k0,⟨k1,k2,k3,k4⟩,k5⟩:=s4
   have hroom:=(hE false).room
   have hst:=hk.stack.2
   have hl1:ShL p.1:=⟨by rw [k1];exact (hE false).shL.1,k3⟩
   have hs1:ShL p.2.1:=⟨by omega,k4⟩
   rw [zBf h.made h.map hk hl1 hs1] at hP
   have hP2:zaC c (zr.mk L m) mt loc stk false g (i:Int)=some (.inl (p.1,p.2.1,r.2.2,!zkC x.Op,((i+1:Nat):Int))):=by
    rw [hP,←s3.1,←hw]
    unfold zeF
    cases zf7 x.Op <;> rfl
   have hPn:=zyR hP2
   rw [hPn,hDn]
   cases hrb:r.2.2 with
   |true=>exact ⟨false,zvv h.made h.map hk hl1 hs1 (by omega),zr6⟩
   |false =>
    obtain ⟨e1,e2⟩:=s3.2 hrb
    simp only at e1 e2
    rw [←e1,←e2]
    have hsum:=s3.1
    rw [hrb] at hsum
    simp only [Bool.or_eq_false_iff,Bool.not_eq_false',decide_eq_true_eq] at hsum
    have hpb:p.2.2=false:=by
     have:=hsum.1
     cases hq:zf7 x.Op with
     |true=>rw [hq] at this;simp only [cond_true,Bool.or_eq_false_iff] at this;exact this.1
     |false=>rw [hq] at this;exact this
    have hT:(false||mt.Traps.any (zp2 L mt E.1 i))=false:=by
     cases hq:(false||mt.Traps.any (zp2 L mt E.1 i)) with
     |false=>rfl
     |true=>rw [hq] at k0;rw [k0 rfl] at hpb;cases hpb
    rw [hT] at k0
    refine ih (i+1) p.1 p.2.1 (!zkC x.Op) (by omega) (zvR (hE false) hk ⟨k0,⟨k1,k2,k3,k4⟩,k5⟩ hpb hsum.2) fun h0=>?_
    obtain ⟨y,hy1,hy2⟩:=hk.last
    rw [List.getLast?_eq_getElem?] at hy1
    have:mt.Code.length-1=i:=by omega
    rw [this,hx] at hy1
    cases hy1
    rw [hy2];rfl
end
theorem zvl{R:Type}{n:Int}{body:List Tx→Option (Sum (List Tx) (Sum (List Tx) R))}
  (hb:∀z:List Tx,body z=cond (decide (((List.length z):Int)<n)) ((zgT 16 z ([[84]])).bind fun v=>some (.inl v)) (some (.inr (.inl z)))):
  ∀(k:Nat) (z:List Tx),((z.length+k:Nat):Int)=n→z.length+k≤1000→zm body z=some (.inl (z++List.replicate k [84]))
 | 0,z,h,h2=>by
  rw [zE,hb,decide_eq_false (by omega)]
  simp
 |k+1,z,h,h2=>by
  rw [zE,hb,decide_eq_true (by omega),zbF (by simp;omega) (by simp;omega)]
  simp only [cond_true,Option.bind_some,Sum.elim_inl]
  rw [zvl hb k (z++[[84]]) (by simp;omega) (by simp;omega)]
  simp [List.replicate_succ]
section
variable {l L : List za} {m : List (Tx × Int)} {c : Tx} {f : zb} {b : Bool}
def zoc(L:List za)(T:List Tx):Bool:=T.any fun t=>!zsa L t
theorem zzn(h:zcC l L)(hm:zbc L m){T:List Tx}(hT:ShL T):ziT T L m=some (!zoc L T):=by
 unfold ziT za1 zcL
 rw [show ((zm (fun z=>za8 T L m z) 0).bind fun o=>zI o (fun b=>zeb) some)=_ from zay (l:=T) (p:=fun t=>!zsa L t) (by have:=hT.len;omega)
  (fun i x hx=>by
   have hl:=hT.2 x (List.mem_of_getElem? hx)
   unfold za8 zlQ zjg
   rw [zfk hx,zs,hx]
   simp only [Option.bind_some,cond_true]
   rw [znn h hm hl]
   rfl) (by unfold za8;rw [zfJ];rfl)]
 rw [Option.bind_some,zdT]
 rfl
theorem zAX(h:zcC l L)(hm:zbc L m){T:List Tx}(hT:ShL T):zhv T L m=some (!T.any fun t=>!thN L t):=by
 unfold zhv za2 zcM
 rw [show ((zm (fun z=>za9 T L m z) 0).bind fun o=>zI o (fun b=>zec) some)=_ from zay (l:=T) (p:=fun t=>!thN L t) (by have:=hT.len;omega)
  (fun i x hx=>by
   have hl:=hT.2 x (List.mem_of_getElem? hx)
   unfold za9 zji zjh
   rw [zfk hx,zs,hx]
   simp only [Option.bind_some,cond_true]
   rw [zor h hm hl (zur hl),sub_self]
   rfl) (by unfold za9;rw [zfJ];rfl)]
 rw [Option.bind_some,zdT]
 rfl
def zwl(c:Tx)(f:zb):List Tx:=cond (!f.Static) [c] []++f.Params
def zm5(c:Tx)(f:zb):List Tx:=zwl c f++List.replicate (f.Locals.toNat-(zwl c f).length) [84]
theorem zsR(hk:zlh f):((zwl c f).length:Int)=zax f:=by
 have h6:=hk.npar
 unfold zwl zax
 cases f.Static with
 |true=>simp
 |false =>
  rw [zmj (by omega) (by omega)]
  simp
theorem zBq{R:Type}(hk:zlh f){body:List Tx→Option (Sum (List Tx) (Sum (List Tx) R))}
  (hb:∀z:List Tx,body z=cond (decide (((List.length z):Int)<f.Locals)) ((zgT 16 z ([[84]])).bind fun v=>some (.inl v)) (some (.inr (.inl z)))):zm body (zwl c f)=some (.inl (zm5 c f)):=by
 have h1:=zsR (c:=c) hk
 have h2:=hk.locs
 exact zvl hb _ _ (by omega) (by omega)
theorem zx5(hk:zlh f):((zm5 c f).length:Int)=f.Locals:=by
 have h1:=zsR (c:=c) hk
 have h2:=hk.locs
 unfold zm5
 simp
 omega
theorem zsS(hk:zlh f)(hc:zfU c=true):∀t∈zm5 c f,t.length≤25∧(t=[84]∨onS t):=by
 intro t ht
 unfold zm5 zwl at ht
 rcases List.mem_append.1 ht with h |h
 ·rcases List.mem_append.1 h with h |h
  ·have:t=c:=by
    cases hs:f.Static with
    |true=>rw [hs] at h;cases h
    |false=>rw [hs] at h;simpa using h
   rw [this]
   exact ⟨zlD hc,.inr (.inr hc)⟩
  ·have:=hk.params t h
   exact ⟨zlD this,.inr (.inr this)⟩
 ·rw [(List.mem_replicate.1 h).2]
  exact ⟨by decide,.inl rfl⟩
theorem ztD(h:zcC l L)(hm:zbc L m)(hL:zlT L)(hk:zlh f)(hc:zfU c=true):zfb l L m f (zm5 c f) [] false:=by
 have h1:=zx5 (c:=c) hk
 have h2:=hk.locs
 have h3:=hk.stack
 exact ⟨h,hm,hL,⟨by omega,fun t ht=>(zsS hk hc t ht).1⟩,⟨Nat.zero_le _,fun t ht=>(List.not_mem_nil ht).elim⟩,fun t ht=>(List.not_mem_nil ht).elim,by simp;omega,fun t ht=>(zsS hk hc t ht).2⟩
def zA8(L:List za)(f:zb):Bool:=((f.Maps.any fun x=>zoc L x.Locals||zoc L x.Stack)||!((f.Ret == [86])||thN L f.Ret))||f.Params.any fun t=>!thN L t
theorem zBR(hk:zlh f)(b:Bool):zga L c f [] [] b=some (zm5 c f):=by
 have h6:=hk.npar
 unfold zga
 have key:zeP f (cond (!f.Static) [c] [])=some (zm5 c f):=by
  unfold zeP
  rw [zbF (by cases f.Static <;> simp <;> omega) (by cases f.Static <;> simp <;> omega)]
  simp only [Option.bind_some]
  rw [show zm (fun z=>zgo f z) (cond (!f.Static) [c] []++f.Params)=_ from zBq (c:=c) hk (body:=fun z=>zgo f z) fun z=>rfl]
  rfl
 cases hs:f.Static with
 |true=>rw [hs] at key;exact key
 |false =>
  rw [hs] at key
  simp only [Bool.not_false,cond_true] at key ⊢
  rw [zbF (by simp) (by simp)]
  exact key
theorem zyy(hk:zlh f):ShL f.Params:=⟨by have:=hk.npar;omega,fun s hs=>zlD (hk.params s hs)⟩
theorem zAh(h:zcC l L)(hm:zbc L m)(hk:zlh f):((zm (fun z=>zdK (zr.mk L m) f z.1 z.2) (false,0)).bind fun o=>zI o (fun b=>ziC c (zr.mk L m) f b) some)=zwJ L m c f (zm5 c f,[],zA8 L f,true,0):=by
 have h6:=hk.npar
 rw [zlU (body:=fun z=>zdK (zr.mk L m) f z.1 z.2) (l:=f.Maps) (p:=fun x=>zoc L x.Locals||zoc L x.Stack) (by have:=hk.nmaps;omega) (fun i x b hx=>by
  have hy:=hk.maps x (List.mem_of_getElem? hx)
  show zdK (zr.mk L m) f b (i:Int)=_
  unfold zdK
  rw [zfk hx,zs,hx]
  simp only [cond_true,Option.bind_some]
  rw [zzn h hm (hy.shl hk),zzn h hm (hy.shs hk)]
  cases zoc L x.Locals <;> cases zoc L x.Stack <;> rfl) (fun b=>by
  show zdK (zr.mk L m) f b (f.Maps.length:Int)=_
  unfold zdK
  rw [zfJ];rfl)]
 simp only [Option.bind_some,zI]
 have j4:∀(b v:Bool),zfN c (zr.mk L m) f b v (cond (!f.Static) [c] [])=zwJ L m c f (zm5 c f,[],b||!v,true,0):=fun b v=>by
  unfold zfN
  rw [zbF (by cases f.Static <;> simp <;> omega) (by cases f.Static <;> simp <;> omega)]
  simp only [Option.bind_some]
  rw [show zm (fun z=>ziD f z) (cond (!f.Static) [c] []++f.Params)=_ from zBq (c:=c) hk (body:=fun z=>ziD f z) fun z=>rfl]
  rfl
 have j3:∀b:Bool,zfM c (zr.mk L m) f b=zwJ L m c f (zm5 c f,[],b||(f.Params.any fun t=>!thN L t),true,0):=fun b=>by
  unfold zfM
  rw [zAX h hm (zyy hk)]
  simp only [Option.bind_some]
  have:=j4 b (!f.Params.any fun t=>!thN L t)
  rw [Bool.not_not] at this
  rw [←this]
  cases hs:f.Static with
  |true=>rfl
  |false =>
   simp only [Bool.not_false,cond_true]
   rw [zbF (by simp) (by simp)]
   rfl
 unfold ziC zA8
 have hr:=zqZ hk.ret
 rw [zor h hm hr (zur hr),sub_self]
 simp only [Option.bind_some]
 rw [j3,j3]
 cases f.Ret == [86] <;> simp
theorem zAg(h:zcC l L)(hk:zlh f):((zm (fun z=>zci (zbl.mk L) f z.1 z.2) (false,0)).bind fun o=>zI o (fun b=>zg9 c (zbl.mk L) f b) some)=zAB L c f (zm5 c f,[],zA8 L f,true,0):=by
 have h6:=hk.npar
 rw [zlU (body:=fun z=>zci (zbl.mk L) f z.1 z.2) (l:=f.Maps) (p:=fun x=>zoc L x.Locals||zoc L x.Stack) (by have:=hk.nmaps;omega) (fun i x b hx=>by
  have hy:=hk.maps x (List.mem_of_getElem? hx)
  have hl:=(hy.shl hk).1
  have hs:=(hy.shs hk).1
  show zci (zbl.mk L) f b (i:Int)=_
  unfold zci
  rw [zfk hx,zs,hx]
  simp only [cond_true,Option.bind_some]
  rw [zbF (by simp;omega) (by simp;omega)]
  simp only [Option.bind_some,List.nil_append]
  rw [zbF (by omega) (by omega)]
  simp only [Option.bind_some]
  rw [zlU (body:=fun z=>zdc (zbl.mk L) (x.Locals++x.Stack) z.1 z.2) (l:=x.Locals++x.Stack) (p:=fun t=>!zsa L t) (by simp;omega) (fun j t b ht=>by
   have hm:=List.mem_of_getElem? ht
   have h25:t.length≤25:=by
    rcases List.mem_append.1 hm with e |e
    ·exact hy.loc25 t e
    ·exact hy.stk25 t e
   show zdc (zbl.mk L) (x.Locals++x.Stack) b (j:Int)=_
   unfold zdc
   rw [zfk ht,zs,ht]
   simp only [cond_true,Option.bind_some]
   rw [zd5 h (by omega)]
   unfold zsa
   cases t == [84] <;> cases t == [78] <;> cases thN L t <;> rfl) (fun b=>by
   show zdc (zbl.mk L) (x.Locals++x.Stack) b ((x.Locals++x.Stack).length:Int)=_
   unfold zdc
   rw [zfJ];rfl)]
  rw [List.any_append]
  rfl) (fun b=>by
  show zci (zbl.mk L) f b (f.Maps.length:Int)=_
  unfold zci
  rw [zfJ];rfl)]
 simp only [Option.bind_some,zI]
 unfold zg9
 rw [zlU (body:=fun z=>zdd (zbl.mk L) f z.1 z.2) (l:=f.Params) (p:=fun t=>!thN L t) (by omega) (fun i t b ht=>by
  have h25:=(zyy hk).2 t (List.mem_of_getElem? ht)
  show zdd (zbl.mk L) f b (i:Int)=_
  unfold zdd
  rw [zfk ht,zs,ht]
  simp only [cond_true,Option.bind_some]
  rw [zd5 h (by omega)]
  rfl) (fun b=>by
  show zdd (zbl.mk L) f b (f.Params.length:Int)=_
  unfold zdd
  rw [zfJ];rfl)]
 simp only [Option.bind_some,zI]
 unfold zja
 have hr:=zqZ hk.ret
 rw [zd5 h (by omega)]
 have e:((cond (f.Ret == [86]) (some true) ((some (thN L f.Ret)).bind fun v69=>some v69)):Option Bool)=some ((f.Ret == [86])||thN L f.Ret):=by cases f.Ret == [86] <;> rfl
 rw [e]
 simp only [Option.bind_some]
 rw [zBR hk]
 simp only [Option.bind_some]
 have e2:(((false||f.Maps.any fun x=>zoc L x.Locals||zoc L x.Stack)||f.Params.any fun t=>!thN L t)||!((f.Ret == [86])||thN L f.Ret))=zA8 L f:=by
  unfold zA8
  cases (f.Maps.any fun x=>zoc L x.Locals||zoc L x.Stack) <;> cases (f.Params.any fun t=>!thN L t) <;> cases ((f.Ret == [86])||thN L f.Ret) <;> rfl
 rw [e2]
 rfl
theorem zzQ(h:zcC l L)(hm:zbc L m)(hL:zlT L)(hk:zlh f)(hc:zfU c=true):∃v,zwJ L m c f (zm5 c f,[],zA8 L f,true,0)=some v∧zAB L c f (zm5 c f,[],zA8 L f,true,0)=some v:=by
 have hA:=ztD h hm hL hk hc
 cases zA8 L f with
 |true=>exact ⟨false,zvv (i:=0) h hm hk hA.shL hA.shS (Nat.zero_le _),zr6⟩
 |false=>exact zAC hk (zlD hc) f.Code.length 0 (zm5 c f) [] true (by omega) hA fun e=>by have:=hk.code.1;omega
theorem zzo(h:zcC l L)(hm:zbc L m)(hL:zlT L)(c:Tx)(k:Int):∃v,zbT (some (zr.mk L m)) c k=some v∧zix (some (zbl.mk L)) c k=some v:=by
 have h26:=h.len
 unfold zbT zix
 simp only [zwx]
 rw [zem hm,zns (by omega)]
 simp only [Option.bind_some]
 rw [zqE]
 cases hc:cl L c with
 |none =>
  rw [zmU hc]
  exact ⟨false,rfl,rfl⟩
 |some x =>
  rw [zgP hc,zoD,hc]
  simp only [Option.bind_some,Bool.not_true,Bool.false_or]
  by_cases h0:k<0
  ·rw [decide_eq_true h0]
   exact ⟨false,rfl,rfl⟩
  rw [decide_eq_false h0]
  simp only [Bool.false_or,cond_false]
  by_cases h1:(x.Methods.length:Int)≤k
  ·rw [decide_eq_true h1]
   exact ⟨false,rfl,rfl⟩
  rw [decide_eq_false h1]
  obtain ⟨n,rfl⟩:∃n:Nat,k=(n:Int):=⟨k.toNat,by omega⟩
  have hn:n<x.Methods.length:=by omega
  have hf:x.Methods[n]?=some x.Methods[n]:=List.getElem?_eq_getElem hn
  have hfm:=List.getElem_mem hn
  generalize x.Methods[n]=f at hf hfm
  rw [zs,hf]
  simp only [Option.bind_some,cond_false]
  cases ha:f.Abstract with
  |true=>exact ⟨false,rfl,rfl⟩
  |false =>
   have hk:=zDm (zvc h (zbR hc).1 hfm) ha
   have hcm:=zn8 (zj2 h (zgP hc))
   simp only [cond_false]
   rw [zAh h hm hk,zAg h hk]
   exact zzQ h hm hL hk hcm
end
theorem zEN{α:Type}{w:Nat}{a b:List α}(h:a.length+b.length≤1000)(hw:w≤1000):zgT w a b=some (a++b):=zbF (Nat.le_trans (Nat.mul_le_mul h hw) (by decide)) (by omega)
section
variable {l L : List za} {m : List (Tx × Int)}
def zmT(L:List za)(t:Tx):Bool:=(!(t == [86])&&!(t == []))&&!zsa L t
theorem zpq(h:zcC l L)(hm:zbc L m){t:Tx}(ht:t.length≤25):zdZ t L m=some (zmT L t):=by
 unfold zdZ zmT
 rw [znn h hm ht]
 cases (!(t == [86])&&!(t == [])) <;> rfl
def zyd(L:List za)(x:zl):Bool:=
 cond ((((x.Op == 38)||(x.Op == 39))||(x.Op == 40))||(x.Op == 41)) (zmu L x.C x.M).2.2
  (cond (((x.Op == 42)||(x.Op == 43))||(x.Op == 44)) ((((zdW L x.C).findSome? (zm6 L zaU x.M)).getD ([],zM,false)).2.2&&!isF L x.C) (cond (x.Op == 45) (zn9 L x.C x.M).2.2 true))
theorem zAi(h:zcC l L)(hm:zbc L m)(hL:zlT L)(x:zl):zjr L m x=some (zyd L x):=by
 unfold zjr zfi zgg zfj zyd zmu
 rw [zem hm,zuW h hm hL,znI h hm hL,zxG h hm hL,zsK]
 simp only [Option.bind_some]
 cases x.Op == 38 <;> cases x.Op == 39 <;> cases x.Op == 40 <;> cases x.Op == 41 <;> cases x.Op == 42 <;> cases x.Op == 43 <;> cases x.Op == 44 <;> cases x.Op == 45 <;> rfl
def zpx(L:List za)(x:zl):Bool:=zmT L x.C||!zyd L x
theorem zwg(h:zcC l L)(hm:zbc L m)(hL:zlT L){x:zl}(hx:x.C.length≤25):zgV x L m L m=some (zpx L x):=by
 unfold zgV zpx
 rw [zpq h hm hx,zAi h hm hL]
 cases zmT L x.C <;> rfl
theorem zxp(h:zcC l L)(hm:zbc L m)(hL:zlT L){T:List zi}(hl:T.length≤10000)(hT:∀x∈T,x.Type_.length≤25):zab T L m=some (T.any fun x=>zmT L x.Type_):=by
 unfold zab zbN
 rw [show ((zm (fun z=>zaB T L m z) 0).bind fun o=>zI o (fun b=>zcU) some)=_ from zay (l:=T) (p:=fun x:zi=>zmT L x.Type_) (by omega) (fun i x hx=>by
   unfold zaB zjE
   rw [zfk hx,zs,hx]
   simp only [Option.bind_some,cond_true]
   rw [zpq h hm (hT x (List.mem_of_getElem? hx))]
   rfl) (by unfold zaB;rw [zfJ];rfl)]
 rw [Option.bind_some,zdT]
theorem zzT(h:zcC l L)(hm:zbc L m)(hL:zlT L){T:List zN}(hl:T.length≤10000)(hT:∀x∈T,x.C.length≤25):zaJ T L m=some (T.any fun x=>zmT L x.C):=by
 unfold zaJ zbZ
 rw [show ((zm (fun z=>zaK T L m z) 0).bind fun o=>zI o (fun b=>zdj) some)=_ from zay (l:=T) (p:=fun x:zN=>zmT L x.C) (by omega) (fun i x hx=>by
   unfold zaK zir
   rw [zfk hx,zs,hx]
   simp only [Option.bind_some,cond_true]
   rw [zpq h hm (hT x (List.mem_of_getElem? hx))]
   rfl) (by unfold zaK;rw [zfJ];rfl)]
 rw [Option.bind_some,zdT]
theorem zBT(h:zcC l L)(hm:zbc L m)(hL:zlT L){T:List zl}(hl:T.length≤10000)(hT:∀x∈T,x.C.length≤25):zaQ T L m L m=some (T.any fun x=>zpx L x):=by
 unfold zaQ zcj
 rw [show ((zm (fun z=>zaR T L m L m z) 0).bind fun o=>zI o (fun b=>zdH) some)=_ from zay (l:=T) (p:=fun x:zl=>zpx L x) (by omega) (fun i x hx=>by
   unfold zaR 
   rw [zfk hx,zs,hx]
   simp only [Option.bind_some,cond_true]
   rw [zwg h hm hL (hT x (List.mem_of_getElem? hx))]
   rfl) (by unfold zaR;rw [zfJ];rfl)]
 rw [Option.bind_some,zdT]
theorem zBV(h:zcC l L)(hm:zbc L m)(hL:zlT L){T:List Tx}(hl:T.length≤10000)(hT:∀x∈T,x.length≤25):za3 T L m=some (T.any fun x=>zmT L x):=by
 unfold za3 zcN
 rw [show ((zm (fun z=>zba T L m z) 0).bind fun o=>zI o (fun b=>zed) some)=_ from zay (l:=T) (p:=fun x:Tx=>zmT L x) (by omega) (fun i x hx=>by
   unfold zba 
   rw [zfk hx,zs,hx]
   simp only [Option.bind_some,cond_true]
   rw [zpq h hm (hT x (List.mem_of_getElem? hx))]
   rfl) (by unfold zba;rw [zfJ];rfl)]
 rw [Option.bind_some,zdT]
def zpI(L:List za)(f:zb):Bool:=((zmT L f.Ret||f.Params.any fun x=>zmT L x)||f.Traps.any fun x=>zmT L x.C)||f.Code.any fun x=>zpx L x
structure zzF(f:zb):Prop where
 pars:f.Params.length≤10000∧∀x∈f.Params,x.length≤25
 ret:f.Ret.length≤25
 traps:f.Traps.length≤10000∧∀x∈f.Traps,x.C.length≤25
 code:f.Code.length≤10000∧∀x∈f.Code,x.C.length≤25
theorem zlh.small{f:zb}(hk:zlh f):zzF f where
 pars:=⟨by have:=hk.npar;omega,(zyy hk).2⟩
 ret:=zqZ hk.ret
 traps:=⟨by have:=hk.ntraps;omega,fun y hy=>by
  rcases hk.traps y hy with e |e
  ·rw [e];exact Nat.zero_le _
  ·have:=znv e;omega⟩
 code:=⟨by have:=hk.code.2;omega,fun x hx=>by have:=zCn (hk.ins x hx);omega⟩
theorem zwn(h:zcC l L)(hm:zbc L m)(hL:zlT L){f:zb}(hf:zzF f):zh3 f L m L m=some (zpI L f):=by
 unfold zh3 zpI
 rw [zzT h hm hL hf.traps.1 hf.traps.2,zBT h hm hL hf.code.1 hf.code.2,zpq h hm hf.ret,zBV h hm hL hf.pars.1 hf.pars.2]
 simp only [Option.bind_some]
 cases zmT L f.Ret <;> rfl
theorem zBU(h:zcC l L)(hm:zbc L m)(hL:zlT L){T:List zb}(hl:T.length≤10000)(hT:∀x∈T,zzF x):zX T L m L m=some (T.any fun x=>zpI L x):=by
 unfold zX zbu
 rw [show ((zm (fun z=>zam T L m L m z) 0).bind fun o=>zI o (fun b=>zcx) some)=_ from zay (l:=T) (p:=fun x:zb=>zpI L x) (by omega) (fun i x hx=>by
   unfold zam 
   rw [zfk hx,zs,hx]
   simp only [Option.bind_some,cond_true]
   rw [zwn h hm hL (hT x (List.mem_of_getElem? hx))]
   rfl) (by unfold zam;rw [zfJ];rfl)]
 rw [Option.bind_some,zdT]
def zp5(L:List za)(c:za):Bool:=!(c.Fields.any fun x=>zmT L x.Type_)&&!(c.Methods.any fun x=>zpI L x)
theorem zAY(h:zcC l L)(hm:zbc L m)(hL:zlT L){c:za}(h1:c.Fields.length≤10000∧∀f∈c.Fields,f.Type_.length≤25)(h2:c.Methods.length≤10000∧∀f∈c.Methods,zzF f):zia L m c=some (zp5 L c):=by
 unfold zia zp5
 rw [zxp h hm hL h1.1 h1.2,zBU h hm hL h2.1 h2.2]
 rfl
def zkR(a b:zb):Bool:=(a.Params == b.Params)&&(a.Ret == b.Ret)
theorem zra{a b:zb}(h:a.Params.length≤10000):zhP a b=some (zkR a b):=by
 unfold zhP zkR
 rw [zpW (by omega)]
 rfl
def zqu(f y:zb):Bool:=((y.Name == f.Name)&&!(f.Name == [36,105,110,105,116]))&&((!zkR f y||f.Static)||y.Static)
theorem zAt{f y:zb}(h:f.Params.length≤10000):zf3 y f.Name f.Params f.Ret f.Static f.Abstract f.Locals f.Stack f.Code f.Maps f.Traps=some (zqu f y):=by
 unfold zf3 zqu
 rw [zra (a:=zb.mk f.Name f.Params f.Ret f.Static f.Abstract f.Locals f.Stack f.Code f.Maps f.Traps) h]
 cases ((y.Name == f.Name)&&!(f.Name == [36,105,110,105,116])) <;> rfl
theorem zAu{f:zb}(h:f.Params.length≤10000){T:List zb}(hl:T.length≤10000):zY T f.Name f.Params f.Ret f.Static f.Abstract f.Locals f.Stack f.Code f.Maps f.Traps=some (T.any fun y=>zqu f y):=by
 unfold zY zbv
 rw [show ((zm (fun z=>zan T f.Name f.Params f.Ret f.Static f.Abstract f.Locals f.Stack f.Code f.Maps f.Traps z) 0).bind fun o=>zI o (fun b=>zcy) some)=_ from zay (l:=T) (p:=fun y:zb=>zqu f y) (by omega) (fun i x hx=>by
   unfold zan
   rw [zfk hx,zs,hx]
   simp only [Option.bind_some,cond_true]
   rw [zAt h]
   rfl) (by unfold zan;rw [zfJ];rfl)]
 rw [Option.bind_some,zdT]
def zjI(L:List za)(s:Tx):List zb:=match cl L s with |some x=>x.Methods |none=>[]
def zud(L:List za)(c:za):Bool:=!(c.Methods.any fun f=>((zdW L c.Name).drop 1).any fun s=>(zjI L s).any fun y=>zqu f y)
theorem zCN(h:zcC l L){n:Tx}(hn:zdL L n=true):1≤(zdW L n).length:=by
 obtain ⟨x,hx⟩:=zf4 hn
 unfold zdW
 cases hd:L.length with
 |zero =>
  have:L=[]:=List.eq_nil_of_length_eq_zero hd
  rw [this] at hn;cases hn
 |succ d =>
  unfold sup
  rw [hx]
  simp
theorem zs8(h:zcC l L)(hm:zbc L m)(hs:∀s,(zjI L s).length≤10000){c:za}(hc:zdL L c.Name=true)(h2:c.Methods.length≤10000∧∀f∈c.Methods,zzF f):zfG L m c=some (zud L c):=by
 have h26:=ze9 h c.Name
 have h1:=zCN h hc
 unfold zfG
 rw [show zm (fun z=>zc2 L m c z) 0=some (zoz () (c.Methods.findSome? (fun f=>cond (((zdW L c.Name).drop 1).any fun s=>(zjI L s).any fun y=>zqu f y) (some false) none))) from zdN (fun i f hf=>by
  have hi:=(List.getElem?_eq_some_iff.1 hf).1
  have hF:=h2.2 f (List.mem_of_getElem? hf)
  show zc2 L m c (i:Int)=_
  unfold zc2
  rw [zfk hf,zs,hf]
  simp only [cond_true,Option.bind_some]
  rw [zim h hm]
  simp only [Option.bind_some]
  rw [show (1:Int)=((1:Nat):Int) from rfl,zhk h1]
  simp only [Option.bind_some]
  have hin:zm (fun z=>zc1 L m f ((zdW L c.Name).drop 1) z) 0=some (zoz () (((zdW L c.Name).drop 1).findSome? (fun s=>cond ((zjI L s).any fun y=>zqu f y) (some false) none))):=zdN (fun j s hj=>by
   have hjl:=(List.getElem?_eq_some_iff.1 hj).1
   simp only [List.length_drop] at hjl
   show zc1 L m f ((zdW L c.Name).drop 1) (j:Int)=_
   unfold zc1
   rw [zfk hj,zs,hj]
   simp only [cond_true,Option.bind_some]
   obtain ⟨v,e1,e2⟩:∃v,zz L m s=some v∧v.1.Methods=zjI L s:=⟨_,zem hm s,by unfold zjI;cases cl L s <;> rfl⟩
   rw [e1]
   simp only [Option.bind_some]
   rw [e2,zAu hF.pars.1 (hs s),zQ (by omega)]
   simp only [Option.bind_some]
   cases (zjI L s).any fun y=>zqu f y <;> rfl) (by
   show zc1 L m f ((zdW L c.Name).drop 1) (((zdW L c.Name).drop 1).length:Int)=_
   unfold zc1
   rw [zfJ];rfl)
  rw [hin,zck]
  unfold ziZ
  rw [zQ (by omega)]
  cases ((zdW L c.Name).drop 1).any fun s=>(zjI L s).any fun y=>zqu f y <;> rfl) (by
  show zc2 L m c (c.Methods.length:Int)=_
  unfold zc2
  rw [zfJ];rfl),zck]
 unfold zud
 cases c.Methods.any fun f=>((zdW L c.Name).drop 1).any fun s=>(zjI L s).any fun y=>zqu f y <;> rfl
end
def zD2(i:Bool):List zl:=cond i [(zl.mk 1 0 [] []),(zl.mk 47 0 [] [])] [(zl.mk 46 0 [] [])]
def zEY(i:Bool):Tx:=cond i [73] [86]
def zEa(ps:List Tx)(i st:Bool):zb:=zb.mk [102] ps (zEY i) st false ((ps.length:Int)+1) 1 (zD2 i) [] []
def m0:zb:=zEa [] false false
section
variable {l L : List za} {m : List (Tx × Int)}
theorem zpK(hL:L.length≤30):zcE L m=some (L.map (·.Name)):=by
 unfold zcE
 have key:∀(r pre:List za),L=pre++r→zm (fun z=>zbK L z.1 z.2) (pre.map (·.Name),(pre.length:Int))=some (.inl (L.map (·.Name))):=by
  intro r
  induction r with
  |nil =>
   intro pre e
   rw [List.append_nil] at e
   rw [zE]
   show (zbK L (pre.map (·.Name)) (pre.length:Int)).bind _=_
   unfold zbK
   rw [←e,zfJ];rfl
  |cons c r ih =>
   intro pre e
   have hlen:L.length=pre.length+(r.length+1):=by rw [e];simp
   have hx:L[pre.length]?=some c:=by rw [e];simp
   have ih:=ih (pre++[c]) (by rw [e];simp)
   rw [show (pre++[c]).length=pre.length+1 by simp] at ih
   rw [zE]
   show (zbK L (pre.map (·.Name)) (pre.length:Int)).bind _=_
   unfold zbK
   rw [zfk hx,zs,hx]
   simp only [cond_true,Option.bind_some]
   rw [zEN (by simp;omega) (by omega),zQ (by omega)]
   rw [List.map_append] at ih
   exact ih
 rw [show zm (fun z=>zbK L z.1 z.2) ([],0)=_ from key L [] rfl]
 rfl
def zis(L:List za)(n:Tx):za:=(cl L n).getD zC
structure zEK(L:List za)(c:za):Prop where
 fields:c.Fields.length≤10000∧∀f∈c.Fields,f.Type_.length≤25
 methods:c.Methods.length≤10000∧∀f∈c.Methods,zzF f
end
section
variable {l : List za} {m : List (Tx × Int)} {ps qs : List Tx} {i j s t : Bool}
end
section
variable {l L : List za} {m : List (Tx × Int)}
theorem zv4{f:zb}(h:zgK f=true)(ha:f.Abstract=true)(h1:f.Code.length≤10000)(h2:f.Maps.length≤10000)(h3:f.Traps.length≤10000):f.Code=[]∧f.Traps=[]:=by
 unfold zgK at h
 rw [ha] at h
 simp only [Bool.and_eq_true,cond_true] at h
 obtain ⟨_,h5⟩:=h
 unfold zhF at h5
 simp only [Bool.and_eq_true] at h5
 have h6:=h5.2
 rw [zmj (n:=(f.Code.length:Int)+(f.Maps.length:Int)) (by omega) (by omega),zmj (by omega) (by omega)] at h6
 have h7:(f.Code.length:Int)+(f.Maps.length:Int)+(f.Traps.length:Int)=0:=by simpa using h6
 exact ⟨List.eq_nil_of_length_eq_zero (by omega),List.eq_nil_of_length_eq_zero (by omega)⟩
structure zCT(f:zb):Prop where
 pars:f.Params.length≤6∧∀s∈f.Params,zfU s=true
 ret:zuk f.Ret=true
 traps:f.Traps.length≤6∧∀y∈f.Traps,y.C=[]∨zcQ y.C=true
 code:f.Code.length≤100∧∀x∈f.Code,zmz x=true
theorem zEc{f:zb}(h:zgK f=true)(hF:zBz f):zCT f:=by
 obtain ⟨p1,p2,p3⟩:=zrL h
 cases ha:f.Abstract with
 |true =>
  obtain ⟨e1,e2⟩:=zv4 h ha hF.code.len hF.maps.len hF.traps.len
  exact ⟨⟨p2,p1⟩,p3,by rw [e2];exact ⟨Nat.zero_le _,fun y hy=>by cases hy⟩,by rw [e1];exact ⟨Nat.zero_le _,fun y hy=>by cases hy⟩⟩
 |false =>
  have hk:=zDm h ha
  exact ⟨⟨p2,p1⟩,p3,⟨hk.ntraps,hk.traps⟩,hk.code.2,hk.ins⟩
theorem zCT.small{f:zb}(h:zCT f):zzF f where
 pars:=⟨by have:=h.pars.1;omega,fun s hs=>zlD (h.pars.2 s hs)⟩
 ret:=zqZ h.ret
 traps:=⟨by have:=h.traps.1;omega,fun y hy=>by
  rcases h.traps.2 y hy with e |e
  ·rw [e];exact Nat.zero_le _
  ·have:=znv e;omega⟩
 code:=⟨by have:=h.code.1;omega,fun x hx=>by have:=zCn (h.code.2 x hx);omega⟩
structure zwU(L:List za)(c:za):Prop where
 fields:c.Fields.length≤10000∧∀f∈c.Fields,zfU f.Type_=true
 methods:c.Methods.length≤10000∧∀f∈c.Methods,zCT f
 names:∀(i j:Nat) (f g:zb),c.Methods[i]?=some f→c.Methods[j]?=some g→f.Name=g.Name→i=j
theorem zse{α:Type}{ok:α→Bool}{nm:α→List UInt8}:∀{r pre:List α},uB ok nm pre r=false→∀(i j:Nat) (x y:α),i<j→(pre++r)[i]?=some x→(pre++r)[j]?=some y→pre.length≤j→nm x≠nm y
 | [],pre,h,i,j,x,y,hij,hx,hy,hj=>by
  rw [List.append_nil] at hy
  have:=(List.getElem?_eq_some_iff.1 hy).1
  omega
 |z ::r,pre,h,i,j,x,y,hij,hx,hy,hj=>by
  unfold uB at h
  simp only [Bool.or_eq_false_iff] at h
  obtain ⟨⟨_,h2⟩,h3⟩:=h
  by_cases e:j=pre.length
  ·subst e
   have hz:y=z:=by simpa using hy.symm
   subst hz
   rw [List.getElem?_append_left hij] at hx
   rw [List.any_eq_false] at h2
   intro e
   exact h2 x (List.mem_of_getElem? hx) (by rw [e];simp)
  ·refine zse (r:=r) (pre:=pre++[z]) h3 i j x y hij (by simpa using hx) (by simpa using hy) (by simp;omega)
theorem zAU{α:Type}{ok:α→Bool}{nm:α→List UInt8}{r:List α}(h:uB ok nm [] r=false)(i j:Nat)(x y:α)(hx:r[i]?=some x)(hy:r[j]?=some y)(e:nm x=nm y):i=j:=by
 rcases Nat.lt_trichotomy i j with k |k |k
 ·exact absurd e (zse h i j x y k (by simpa using hx) (by simpa using hy) (Nat.zero_le _))
 ·exact k
 ·exact absurd e.symm (zse h j i y x k (by simpa using hy) (by simpa using hx) (Nat.zero_le _))
theorem zxI{f:zi}(h:zny f=true):zfU f.Type_=true:=by
 unfold zny at h
 simp only [Bool.and_eq_true] at h
 exact h.2
theorem zDc(h:zcC l L)(hF:∀c∈L,zhz c){c:za}(hc:c∈L):zwU L c:=by
 have hf:=hF c hc
 have hfl:=hf.fields.len
 have hml:=hf.methods.len
 have hmd:∀f∈c.Methods,zCT f:=fun f hm=>zEc (zvc h hc hm) (hf.methods.all f hm)
 rw [h.app] at hc
 rcases List.mem_append.1 hc with e |e
 ·have hg:giv.all (fun c=>decide (c.Methods.length=0)&&decide (c.Fields.length=0))=true:=by decide +kernel
  have:=List.all_eq_true.1 hg c e
  simp only [Bool.and_eq_true,decide_eq_true_eq] at this
  have e1:=List.eq_nil_of_length_eq_zero this.1
  have e2:=List.eq_nil_of_length_eq_zero this.2
  exact ⟨⟨hfl,fun f hx=>by rw [e2] at hx;cases hx⟩,⟨hml,hmd⟩,fun i j f g hx=>by rw [e1] at hx;simp at hx⟩
 ·have hm:=h.may c e
  unfold zsX at hm
  simp only [Bool.and_eq_true,Bool.not_eq_true',decide_eq_true_eq] at hm
  obtain ⟨_,⟨⟨⟨_,_⟩,h5,_⟩,h6,_⟩⟩:=hm
  exact ⟨⟨hfl,fun f hx=>zxI (zq7 h5 f hx)⟩,⟨hml,hmd⟩,fun i j f g hx hy=>zAU h6 i j f g hx hy⟩
theorem zwU.small{c:za}(h:zwU L c):zEK L c:=⟨⟨h.fields.1,fun f hf=>zlD (h.fields.2 f hf)⟩,⟨h.methods.1,fun f hf=>(h.methods.2 f hf).small⟩⟩
end
section
variable {l L : List za} {m : List (Tx × Int)}
theorem ztE(a b:zb):zkR a b=zkR b a:=by
 unfold zkR
 rw [Bool.eq_iff_iff]
 simp only [Bool.and_eq_true,beq_iff_eq]
 exact ⟨fun h=>⟨h.1.symm,h.2.symm⟩,fun h=>⟨h.1.symm,h.2.symm⟩⟩
end
section
variable {l L : List za} {m : List (Tx × Int)}
def zn6(f y:zb):Bool:=(y.Name == f.Name)&&!zkR f y
def zDh(L:List za)(c:Tx)(f:zb):Bool:=(chN L c f.Name).2&&(zjI L (chN L c f.Name).1).any fun y=>(y.Name == f.Name)&&zkR f y
theorem zsY(hD:∀c∈L,zwU L c)(s:Tx):(zjI L s).length≤10000∧∀f∈zjI L s,zCT f:=by
 unfold zjI
 cases hc:cl L s with
 |none=>exact ⟨Nat.zero_le _,fun f hf=>by cases hf⟩
 |some x=>exact (hD x (zbR hc).1).methods
def zzw(L:List za)(n:Tx):List zb:=(zeJ L n).flatMap (zjI L)
def zpm(L:List za)(c:za):Bool:=!((zzw L c.Name).any fun f=>(zzw L c.Name).any fun y=>zn6 f y)&&(c.Interface||!((zzw L c.Name).any fun f=>!zDh L c.Name f))
end
section
variable {l L : List za} {m : List (Tx × Int)}
theorem zxH{f y:zb}(h:f.Params.length≤10000):zh2 y f.Name f.Params f.Ret f.Static f.Abstract f.Locals f.Stack f.Code f.Maps f.Traps=some (zn6 f y):=by
 unfold zh2 zn6
 rw [zra (a:=zb.mk f.Name f.Params f.Ret f.Static f.Abstract f.Locals f.Stack f.Code f.Maps f.Traps) h]
 cases y.Name == f.Name <;> rfl
theorem zBP{f:zb}(h:f.Params.length≤10000){T:List zb}(hl:T.length≤10000000):zZ T f.Name f.Params f.Ret f.Static f.Abstract f.Locals f.Stack f.Code f.Maps f.Traps=some (T.any fun y=>zn6 f y):=by
 unfold zZ zbw
 rw [show ((zm (fun z=>zao T f.Name f.Params f.Ret f.Static f.Abstract f.Locals f.Stack f.Code f.Maps f.Traps z) 0).bind fun o=>zI o (fun b=>zcz) some)=_ from zay (l:=T) (p:=fun y:zb=>zn6 f y) (by omega) (fun i x hx=>by
   unfold zao
   rw [zfk hx,zs,hx]
   simp only [Option.bind_some,cond_true]
   rw [zxH h]
   rfl) (by unfold zao;rw [zfJ];rfl)]
 rw [Option.bind_some,zdT]
theorem zCi{f y:zb}(h:f.Params.length≤10000):zjq y f.Name f.Params f.Ret f.Static f.Abstract f.Locals f.Stack f.Code f.Maps f.Traps=some ((y.Name == f.Name)&&zkR f y):=by
 unfold zjq
 rw [zra (a:=zb.mk f.Name f.Params f.Ret f.Static f.Abstract f.Locals f.Stack f.Code f.Maps f.Traps) h]
 cases y.Name == f.Name <;> rfl
theorem zCk{f:zb}(h:f.Params.length≤10000){T:List zb}(hl:T.length≤10000):z6 T f.Name f.Params f.Ret f.Static f.Abstract f.Locals f.Stack f.Code f.Maps f.Traps=some (T.any fun y=>(y.Name == f.Name)&&zkR f y):=by
 unfold z6 zby
 rw [show ((zm (fun z=>zaq T f.Name f.Params f.Ret f.Static f.Abstract f.Locals f.Stack f.Code f.Maps f.Traps z) 0).bind fun o=>zI o (fun b=>zcB) some)=_ from zay (l:=T) (p:=fun y:zb=>(y.Name == f.Name)&&zkR f y) (by omega) (fun i x hx=>by
   unfold zaq
   rw [zfk hx,zs,hx]
   simp only [Option.bind_some,cond_true]
   rw [zCi h]
   rfl) (by unfold zaq;rw [zfJ];rfl)]
 rw [Option.bind_some,zdT]
theorem zD7(h:zcC l L)(hm:zbc L m)(hL:zlT L)(hD:∀c∈L,zwU L c){c:Tx}{f:zb}(hp:f.Params.length≤10000):zlY L m c f=some (zDh L c f):=by
 unfold zlY zDh
 rw [zzU h hm hL]
 simp only [Option.bind_some]
 cases (chN L c f.Name).2 with
 |false=>rfl
 |true =>
  simp only [Bool.not_true,cond_false,Bool.true_and]
  obtain ⟨v,e1,e2⟩:∃v,zz L m (chN L c f.Name).1=some v∧v.1.Methods=zjI L (chN L c f.Name).1:=⟨_,zem hm _,by unfold zjI;cases cl L (chN L c f.Name).1 <;> rfl⟩
  rw [e1]
  simp only [Option.bind_some]
  rw [e2,zCk hp (zsY hD _).1]
  rfl
theorem zCA(h:zcC l L)(hm:zbc L m)(hL:zlT L)(hD:∀c∈L,zwU L c){c:za}{T:List zb}(hl:T.length≤10000000)(hT:∀f∈T,f.Params.length≤10000):
  z2 T L m c.Name c.Super c.Interface c.Impl c.Fields c.Methods=some (T.any fun f=>!zDh L c.Name f):=by
 unfold z2 zbx
 rw [show ((zm (fun z=>zap T L m c.Name c.Super c.Interface c.Impl c.Fields c.Methods z) 0).bind fun o=>zI o (fun b=>zcA) some)=_ from zay (l:=T) (p:=fun f:zb=>!zDh L c.Name f) (by omega) (fun i x hx=>by
   unfold zap zjD
   rw [zfk hx,zs,hx]
   simp only [Option.bind_some,cond_true]
   rw [zD7 h hm hL hD (hT x (List.mem_of_getElem? hx))]
   rfl) (by unfold zap;rw [zfJ];rfl)]
 rw [Option.bind_some,zdT]
def zo8:List zb→List zb→Option (List zb)
 |acc,[]=>some acc
 |acc,f ::r=>cond (acc.any fun y=>zn6 f y) none (zo8 (acc++[f]) r)
theorem zux:∀(A acc B:List zb),zo8 acc (A++B)=(zo8 acc A).bind fun a=>zo8 a B
 | [],acc,B=>rfl
 |f ::r,acc,B=>by
  show cond (acc.any fun y=>zn6 f y) none (zo8 (acc++[f]) (r++B))=(cond (acc.any fun y=>zn6 f y) none (zo8 (acc++[f]) r)).bind fun a=>zo8 a B
  rw [zux r (acc++[f]) B]
  cases (acc.any fun y=>zn6 f y) <;> rfl
theorem zw3:∀(A acc a:List zb),zo8 acc A=some a→a=acc++A
 | [],acc,a,h=>by
  have:a=acc:=by simpa [zo8] using h.symm
  rw [this];simp
 |f ::r,acc,a,h=>by
  have h:cond (acc.any fun y=>zn6 f y) none (zo8 (acc++[f]) r)=some a:=h
  cases hb:(acc.any fun y=>zn6 f y) with
  |true=>rw [hb] at h;cases h
  |false =>
   rw [hb] at h
   rw [zw3 r (acc++[f]) a h];simp
theorem zzO{f y:zb}(h:zn6 f y=true):zn6 y f=true:=by
 unfold zn6 at h ⊢
 simp only [Bool.and_eq_true,beq_iff_eq] at h ⊢
 exact ⟨h.1.symm,by rw [ztE];exact h.2⟩
theorem zzP(f:zb):zn6 f f=false:=by
 unfold zn6 zkR
 simp
theorem zsl:∀(A acc:List zb),(∃f∈A,∃y∈acc++A,zn6 f y=true)→zo8 acc A=none
 | [],acc,⟨f,hf,_⟩=>by cases hf
 |f ::r,acc,⟨g,hg,y,hy,hb⟩=>by
  show cond (acc.any fun y=>zn6 f y) none (zo8 (acc++[f]) r)=none
  cases ha:(acc.any fun y=>zn6 f y) with
  |true=>rfl
  |false =>
   rw [List.any_eq_false] at ha
   show zo8 (acc++[f]) r=none
   refine zsl r (acc++[f]) ?_
   have hy2:y∈(acc++[f])++r:=by simpa using hy
   rcases List.mem_cons.1 hg with e |e
   ·subst e
    rcases List.mem_append.1 hy with k |k
    ·exact absurd hb (ha y k)
    ·rcases List.mem_cons.1 k with e |e
     ·subst e;rw [zzP] at hb;cases hb
     ·exact ⟨y,e,g,by simp,zzO hb⟩
   ·exact ⟨g,e,y,hy2,hb⟩
theorem zsm:∀(A acc:List zb),(∀f∈A,∀y∈acc++A,zn6 f y=false)→zo8 acc A=some (acc++A)
 | [],acc,_=>by simp [zo8]
 |f ::r,acc,h=>by
  show cond (acc.any fun y=>zn6 f y) none (zo8 (acc++[f]) r)=_
  have ha:(acc.any fun y=>zn6 f y)=false:=by
   rw [List.any_eq_false]
   intro y hy
   rw [h f (by simp) y (by simp [hy])];simp
  rw [ha]
  show zo8 (acc++[f]) r=_
  rw [zsm r (acc++[f]) fun g hg y hy=>h g (by simp [hg]) y (by simpa using hy)]
  simp
theorem zzI(A:List zb):zo8 [] A=cond (A.any fun f=>A.any fun y=>zn6 f y) none (some A):=by
 cases h:(A.any fun f=>A.any fun y=>zn6 f y) with
 |true =>
  rw [List.any_eq_true] at h
  obtain ⟨f,hf,h⟩:=h
  rw [List.any_eq_true] at h
  obtain ⟨y,hy,h⟩:=h
  exact zsl A [] ⟨f,hf,y,by simpa using hy,h⟩
 |false =>
  rw [List.any_eq_false] at h
  have:=zsm A [] fun f hf y hy=>by
   have h1:=h f hf
   simp only [Bool.not_eq_true,List.any_eq_false] at h1
   simpa using h1 y (by simpa using hy)
  simpa using this
theorem zuZ(x:za)(b:Bool)(hp:∀f∈x.Methods,f.Params.length≤10000)(hn:x.Methods.length≤10000):∀(r pre acc:List zb),x.Methods=pre++r→acc.length+r.length≤1000000 →
  zm (fun z=>zfg (x,b) z.1 z.2) (acc,(pre.length:Int))=some (match zo8 acc r with |some a=>.inl a |none=>.inr false)
 | [],pre,acc,e,hl=>by
  rw [List.append_nil] at e
  rw [zE]
  show (zfg (x,b) acc (pre.length:Int)).bind _=_
  unfold zfg
  simp only
  rw [←e,zfJ]
  rfl
 |f ::r,pre,acc,e,hl=>by
  have hx:x.Methods[pre.length]?=some f:=by rw [e];simp
  have hlen:x.Methods.length=pre.length+(r.length+1):=by rw [e];simp
  simp only [List.length_cons] at hl
  rw [zE]
  show (zfg (x,b) acc (pre.length:Int)).bind _=_
  unfold zfg
  simp only
  rw [zfk hx,zs,hx]
  simp only [cond_true,Option.bind_some]
  rw [zBP (hp f (List.mem_of_getElem? hx)) (by omega)]
  simp only [Option.bind_some]
  show _=some (match cond (acc.any fun y=>zn6 f y) none (zo8 (acc++[f]) r) with |some a=>Sum.inl a |none=>Sum.inr false)
  cases (acc.any fun y=>zn6 f y) with
  |true=>rfl
  |false =>
   simp only [cond_false]
   rw [zbF (by simp;omega) (by simp;omega)]
   simp only [Option.bind_some]
   rw [zQ (by omega)]
   have ih:=zuZ x b hp hn r (pre++[f]) (acc++[f]) (by rw [e];simp) (by simp;omega)
   rw [show (pre++[f]).length=pre.length+1 by simp] at ih
   exact ih
theorem zu0(h:zcC l L)(hm:zbc L m)(hD:∀c∈L,zwU L c){T:List Tx}(hT:T.length≤52):∀(r pre:List Tx) (acc:List zb),T=pre++r→acc.length≤10000*pre.length →
  zm (fun z=>zfh L m T z.1 z.2) (acc,(pre.length:Int))=some (match zo8 acc (r.flatMap (zjI L)) with |some a=>.inl a |none=>.inr false)
 | [],pre,acc,e,hl=>by
  rw [List.append_nil] at e
  rw [zE]
  show (zfh L m T acc (pre.length:Int)).bind _=_
  unfold zfh
  rw [←e,zfJ]
  rfl
 |s ::r,pre,acc,e,hl=>by
  have hx:T[pre.length]?=some s:=by rw [e];simp
  have hlen:T.length=pre.length+(r.length+1):=by rw [e];simp
  have hd:=zsY hD s
  obtain ⟨x,b,e1,e2⟩:∃x b,zz L m s=some (x,b)∧x.Methods=zjI L s:=by
   rw [zem hm]
   unfold zjI
   cases cl L s with
   |none=>exact ⟨_,_,rfl,rfl⟩
   |some x=>exact ⟨_,_,rfl,rfl⟩
  rw [zE]
  show (zfh L m T acc (pre.length:Int)).bind _=_
  unfold zfh
  rw [zfk hx,zs,hx]
  simp only [cond_true,Option.bind_some]
  rw [e1]
  simp only [Option.bind_some]
  have hin:=zuZ x b (fun f hf=>by rw [e2] at hf;have:=(hd.2 f hf).pars.1;omega) (by rw [e2];exact hd.1) x.Methods [] acc rfl (by rw [e2];have:=hd.1;omega)
  rw [show (([]:List zb).length:Int)=0 from rfl] at hin
  rw [hin,e2]
  rw [List.flatMap_cons,zux]
  cases ha:zo8 acc (zjI L s) with
  |none=>rfl
  |some a =>
   simp only [Option.bind_some,zI,Sum.elim]
   unfold zll
   rw [zQ (by omega)]
   have hal:a.length≤10000*(pre++[s]).length:=by
    rw [zw3 _ _ _ ha]
    simp only [List.length_append,List.length_cons,List.length_nil]
    have:=hd.1
    omega
   have ih:=zu0 h hm hD hT r (pre++[s]) a (by rw [e];simp) hal
   rw [show (pre++[s]).length=pre.length+1 by simp] at ih
   exact ih
theorem zB7(h:zcC l L)(hm:zbc L m)(hL:zlT L)(hD:∀c∈L,zwU L c){c:za}:zh9 L m c=some (zpm L c):=by
 have h52:=zlq h c.Name
 unfold zh9
 rw [zpl h hm]
 simp only [Option.bind_some]
 have ho:=zu0 h hm hD h52 (zeJ L c.Name) [] [] rfl (by simp)
 rw [show (([]:List Tx).length:Int)=0 from rfl] at ho
 rw [ho]
 show (some (match zo8 [] (zzw L c.Name) with |some a=>Sum.inl a |none=>Sum.inr false):Option (Sum (List zb) Bool)).bind _=_
 rw [zzI]
 unfold zpm
 cases hb:((zzw L c.Name).any fun f=>(zzw L c.Name).any fun y=>zn6 f y) with
 |true=>rfl
 |false =>
  simp only [cond_false,Option.bind_some,zI,Bool.not_false,Bool.true_and]
  unfold zlm
  have hlen:(zzw L c.Name).length≤10000*52:=by
   unfold zzw
   have:∀T:List Tx,(T.flatMap (zjI L)).length≤10000*T.length:=fun T=>by
    induction T with
    |nil=>simp
    |cons s T ih =>
     rw [List.flatMap_cons,List.length_append,List.length_cons]
     have:=(zsY hD s).1
     omega
   have:=this (zeJ L c.Name)
   omega
  rw [zCA h hm hL hD (c:=c) (T:=zzw L c.Name) (by omega) (fun f hf=>by
   unfold zzw at hf
   obtain ⟨s,hs,hf⟩:=List.mem_flatMap.1 hf
   have:=((zsY hD s).2 f hf).pars.1
   omega)]
  cases c.Interface <;> rfl
end
section
variable {l L : List za} {m : List (Tx × Int)}
def zx3(L:List za):Int:=cond (L.any fun c=>!zp5 L c) 4 (cond (L.any fun c=>!(zud L c&&zpm L c)) 1 0)
theorem zqB(h:zcC l L)(p:za→Bool):((L.map (·.Name)).any fun n=>p (zis L n))=L.any p:=by
 have hnd:Nd L:=h.nd
 rw [List.any_map,Bool.eq_iff_iff,List.any_eq_true,List.any_eq_true]
 constructor
 ·rintro ⟨c,hc,k⟩
  refine ⟨c,hc,?_⟩
  have:zis L c.Name=c:=by unfold zis;rw [hnd.cl hc];rfl
  simpa [Function.comp,this] using k
 ·rintro ⟨c,hc,k⟩
  refine ⟨c,hc,?_⟩
  have:zis L c.Name=c:=by unfold zis;rw [hnd.cl hc];rfl
  simpa [Function.comp,this] using k
theorem zrO(h:zcC l L){i:Nat}{n:Tx}(hn:(L.map (·.Name))[i]?=some n):∃c,c∈L∧cl L n=some c∧c.Name=n∧zis L n=c:=by
 have hnd:Nd L:=h.nd
 rw [List.getElem?_map] at hn
 cases hc:L[i]? with
 |none=>rw [hc] at hn;cases hn
 |some c =>
  rw [hc] at hn
  have e:c.Name=n:=by simpa using hn
  have hcm:=List.mem_of_getElem? hc
  have h2:cl L n=some c:=by rw [←e];exact hnd.cl hcm
  exact ⟨c,hcm,h2,e,by unfold zis;rw [h2];rfl⟩
theorem zAc(h:zcC l L)(hm:zbc L m)(hL:zlT L)(hD:∀c∈L,zwU L c):zfB (some (zr.mk L m))=some (zx3 L):=by
 have h26:=h.len
 unfold zfB
 simp only [zwx]
 rw [zpK (by omega)]
 simp only [Option.bind_some]
 rw [show zm (fun z=>zeA (zr.mk L m) (L.map (·.Name)) z) 0=some (zoz () ((L.map (·.Name)).findSome? (fun n=>cond (!zp5 L (zis L n)) (some 4) none))) from zdN (fun i n hn=>by
  have hi:=(List.getElem?_eq_some_iff.1 hn).1
  rw [List.length_map] at hi
  obtain ⟨c,c1,c2,c3,c4⟩:=zrO h hn
  have hs:=(hD c c1).small
  show zeA (zr.mk L m) (L.map (·.Name)) (i:Int)=_
  unfold zeA
  rw [zfk hn,zs,hn]
  simp only [cond_true,Option.bind_some]
  rw [zem hm,c2]
  simp only [Option.bind_some]
  rw [zAY h hm hL hs.fields hs.methods,zQ (by omega),c4]
  cases zp5 L c <;> rfl) (by
  show zeA (zr.mk L m) (L.map (·.Name)) ((L.map (·.Name)).length:Int)=_
  unfold zeA
  rw [zfJ];rfl),zck,zqB h (fun c=>!zp5 L c)]
 unfold zx3
 cases (L.any fun c=>!zp5 L c) with
 |true=>rfl
 |false =>
  simp only [cond_false,zoz,Option.bind_some,zI]
  unfold zkU
  simp only
  rw [zpK (by omega)]
  simp only [Option.bind_some]
  rw [show zm (fun z=>zeB (zr.mk L m) (L.map (·.Name)) z) 0=some (zoz () ((L.map (·.Name)).findSome? (fun n=>cond (!(zud L (zis L n)&&zpm L (zis L n))) (some 1) none))) from zdN (fun i n hn=>by
   have hi:=(List.getElem?_eq_some_iff.1 hn).1
   rw [List.length_map] at hi
   obtain ⟨c,c1,c2,c3,c4⟩:=zrO h hn
   have hs:=(hD c c1).small
   show zeB (zr.mk L m) (L.map (·.Name)) (i:Int)=_
   unfold zeB
   rw [zfk hn,zs,hn]
   simp only [cond_true,Option.bind_some]
   rw [zem hm,c2]
   simp only [Option.bind_some]
   rw [zs8 h hm (fun s=>(zsY hD s).1) (by rw [c3];exact zgP c2) hs.methods,zB7 h hm hL hD,zQ (by omega),c4]
   cases zud L c <;> cases zpm L c <;> rfl) (by
   show zeB (zr.mk L m) (L.map (·.Name)) ((L.map (·.Name)).length:Int)=_
   unfold zeB
   rw [zfJ];rfl),zck,zqB h (fun c=>!(zud L c&&zpm L c))]
  cases (L.any fun c=>!(zud L c&&zpm L c)) <;> rfl
def vN(L:List za)(n:Tx)(k:Int):Bool:=(zix (some (zbl.mk L)) n k).getD false
theorem zDH(h:zcC l L)(hm:zbc L m)(hL:zlT L)(n:Tx)(k:Int):zbT (some (zr.mk L m)) n k=some (vN L n k)∧zng L n k=some (vN L n k):=by
 obtain ⟨v,v1,v2⟩:=zzo h hm hL n k
 have e:vN L n k=v:=by unfold vN;rw [v2];rfl
 rw [e]
 exact ⟨v1,v2⟩
def zEy(L:List za)(c:za)(k:Nat):Bool:=match c.Methods[k]? with |some f=>!f.Abstract&&!vN L c.Name (k:Int) |none=>false
def zC7(L:List za)(c:za):Bool:=(List.range c.Methods.length).any (zEy L c)
theorem zDa(h:zcC l L)(hm:zbc L m)(hL:zlT L){e:Int}{c:za}(hc:c.Methods.length≤10000):zm (fun z=>zfd (some (zr.mk L m),e) c z) 0=some (zoz () (cond (zC7 L c) (some (none,5)) none)):=by
 unfold zC7
 rw [←zck]
 exact zqP (fun k hk=>by
  have hf:c.Methods[k]?=some c.Methods[k]:=List.getElem?_eq_getElem hk
  show zfd (some (zr.mk L m),e) c (k:Int)=_
  unfold zfd zEy
  rw [zfk hf,zs,hf]
  simp only [cond_true,Option.bind_some]
  rw [(zDH h hm hL c.Name (k:Int)).1,zQ (by omega)]
  cases (c.Methods[k]).Abstract <;> cases vN L c.Name (k:Int) <;> rfl) (by
  show zfd (some (zr.mk L m),e) c (c.Methods.length:Int)=_
  unfold zfd
  rw [zfJ];rfl)
theorem zBX(h:zcC l L)(hm:zbc L m)(hL:zlT L)(hn:∀c∈l,c.Methods.length≤10000){e:Int}:zm (fun z=>zfe l (some (zr.mk L m),e) z) 0=some (zoz () (cond (l.any (zC7 L)) (some (none,5)) none)):=by
 have h16:=h.few
 rw [←zck]
 exact zdN (fun i c hc=>by
  have hi:=(List.getElem?_eq_some_iff.1 hc).1
  show zfe l (some (zr.mk L m),e) (i:Int)=_
  unfold zfe
  rw [zfk hc,zs,hc]
  simp only [cond_true,Option.bind_some]
  rw [zDa h hm hL (hn c (List.mem_of_getElem? hc))]
  unfold zlk
  rw [zQ (by omega)]
  cases zC7 L c <;> rfl) (by
  show zfe l (some (zr.mk L m),e) (l.length:Int)=_
  unfold zfe
  rw [zfJ];rfl)
theorem zsO(e:zaM):zjX e=some (zaM.mk (e.C.take 12) (e.M.take 12)):=by
 unfold zjX
 rw [show (12:Int)=((12:Nat):Int) from rfl,zdJ,zdJ]
 rfl
end
theorem zhl{α β S U R:Type}{body:S→Option (Sum S (Sum U R))}(mk:β→Int→S)(fi:β→U){l:List α}{f:β→α→β}{I:β→Nat→Prop}
  (hb:∀(i:Nat) x b,I b i→l[i]?=some x→body (mk b (i:Int))=some (.inl (mk (f b x) ((i+1:Nat):Int)))∧I (f b x) (i+1))
  (he:∀b,I b l.length→body (mk b (l.length:Int))=some (.inr (.inl (fi b)))) {b0:β} (h0:I b0 0):
  zm body (mk b0 0)=some (.inl (fi (l.foldl f b0)))∧I (l.foldl f b0) l.length:=by
 have key:∀(r pre:List α) (b:β),l=pre++r→I b pre.length→zm body (mk b (pre.length:Int))=some (.inl (fi (r.foldl f b)))∧I (r.foldl f b) l.length:=by
  intro r
  induction r with
  |nil =>
   intro pre b e hI
   rw [List.append_nil] at e
   subst e
   rw [zE,he b hI]
   exact ⟨rfl,hI⟩
  |cons x r ih =>
   intro pre b e hI
   have hx:l[pre.length]?=some x:=by rw [e];simp
   obtain ⟨h1,h2⟩:=hb pre.length x b hI hx
   rw [zE,h1]
   have:=ih (pre++[x]) (f b x) (by rw [e];simp) (by rw [List.length_append];exact h2)
   rw [show (pre++[x]).length=pre.length+1 by simp] at this
   exact this
 exact key l [] b0 rfl h0
theorem zvs:∀(d:Nat) (a x b:List Tx),x.length≤d→(a++x++b).length≤1000000 →
  zm (fun z=>zag z.1 z.2.1 z.2.2) (a++x++b,((a.length:Nat):Int),(a.length:Int)+(x.length:Int)-1)=some (.inl (a++x.reverse++b))
 |d,a,x,b,hd,hl=>by
  rw [zE]
  show (zag (a++x++b) (a.length:Int) ((a.length:Int)+(x.length:Int)-1)).bind _=_
  unfold zag
  by_cases h2:x.length<2
  ·rw [decide_eq_false (by omega)]
   have e:x.reverse=x:=by
    match x,h2 with
    | [],_=>rfl
    | [y],_=>rfl
   rw [e];rfl
  ·rw [decide_eq_true (by omega)]
   obtain ⟨p,q,y,e⟩:∃p q y,x=p ::(y++[q]):=by
    match x,h2 with
    |p ::r,h2 =>
     have hr:r≠[]:=fun e=>by subst e;simp at h2
     exact ⟨p,r.getLast hr,r.dropLast,by rw [List.dropLast_concat_getLast hr]⟩
   subst e
   have hx:(p ::(y++[q])).length=y.length+2:=by simp
   have hJ:(a.length:Int)+((p ::(y++[q])).length:Int)-1=((a.length+y.length+1:Nat):Int):=by rw [hx];omega
   rw [hJ,zs,zs]
   have g1:(a++p ::(y++[q])++b)[a.length+y.length+1]?=some q:=by
    rw [show a++p ::(y++[q])++b=(a++p ::y)++(q ::b) by simp,List.getElem?_append_right (by simp;omega)]
    rw [show a.length+y.length+1-(a++p ::y).length=0 by simp;omega];rfl
   have g2:(a++p ::(y++[q])++b)[a.length]?=some p:=by
    rw [List.append_assoc,List.getElem?_append_right (Nat.le_refl _),Nat.sub_self];rfl
   have s1:(a++p ::(y++[q])++b).set a.length q=(a++q ::y)++(q ::b):=by
    rw [List.append_assoc,List.set_append_right _ _ (Nat.le_refl _),Nat.sub_self]
    simp
   have s2:((a++q ::y)++(q ::b)).set (a.length+y.length+1) p=(a++[q])++y++(p ::b):=by
    rw [List.set_append_right _ _ (by simp;omega),show a.length+y.length+1-(a++q ::y).length=0 by simp;omega]
    simp
   have g3:((a++q ::y)++(q ::b))[a.length+y.length+1]?=some q:=by
    rw [List.getElem?_append_right (by simp;omega),show a.length+y.length+1-(a++q ::y).length=0 by simp;omega];rfl
   rw [g1,g2]
   simp only [cond_true,Option.bind_some,Int.toNat_natCast]
   rw [s1,zs,g3]
   simp only [Option.bind_some]
   rw [s2]
   rw [List.length_append,List.length_append,hx] at hl
   cases d with
   |zero=>rw [hx] at hd;omega
   |succ d =>
    have ih:=zvs d (a++[q]) y (p ::b) (by rw [hx] at hd;omega) (by simp only [List.length_append,List.length_cons,List.length_nil];omega)
    rw [zQ (by omega),zmj (by omega) (by omega)]
    have e1:((a++[q]).length:Int)=((a.length+1:Nat):Int):=by simp
    have e2:((a++[q]).length:Int)+(y.length:Int)-1=((a.length+y.length+1:Nat):Int)-1:=by rw [e1];omega
    rw [e2,e1] at ih
    show zm (fun z=>zag z.1 z.2.1 z.2.2) ((a++[q])++y++(p ::b),((a.length+1:Nat):Int),((a.length+y.length+1:Nat):Int)-1)=_
    rw [ih]
    simp
theorem zwI{l:List Tx}(h:l.length≤1000000):zbE l=some l.reverse:=by
 unfold zbE
 rw [zmj (by omega) (by omega)]
 have:=zvs l.length [] l [] (Nat.le_refl _) (by simpa using h)
 simp only [List.nil_append,List.append_nil,List.length_nil] at this
 rw [show ((0:Nat):Int)+(l.length:Int)-1=(l.length:Int)-1 by omega] at this
 rw [show (0:Int)=((0:Nat):Int) from rfl,this]
 rfl
def nmF(n x:Tx):Tx:=n++[46]++x
def wF(n:Tx)(a:List Tx)(f:zi):List Tx:=cond (!f.Static) (a++[nmF n f.Name]) a
def wC(a:List Tx)(c:za):List Tx:=c.Fields.foldl (wF c.Name) a
def zzr(cs:List za):List Tx:=cs.foldl wC []
def sF(a:List Tx)(f:zb):List Tx:=cond (((!f.Static)&&(!f.Abstract))&&!(a.any fun y=>f.Name == y)) (a++[f.Name]) a
def sC(a:List Tx)(c:za):List Tx:=c.Methods.foldl sF a
def zus(cs:List za):List Tx:=cs.foldl sC []
theorem zrr{α β:Type}{f:List β→α→List β}(h:∀a x,∃t,f a x=a++t):∀(l:List α) (a:List β),∃t,l.foldl f a=a++t
 | [],a=>⟨[],by simp⟩
 |x ::r,a=>by
  obtain ⟨t,e⟩:=h a x
  obtain ⟨u,k⟩:=zrr h r (f a x)
  exact ⟨t++u,by rw [List.foldl_cons,k,e,List.append_assoc]⟩
theorem zDI(a:List Tx)(c:za):∃t,wC a c=a++t:=
 zrr (fun a f=>by
  unfold wF
  cases f.Static with
  |false=>exact ⟨[nmF c.Name f.Name],rfl⟩
  |true=>exact ⟨[],by simp⟩) c.Fields a
theorem zDF(a:List Tx)(c:za):∃t,sC a c=a++t:=
 zrr (fun a f=>by
  unfold sF
  cases (((!f.Static)&&(!f.Abstract))&&!(a.any fun y=>f.Name == y)) with
  |false=>exact ⟨[],by simp⟩
  |true=>exact ⟨[f.Name],rfl⟩) c.Methods a
section
variable {l L : List za} {m : List (Tx × Int)} {t me st : List Tx}
def zhh(L:List za)(n:Tx):List za:=(zdW L n).reverse.map (zis L)
theorem zvA{d:Nat}:∀{d:Nat} {n:Tx},zty L d n=true→sup L (d+1) n=sup L d n
 | 0,n,h=>by
  have:zdL L n=false:=by simpa [zty] using h
  show (match cl L n with |none=>[] |some c=>n ::sup L 0 c.Super)=[]
  cases hc:cl L n with
  |none=>rfl
  |some c=>rw [zgP hc] at this;cases this
 |d+1,n,h=>by
  show (match cl L n with |none=>[] |some c=>n ::sup L (d+1) c.Super)=(match cl L n with |none=>[] |some c=>n ::sup L d c.Super)
  unfold zty at h
  cases hc:cl L n with
  |none=>rfl
  |some c =>
   rw [hc] at h
   show n ::sup L (d+1) c.Super=n ::sup L d c.Super
   rw [zvA (d:=d) h]
theorem zy5(h:zcC l L){n:Tx}{c:za}(hc:cl L n=some c):zdW L n=n ::zdW L c.Super:=by
 have hf:=zr9 h.toWf n
 unfold zdW
 cases hL:L.length with
 |zero=>have:=List.eq_nil_of_length_eq_zero hL;subst this;cases hc
 |succ d =>
  rw [hL] at hf
  unfold zty at hf
  rw [hc] at hf
  rw [zvA (d:=d) hf]
  show (match cl L n with |none=>[] |some c=>n ::sup L d c.Super)=_
  rw [hc]
theorem zv3(h:zcC l L){n:Tx}{c:za}(hc:cl L n=some c):zhh L n=zhh L c.Super++[c]:=by
 unfold zhh
 rw [zy5 h hc,List.reverse_cons,List.map_append]
 congr 1
 show [zis L n]=[c]
 unfold zis;rw [hc];rfl
theorem zsC(h:zcC l L){n:Tx}{c:za}(hc:c∈zhh L n):c∈L∧c.Name∈zdW L n:=by
 unfold zhh at hc
 obtain ⟨x,hx,e⟩:=List.mem_map.1 hc
 rw [List.mem_reverse] at hx
 obtain ⟨d,hd⟩:=zf4 (ziz h _ n x hx).1
 have:zis L x=d:=by unfold zis;rw [hd];rfl
 rw [this] at e
 subst e
 exact ⟨(zbR hd).1,by rw [(zbR hd).2];exact hx⟩
theorem zsB(h:zcC l L)(n:Tx):(zhh L n).length≤26:=by
 unfold zhh
 rw [List.length_map,List.length_reverse]
 exact ze9 h n
theorem zxz(h:zcC l L)(hm:zbc L m)(n:Tx):zeN L m t me st n=some (zhh L n):=by
 have h26:=ze9 h n
 unfold zeN
 rw [zim h hm]
 simp only [Option.bind_some]
 rw [zwI (by omega)]
 simp only [Option.bind_some]
 have hl:=(zhl (β:=List za) (S:=List za×Int) (U:=List za) (R:=List za) (body:=fun z=>zbL L m (zdW L n).reverse z.1 z.2) (fun b i=>(b,i)) (fun b=>b)
  (l:=(zdW L n).reverse) (f:=fun a x=>a++[zis L x]) (I:=fun b i=>b.length=i∧i≤(zdW L n).length) (fun i x b hI hx=>by
   have hi:=(List.getElem?_eq_some_iff.1 hx).1
   rw [List.length_reverse] at hi
   obtain ⟨c,hc⟩:=zf4 (ziz h _ n x (List.mem_reverse.1 (List.mem_of_getElem? hx))).1
   have e:zis L x=c:=by unfold zis;rw [hc];rfl
   refine ⟨?_,by simp [hI.1],by omega⟩
   show zbL L m (zdW L n).reverse b (i:Int)=_
   unfold zbL
   rw [zfk hx,zs,hx]
   simp only [cond_true,Option.bind_some]
   rw [zem hm,hc]
   simp only [Option.bind_some]
   rw [zbF (by simp;omega) (by simp;omega),zQ (by omega),e]
   rfl) (fun b hI=>by
   show zbL L m (zdW L n).reverse b ((zdW L n).reverse.length:Int)=_
   unfold zbL
   rw [zfJ];rfl) (b0:=[]) ⟨rfl,Nat.zero_le _⟩).1
 rw [show zm (fun z=>zbL L m (zdW L n).reverse z.1 z.2) ([],0)=_ from hl]
 have e:∀(r:List Tx) (a:List za),r.foldl (fun a x=>a++[zis L x]) a=a++r.map (zis L):=by
  intro r
  induction r with
  |nil=>intro a;simp
  |cons x r ih=>intro a;rw [List.foldl_cons,ih];simp
 rw [e]
 rfl
theorem zAZ{c:za}(hc:zhz c){k:Nat}{a:List Tx}(ha:a.length≤10000*k)(hk:k≤1000):
  zm (fun z=>zbr c z.1 z.2) (a,0)=some (.inl (wC a c))∧(wC a c).length≤10000*(k+1):=by
 have hF:=hc.fields.len
 have:=zhl (β:=List Tx) (S:=List Tx×Int) (U:=List Tx) (R:=List Tx) (body:=fun z=>zbr c z.1 z.2) (fun b i=>(b,i)) (fun b=>b)
  (l:=c.Fields) (f:=wF c.Name) (I:=fun b i=>b.length≤10000*k+i∧i≤c.Fields.length) (fun i x b hI hx=>by
   have hi:=(List.getElem?_eq_some_iff.1 hx).1
   have hn:=hc.name
   have hxn:=(hc.fields.all x (List.mem_of_getElem? hx)).name
   unfold FS at hn hxn
   have hI1:=hI.1
   constructor
   ·show zbr c b (i:Int)=_
    unfold zbr zeu wF
    rw [zfk hx,zs,hx,zli (by simp;omega)]
    simp only [cond_true,Option.bind_some]
    rw [zli (by simp;omega)]
    simp only [Option.bind_some]
    rw [zbF (by simp;omega) (by simp;omega),zQ (by omega)]
    cases x.Static <;> rfl
   ·refine ⟨?_,by omega⟩
    unfold wF
    cases x.Static <;> simp <;> omega) (fun b hI=>by
   show zbr c b (c.Fields.length:Int)=_
   unfold zbr
   rw [zfJ];rfl) (b0:=a) ⟨ha,Nat.zero_le _⟩
 refine ⟨this.1,?_⟩
 have h2:=this.2.1
 show (c.Fields.foldl (wF c.Name) a).length≤_
 omega
theorem zvP(h:zcC l L)(hm:zbc L m)(hF:∀c∈L,zhz c)(n:Tx):zcg L m t me st n=some (zzr (zhh L n))∧(zzr (zhh L n)).length≤260000:=by
 have h26:=zsB h n
 unfold zcg
 rw [zxz h hm]
 simp only [Option.bind_some]
 have:=zhl (β:=List Tx) (S:=List Tx×Int) (U:=List Tx) (R:=List Tx) (body:=fun z=>zbs (zhh L n) z.1 z.2) (fun b i=>(b,i)) (fun b=>b)
  (l:=zhh L n) (f:=wC) (I:=fun b i=>b.length≤10000*i∧i≤(zhh L n).length) (fun i x b hI hx=>by
   have hi:=(List.getElem?_eq_some_iff.1 hx).1
   obtain ⟨w1,w2⟩:=zAZ (hF x (zsC h (List.mem_of_getElem? hx)).1) hI.1 (by omega)
   refine ⟨?_,w2,by omega⟩
   show zbs (zhh L n) b (i:Int)=_
   unfold zbs
   rw [zfk hx,zs,hx]
   simp only [cond_true,Option.bind_some]
   rw [w1]
   show some (Sum.inl (wC b x,IntKind.i64.wrap ((i:Int)+1)))=_
   rw [zQ (by omega)]) (fun b hI=>by
   show zbs (zhh L n) b ((zhh L n).length:Int)=_
   unfold zbs
   rw [zfJ];rfl) (b0:=[]) ⟨Nat.zero_le _,Nat.zero_le _⟩
 rw [show zm (fun z=>zbs (zhh L n) z.1 z.2) ([],0)=_ from this.1]
 refine ⟨rfl,?_⟩
 have h2:=this.2.1
 show ((zhh L n).foldl wC []).length≤_
 omega
theorem zAF{c:za}(hc:zhz c){k:Nat}{a:List Tx}(ha:a.length≤10000*k)(hk:k≤1000):
  zm (fun z=>zbp c z.1 z.2) (a,0)=some (.inl (sC a c))∧(sC a c).length≤10000*(k+1):=by
 have hF:=hc.methods.len
 have:=zhl (β:=List Tx) (S:=List Tx×Int) (U:=List Tx) (R:=List Tx) (body:=fun z=>zbp c z.1 z.2) (fun b i=>(b,i)) (fun b=>b)
  (l:=c.Methods) (f:=sF) (I:=fun b i=>b.length≤10000*k+i∧i≤c.Methods.length) (fun i x b hI hx=>by
   have hi:=(List.getElem?_eq_some_iff.1 hx).1
   have hI1:=hI.1
   constructor
   ·show zbp c b (i:Int)=_
    unfold zbp zet sF
    rw [zfk hx,zs,hx]
    simp only [cond_true,Option.bind_some]
    rw [zrs (by unfold zjL;omega),zbF (by simp;omega) (by simp;omega),zQ (by omega)]
    cases x.Static <;> cases x.Abstract <;> cases (b.any fun y=>x.Name == y) <;> rfl
   ·refine ⟨?_,by omega⟩
    unfold sF
    cases (((!x.Static)&&(!x.Abstract))&&!(b.any fun y=>x.Name == y)) <;> simp <;> omega) (fun b hI=>by
   show zbp c b (c.Methods.length:Int)=_
   unfold zbp
   rw [zfJ];rfl) (b0:=a) ⟨ha,Nat.zero_le _⟩
 refine ⟨this.1,?_⟩
 have h2:=this.2.1
 show (c.Methods.foldl sF a).length≤_
 omega
theorem zvx(h:zcC l L)(hm:zbc L m)(hF:∀c∈L,zhz c)(n:Tx):zc6 L m t me st n=some (zus (zhh L n))∧(zus (zhh L n)).length≤260000:=by
 have h26:=zsB h n
 unfold zc6
 rw [zxz h hm]
 simp only [Option.bind_some]
 have:=zhl (β:=List Tx) (S:=List Tx×Int) (U:=List Tx) (R:=List Tx) (body:=fun z=>zbq (zhh L n) z.1 z.2) (fun b i=>(b,i)) (fun b=>b)
  (l:=zhh L n) (f:=sC) (I:=fun b i=>b.length≤10000*i∧i≤(zhh L n).length) (fun i x b hI hx=>by
   have hi:=(List.getElem?_eq_some_iff.1 hx).1
   obtain ⟨w1,w2⟩:=zAF (hF x (zsC h (List.mem_of_getElem? hx)).1) hI.1 (by omega)
   refine ⟨?_,w2,by omega⟩
   show zbq (zhh L n) b (i:Int)=_
   unfold zbq
   rw [zfk hx,zs,hx]
   simp only [cond_true,Option.bind_some]
   rw [w1]
   show some (Sum.inl (sC b x,IntKind.i64.wrap ((i:Int)+1)))=_
   rw [zQ (by omega)]) (fun b hI=>by
   show zbq (zhh L n) b ((zhh L n).length:Int)=_
   unfold zbq
   rw [zfJ];rfl) (b0:=[]) ⟨Nat.zero_le _,Nat.zero_le _⟩
 rw [show zm (fun z=>zbq (zhh L n) z.1 z.2) ([],0)=_ from this.1]
 refine ⟨rfl,?_⟩
 have h2:=this.2.1
 show ((zhh L n).foldl sC []).length≤_
 omega
def zxg:Nat→List Tx→Tx→List Tx
 | 0,a,t=>a
 |d+1,a,t=>cond ((zeZ t).2&&!(a.any fun y=>t == y)) (zxg d (a++[t]) (zeZ t).1) a
def zBO(a:List Tx)(t:Tx):List Tx:=zxg t.length a t
theorem zqG{t:Tx}(h:(zeZ t).2=true):(zeZ t).1.length+1=t.length∧zfU t=true:=by
 unfold zeZ at h ⊢
 cases hc:(zfU t&&brk t) with
 |false=>rw [hc] at h;cases h
 |true =>
  rw [Bool.and_eq_true] at hc
  have:=(zjz hc.2).2
  have h2:0<t.length:=by rw [this];simp
  exact ⟨by simp;omega,hc.1⟩
theorem zqC:∀(d:Nat) (a:List Tx) (t:Tx),t.length=d→a.length+d≤1000000000000→Len t →
  zm (fun z=>zev z.1 z.2.1 z.2.2.1 z.2.2.2) (a,t,(zeZ t).1,(zeZ t).2)=some (.inl (zxg d a t))
 |d,a,t,hd,ha,hl=>by
  rw [zE]
  show (zev a t (zeZ t).1 (zeZ t).2).bind _=_
  unfold zev
  cases h2:(zeZ t).2 with
  |false =>
   have e:zxg d a t=a:=by
    cases d with
    |zero=>rfl
    |succ d=>unfold zxg;rw [h2];rfl
   rw [e];rfl
  |true =>
   obtain ⟨k1,k2⟩:=zqG h2
   cases d with
   |zero=>omega
   |succ d =>
    unfold zxg
    rw [zrs (by unfold zjL;omega),h2]
    cases hh:(a.any fun y=>t == y) with
    |true=>rfl
    |false =>
     have hl2:Len (zeZ t).1:=by unfold Len at *;omega
     simp only [cond_true,Option.bind_some,Bool.not_false,Bool.true_and]
     rw [zbF (by simp;omega) (by simp;omega),zfw hl2]
     exact zqC d (a++[t]) (zeZ t).1 (by omega) (by simp;omega) hl2
theorem zuE:∀(d:Nat) (a:List Tx) (t:Tx),a.length≤(zxg d a t).length∧(zxg d a t).length≤a.length+d
 | 0,a,t=>⟨Nat.le_refl _,Nat.le_refl _⟩
 |d+1,a,t=>by
  unfold zxg
  cases ((zeZ t).2&&!(a.any fun y=>t == y)) with
  |false=>simp
  |true =>
   have:=zuE d (a++[t]) (zeZ t).1
   simp only [List.length_append,List.length_cons,List.length_nil] at this
   simp only [cond_true]
   omega
theorem zrg(a:List Tx)(t:Tx):(zBO a t).length≤a.length+25:=by
 unfold zBO
 cases h:(zeZ t).2 with
 |false =>
  have e:zxg t.length a t=a:=by
   cases t.length with
   |zero=>rfl
   |succ d=>unfold zxg;rw [h];rfl
  rw [e];omega
 |true =>
  have h1:=zlD (zqG h).2
  have h2:=zuE t.length a t
  omega
theorem zpA{a:List Tx}{x:Tx}(ha:a.length≤900000000000)(hx:FS x):zc7 L m a me st x=some (zBO a x):=by
 unfold FS at hx
 unfold zc7
 have hl:Len x:=by unfold Len;omega
 rw [zfw hl]
 simp only [Option.bind_some]
 rw [zqC x.length a x rfl (by omega) hl]
 rfl
def zBh(a:List Tx)(x:zl):List Tx:=cond (x.Op == (50:Int)) (zBO a (ztI x.C)) (cond ((x.Op == (56:Int))||(x.Op == (57:Int))) (zBO a x.C) a)
theorem zz9(a:List Tx)(x:zl):(zBh a x).length≤a.length+25:=by
 unfold zBh
 have h1:=zrg a (ztI x.C)
 have h2:=zrg a x.C
 cases (x.Op == (50:Int)) <;> cases ((x.Op == (56:Int))||(x.Op == (57:Int))) <;> simp only [cond_true,cond_false] <;> omega
theorem zzN{C:Tx}(h:C.length≤1000):(ztI C).length≤1001:=by
 unfold ztI
 cases zfU (91 ::C) <;> simp <;> omega
theorem zrC{a:List Tx}{x:zl}(ha:a.length≤900000000000)(hx:x.C.length≤25):zgA L m a me st x=some (zBh a x):=by
 have h1:=zzN (C:=x.C) (by omega)
 unfold zgA ze7 zBh
 rw [znE (by omega),zpA ha (by unfold FS;omega)]
 simp only [Option.bind_some]
 rw [zpA ha (by unfold FS;omega)]
 cases (x.Op == (50:Int)) <;> cases (x.Op == (56:Int)) <;> cases (x.Op == (57:Int)) <;> rfl
def nF(n:Tx)(p:List Tx×List Tx)(f:zi):List Tx×List Tx:=(zBO p.1 f.Type_,cond f.Static (p.2++[nmF n f.Name]) p.2)
def nM(n:Tx)(p:List Tx×List Tx)(f:zb):List Tx×List Tx:=(f.Code.foldl zBh p.1,p.2++[nmF n f.Name])
def nC(p:List Tx×List Tx×List Tx)(c:za):List Tx×List Tx×List Tx:=
 let q:=c.Fields.foldl (nF c.Name) (p.1,p.2.2)
 let r:=c.Methods.foldl (nM c.Name) (q.1,p.2.1)
 (r.1,r.2,q.2)
def zqn(L:List za):List Tx×List Tx×List Tx:=L.foldl nC (L.map (·.Name)++[[91,73]],[],[])
theorem ar1{A B D i K1 K2 K:Nat}(hK:K1+K2≤K)(h1:A≤B+K1+K2)(h2:B≤D+K*i):A≤D+K*(i+1):=
 Nat.le_trans h1 (by rw [Nat.mul_succ,←Nat.add_assoc,Nat.add_assoc B];exact Nat.add_le_add h2 hK)
theorem ar2{A B i:Nat}(h1:A≤B+10000)(h2:B≤10000*i):A≤10000*(i+1):=by omega
theorem ar3{A B C i K:Nat}(h1:A≤B+K)(h2:B≤C+K*i):A≤C+K*(i+1):=
 Nat.le_trans h1 (by rw [Nat.mul_succ,←Nat.add_assoc];exact Nat.add_le_add_right h2 K)
theorem zAk{x:zr}{f:zb}(hf:zzF f){a:List Tx}(ha:a.length≤800000000000):
  zm (fun z=>zd2 x st f me z.1 z.2) (a,0)=some (.inl (f.Code.foldl zBh a))∧(f.Code.foldl zBh a).length≤a.length+250000:=by
 have hF:=hf.code.1
 have:=zhl (β:=List Tx) (S:=List Tx×Int) (U:=List Tx) (R:=List za×List (Tx×Int)×List Tx×List Tx×List Tx) (body:=fun z=>zd2 x st f me z.1 z.2) (fun b i=>(b,i)) (fun b=>b)
  (l:=f.Code) (f:=zBh) (I:=fun b i=>b.length≤a.length+25*i∧i≤f.Code.length) (fun i y b hI hx=>by
   have hi:=(List.getElem?_eq_some_iff.1 hx).1
   have hI1:=hI.1
   have hl:=zz9 b y
   refine ⟨?_,by omega,by omega⟩
   show zd2 x st f me b (i:Int)=_
   unfold zd2
   rw [zfk hx,zs,hx]
   simp only [cond_true,Option.bind_some]
   rw [zrC (by omega) (hf.code.2 y (List.mem_of_getElem? hx)),zQ (by omega)]
   rfl) (fun b hI=>by
   show zd2 x st f me b (f.Code.length:Int)=_
   unfold zd2
   rw [zfJ];rfl) (b0:=a) ⟨Nat.le_refl _,Nat.zero_le _⟩
 refine ⟨this.1,?_⟩
 have h2:=this.2.1
 omega
theorem zwr{x:zr}{n:Tx}{c:za}{b:Bool}(hn:FS n)(hc:zhz c){a:List Tx×List Tx}(ha:a.1.length≤700000000000)(ha2:a.2.length≤1000000):
  zm (fun z=>zd1 x me n (c,b) z.1 z.2.1 z.2.2) (a.1,a.2,0)=some (.inl (c.Fields.foldl (nF n) a))∧(c.Fields.foldl (nF n) a).1.length≤a.1.length+250000∧(c.Fields.foldl (nF n) a).2.length≤a.2.length+10000:=by
 have hF:=hc.fields.len
 have:=zhl (β:=List Tx×List Tx) (S:=List Tx×List Tx×Int) (U:=List Tx×List Tx) (R:=List za×List (Tx×Int)×List Tx×List Tx×List Tx) (body:=fun z=>zd1 x me n (c,b) z.1 z.2.1 z.2.2) (fun b i=>(b.1,b.2,i)) (fun b=>b)
  (l:=c.Fields) (f:=nF n) (I:=fun b i=>b.1.length≤a.1.length+25*i∧b.2.length≤a.2.length+i∧i≤c.Fields.length) (fun i y b hI hx=>by
   have hi:=(List.getElem?_eq_some_iff.1 hx).1
   have hI1:=hI.1
   have hI2:=hI.2.1
   have hy:=hc.fields.all y (List.mem_of_getElem? hx)
   have hyn:=hy.name
   unfold FS at hn hyn
   have hl:=zrg b.1 y.Type_
   refine ⟨?_,?_,?_,by omega⟩
   ·show zd1 x me n (c,_) b.1 b.2 (i:Int)=_
    unfold zd1 zh5
    simp only
    rw [zfk hx,zs,hx]
    simp only [cond_true,Option.bind_some]
    rw [zpA (by omega) hy.type,zli (by simp;omega)]
    simp only [Option.bind_some]
    rw [zli (by simp;omega)]
    simp only [Option.bind_some]
    rw [zbF (by simp;omega) (by simp;omega),zQ (by omega)]
    unfold nF
    cases y.Static <;> rfl
   ·show (zBO b.1 y.Type_).length≤_
    omega
   ·show (cond y.Static (b.2++[nmF n y.Name]) b.2).length≤_
    cases y.Static <;> simp <;> omega) (fun b hI=>by
   show zd1 x me n (c,_) b.1 b.2 (c.Fields.length:Int)=_
   unfold zd1
   simp only
   rw [zfJ];rfl) (b0:=a) ⟨Nat.le_refl _,Nat.le_refl _,Nat.zero_le _⟩
 refine ⟨this.1,?_,?_⟩
 ·have h2:=this.2.1
  omega
 ·have h2:=this.2.2.1
  omega
theorem zua{x:zr}{n:Tx}{c:za}{b:Bool}(hn:FS n)(hc:zhz c)(hs:∀f∈c.Methods,zzF f){a:List Tx×List Tx}(ha:a.1.length≤700000000000)(ha2:a.2.length≤1000000):
  zm (fun z=>zd3 x n (c,b) st z.1 z.2.1 z.2.2) (a.1,a.2,0)=some (.inl (c.Methods.foldl (nM n) a))∧(c.Methods.foldl (nM n) a).1.length≤a.1.length+2500000000∧(c.Methods.foldl (nM n) a).2.length≤a.2.length+10000:=by
 have hF:=hc.methods.len
 have:=zhl (β:=List Tx×List Tx) (S:=List Tx×List Tx×Int) (U:=List Tx×List Tx) (R:=List za×List (Tx×Int)×List Tx×List Tx×List Tx) (body:=fun z=>zd3 x n (c,b) st z.1 z.2.1 z.2.2) (fun b i=>(b.1,b.2,i)) (fun b=>b)
  (l:=c.Methods) (f:=nM n) (I:=fun b i=>b.1.length≤a.1.length+250000*i∧b.2.length≤a.2.length+i∧i≤c.Methods.length) (fun i y b hI hx=>by
   have hi:=(List.getElem?_eq_some_iff.1 hx).1
   have hI1:=hI.1
   have hI2:=hI.2.1
   have hy:=hc.methods.all y (List.mem_of_getElem? hx)
   have hyn:=hy.name
   unfold FS at hn hyn
   obtain ⟨l1,l2⟩:=zAk (x:=x) (st:=st) (me:=b.2++[nmF n y.Name]) (hs y (List.mem_of_getElem? hx)) (a:=b.1) (by omega)
   refine ⟨?_,ar3 l2 hI1,?_,Nat.succ_le_of_lt hi⟩
   ·clear l2
    show zd3 x n (c,_) st b.1 b.2 (i:Int)=_
    unfold zd3
    simp only
    rw [zfk hx,zs,hx,zli (by simp;omega)]
    simp only [cond_true,Option.bind_some]
    rw [zli (by simp;omega)]
    simp only [Option.bind_some]
    rw [zbF (by simp;omega) (by simp;omega)]
    simp only [Option.bind_some]
    rw [show zm (fun z=>zd2 x st y (b.2++[n++[46]++y.Name]) z.1 z.2) (b.1,0)=_ from l1]
    show some (Sum.inl (_,_,IntKind.i64.wrap ((i:Int)+1)))=_
    rw [zQ (by omega)]
    rfl
   ·show (b.2++[nmF n y.Name]).length≤_
    clear l1 l2
    simp;omega) (fun b hI=>by
   show zd3 x n (c,_) st b.1 b.2 (c.Methods.length:Int)=_
   unfold zd3
   simp only
   rw [zfJ];rfl) (b0:=a) ⟨Nat.le_refl _,Nat.le_refl _,Nat.zero_le _⟩
 refine ⟨this.1,?_,?_⟩
 ·have h2:=this.2.1
  omega
 ·have h2:=this.2.2.1
  omega
theorem zrB(h:zcC l L)(hm:zbc L m)(hF:∀c∈L,zhz c)(hD:∀c∈L,zwU L c):
  ziS (some (zr.mk L m))=some (L,m,zqn L)∧(zqn L).1.length≤70000000000∧(zqn L).2.1.length≤260000∧(zqn L).2.2.length≤260000:=by
 have h26:=h.len
 unfold ziS
 simp only [zwx]
 rw [zpK (by omega)]
 simp only [Option.bind_some]
 rw [zbF (by simp;omega) (by simp;omega)]
 simp only [Option.bind_some]
 have hlen:(L.map (·.Name)).length=L.length:=List.length_map ..
 have:=zhl (β:=List Tx×List Tx×List Tx) (S:=List Tx×List Tx×List Tx×Int) (U:=List Tx×List Tx×List Tx) (R:=List za×List (Tx×Int)×List Tx×List Tx×List Tx) (body:=fun z=>ze0 (zr.mk L m) (L.map (·.Name)) z.1 z.2.1 z.2.2.1 z.2.2.2) (fun b i=>(b.1,b.2.1,b.2.2,i)) (fun b=>b)
  (l:=L.map (·.Name)) (f:=fun p n=>nC p (zis L n)) (I:=fun b i=>b.1.length≤27+2600000000*i∧b.2.1.length≤10000*i∧b.2.2.length≤10000*i∧i≤L.length) (fun i n b hI hx=>by
   have hi:=(List.getElem?_eq_some_iff.1 hx).1
   rw [hlen] at hi
   obtain ⟨c,c1,c2,c3,c4⟩:=zrO h hx
   subst c3
   obtain ⟨i1,i2,i3,i4⟩:=hI
   have hc:=hF c c1
   have hs:=(hD c c1).small
   obtain ⟨f1,f2,f3⟩:=zwr (x:=zr.mk L m) (me:=b.2.1) (b:=true) hc.name hc (a:=(b.1,b.2.2)) (by show b.1.length≤_;omega) (by show b.2.2.length≤_;omega)
   have g2:(c.Fields.foldl (nF c.Name) (b.1,b.2.2)).1.length≤b.1.length+250000:=f2
   have g3:(c.Fields.foldl (nF c.Name) (b.1,b.2.2)).2.length≤b.2.2.length+10000:=f3
   obtain ⟨m1,m2,m3⟩:=zua (x:=zr.mk L m) (st:=(c.Fields.foldl (nF c.Name) (b.1,b.2.2)).2) (b:=true) hc.name hc hs.methods.2 (a:=((c.Fields.foldl (nF c.Name) (b.1,b.2.2)).1,b.2.1)) (by show (c.Fields.foldl (nF c.Name) (b.1,b.2.2)).1.length≤_;omega) (by show b.2.1.length≤_;omega)
   rw [c4]
   refine ⟨?_,ar1 (by decide) (Nat.le_trans m2 (Nat.add_le_add_right g2 _)) i1,ar2 m3 i2,ar2 f3 i3,Nat.succ_le_of_lt hi⟩
   clear m2 m3 f2 f3 g2 g3
   show ze0 (zr.mk L m) (L.map (·.Name)) b.1 b.2.1 b.2.2 (i:Int)=_
   unfold ze0
   rw [zfk hx,zs,hx]
   simp only [cond_true,Option.bind_some]
   rw [zem hm,c2]
   simp only [Option.bind_some]
   rw [show zm (fun z=>zd1 (zr.mk L m) b.2.1 c.Name (c,true) z.1 z.2.1 z.2.2) (b.1,b.2.2,0)=_ from f1]
   simp only [Option.bind_some,zI]
   unfold zmw
   rw [show zm (fun z=>zd3 (zr.mk L m) c.Name (c,true) (c.Fields.foldl (nF c.Name) (b.1,b.2.2)).2 z.1 z.2.1 z.2.2) ((c.Fields.foldl (nF c.Name) (b.1,b.2.2)).1,b.2.1,0)=_ from m1]
   show some (Sum.inl (_,_,_,IntKind.i64.wrap ((i:Int)+1)))=_
   rw [zQ (by omega)]
   rfl) (fun b hI=>by
   show ze0 (zr.mk L m) (L.map (·.Name)) b.1 b.2.1 b.2.2 ((L.map (·.Name)).length:Int)=_
   unfold ze0
   rw [zfJ];rfl) (b0:=(L.map (·.Name)++[[91,73]],[],[])) ⟨by simp;omega,Nat.zero_le _,Nat.zero_le _,Nat.zero_le _⟩
 have e:(L.map (·.Name)).foldl (fun p n=>nC p (zis L n)) (L.map (·.Name)++[[91,73]],[],[])=zqn L:=by
  unfold zqn
  rw [List.foldl_map]
  have hnd:Nd L:=h.nd
  have:∀(r:List za) p,(∀c∈r,c∈L)→r.foldl (fun p c=>nC p (zis L c.Name)) p=r.foldl nC p:=by
   intro r
   induction r with
   |nil=>intro p _;rfl
   |cons c r ih =>
    intro p hr
    rw [List.foldl_cons,List.foldl_cons]
    have:zis L c.Name=c:=by unfold zis;rw [hnd.cl (hr c (by simp))];rfl
    rw [this]
    exact ih _ (fun d hd=>hr d (by simp [hd]))
  exact this L _ (fun c hc=>hc)
 rw [e] at this
 rw [show zm (fun z=>ze0 (zr.mk L m) (L.map (·.Name)) z.1 z.2.1 z.2.2.1 z.2.2.2) (L.map (·.Name)++[[91,73]],[],[],0)=_ from this.1]
 obtain ⟨i1,i2,i3,i4⟩:=this.2
 rw [hlen] at i1 i2 i3
 exact ⟨rfl,by omega,by omega,by omega⟩
end
section
variable {l L : List za} {m : List (Tx × Int)}
theorem zBW(hf:∀c∈l,zhz c)(e:zaM):∃(r:Int) (m:List (Tx×Int)) (o:Option (List za)),zeI l e=some (o.map (fun L=>zr.mk L m),r)∧(∀L,o=some L→zcC l L∧zbc L m∧zx3 L=0)∧(o=none→r≠0):=by
 have hc:∀c∈l,zC0 c:=fun c hc=>(hf c hc).cg
 obtain ⟨m,hm,he⟩:=ztR hc
 unfold zeI
 rw [he]
 simp only [Option.bind_some]
 cases hE:(zwp l).1 with
 |none =>
  have h0:=zyh hE
  refine ⟨(zwp l).2,m,none,?_,(fun L h=>by cases h),fun _=>h0⟩
  have:((zwp l).2 == (0:Int))=false:=beq_eq_false_iff_ne.2 h0
  rw [this];rfl
 |some L =>
  obtain ⟨hM,hz⟩:=zyg hE
  have hmp:=hm L hE
  have hF:=zx7 hM hf
  have hL:zlT L:=zCq hF
  have hD:∀c∈L,zwU L c:=fun c hc=>zDc hM hF hc
  rw [hz]
  simp only [Option.map_some,beq_self_eq_true,Bool.not_true,cond_false]
  rw [zAc hM hmp hL hD]
  simp only [Option.bind_some]
  cases h0:(zx3 L == (0:Int)) with
  |false=>exact ⟨zx3 L,m,none,rfl,(fun L h=>by cases h),fun _=>beq_eq_false_iff_ne.1 h0⟩
  |true =>
   simp only [Bool.not_true,cond_false]
   rw [show zi3 (some (zr.mk L m)) e.C e.M=zfT L m e.C e.M from rfl,znI hM hmp hL]
   simp only [Option.bind_some]
   generalize ((zdW L e.C).findSome? (zm6 L zaU e.M)).getD ([],zM,false)=V
   cases ((((!V.2.2)||(!V.2.1.Static))||(decide (0<(List.length V.2.1.Params:Int))))||(!(V.2.1.Ret == [86]))) with
   |true=>exact ⟨4,m,none,rfl,(fun L h=>by cases h),(fun _=>by decide)⟩
   |false =>
    simp only [cond_false]
    rw [zBX hM hmp hL (fun c hc=>(hf c hc).methods.len)]
    cases l.any (zC7 L) with
    |true=>exact ⟨5,m,none,rfl,(fun L h=>by cases h),(fun _=>by decide)⟩
    |false=>exact ⟨0,m,some L,rfl,fun L' h=>by cases h;exact ⟨hM,hmp,eq_of_beq h0⟩,fun h=>by cases h⟩
end
theorem zu2{a t:List Tx}(h:(a++t).length≤1000000000):zhJ a (a++t)=some true:=by
 rw [List.length_append] at h
 unfold zhJ
 have e:(if ((a++t).length:Int)<(a.length:Int) then ((a++t).length:Int) else (a.length:Int))=(a.length:Int):=if_neg (by rw [List.length_append];omega)
 rw [e,zmP (by rw [List.length_append];omega),List.take_left,decide_eq_true (by rw [List.length_append];omega)]
 simp only [cond_true,Option.bind_some]
 rw [zpR (by unfold zjL;omega),(zxE zzS).2 rfl]
 rfl
theorem zD3(l:List za)(e:zaM):zjY (zek.mk l e [] 0)=some (zek.mk (zw6 l) (zaM.mk (e.C.take 12) (e.M.take 12)) [] 0):=by
 unfold zjY
 simp only
 have h1:(zjs ([]:List Int) 0 (if 30<((([]:List Int).length:Nat):Int) then 30 else ((([]:List Int).length:Nat):Int)))=some []:=rfl
 have h2:zgT 4 ([]:List Int) []=some []:=zbF (by simp) (by simp)
 have h3:zDE 0 600=some 0:=rfl
 have h4:zDE (IntKind.i64.wrap (0+600)) 600=some 0:=rfl
 rw [h1]
 simp only [Option.bind_some]
 rw [h2,h3]
 simp only [Option.bind_some]
 rw [h4,ztX,zsO]
 rfl
theorem zqg:zkw=some true:=by kernel_rfl
theorem zzR{l:List za}(h:∀c∈l,zkb c)(e:zaM):zgx l e=some true:=by
 unfold zgx
 rw [zqg,zD3]
 simp only [Option.bind_some,Bool.not_true,cond_false]
 have hf:∀c∈zw6 l,zhz c:=fun c hc=>(zvS h c hc).fc
 obtain ⟨r,m,o,h1,h3,h4⟩:=zBW hf (zaM.mk (e.C.take 12) (e.M.take 12))
 rw [h1]
 simp only [Option.bind_some]
 cases hr:(r == (0:Int)) with
 |false=>rfl
 |true =>
  simp only [Bool.not_true,cond_false]
  cases o with
  |none=>exact absurd (eq_of_beq hr) (h4 rfl)
  |some L =>
   obtain ⟨hM,hm,_⟩:=h3 L rfl
   have hF:=zx7 hM hf
   have hD:∀c∈L,zwU L c:=fun c hc=>zDc hM hF hc
   have h16:=hM.few
   simp only [Option.map_some]
   rw [(zrB hM hm hF hD).1]
   simp only [Option.bind_some]
   rw [show zm (fun z=>zcP (zek.mk (zw6 l) (zaM.mk (e.C.take 12) (e.M.take 12)) [] 0) (L,m,zqn L) z) 0=_ from zx4 (bad:=fun _=>false) (l:=zw6 l) (by omega) (fun i c hc=>by
    have hi:=(List.getElem?_eq_some_iff.1 hc).1
    have hcL:c∈L:=by rw [hM.app];exact List.mem_append_right _ (List.mem_of_getElem? hc)
    have hcl:cl L c.Name=some c:=(show Nd L from hM.nd).cl hcL
    show zcP (zek.mk (zw6 l) (zaM.mk (e.C.take 12) (e.M.take 12)) [] 0) (L,m,zqn L) (i:Int)=_
    unfold zcP ze6 ze5
    simp only
    rw [zfk hc,zs,hc]
    simp only [cond_true,Option.bind_some]
    obtain ⟨w1,w2⟩:=zvP (t:=(zqn L).1) (me:=(zqn L).2.1) (st:=(zqn L).2.2) hM hm hF c.Super
    obtain ⟨v1,v2⟩:=zvP (t:=(zqn L).1) (me:=(zqn L).2.1) (st:=(zqn L).2.2) hM hm hF c.Name
    obtain ⟨s1,s2⟩:=zvx (t:=(zqn L).1) (me:=(zqn L).2.1) (st:=(zqn L).2.2) hM hm hF c.Super
    obtain ⟨u1,u2⟩:=zvx (t:=(zqn L).1) (me:=(zqn L).2.1) (st:=(zqn L).2.2) hM hm hF c.Name
    rw [w1,v1,s1,u1]
    rw [zv3 hM hcl] at v2 u2 ⊢
    unfold zzr zus at *
    rw [List.foldl_append] at v2 u2 ⊢
    rw [List.foldl_append]
    simp only [List.foldl_cons,List.foldl_nil] at v2 u2 ⊢
    obtain ⟨x1,e1⟩:=zDI ((zhh L c.Super).foldl wC []) c
    obtain ⟨x2,e2⟩:=zDF ((zhh L c.Super).foldl sC []) c
    rw [e1] at v2 ⊢
    rw [e2] at u2 ⊢
    simp only [Option.bind_some]
    rw [zu2 (by omega),zu2 (by omega)]
    cases c.Interface <;> rfl) (by
    show zcP (zek.mk (zw6 l) (zaM.mk (e.C.take 12) (e.M.take 12)) [] 0) (L,m,zqn L) ((zw6 l).length:Int)=_
    unfold zcP
    simp only
    rw [zfJ];rfl)]
   rw [show (zw6 l).any (fun _=>false)=false from List.any_eq_false.2 (fun _ _=>Bool.false_ne_true)]
   rfl
theorem zoP(l:List za)(e:zaM)(h:wL zkb l)(_:ztt e):zaj Tryz.prog 9 [.isl 6 (List.map zc l),.agg (zfK e)] (bA true):=ziG l e (zzR h.2 e)

end
end Go.Proofs.YthmnlfenkhmmhaaGreat
