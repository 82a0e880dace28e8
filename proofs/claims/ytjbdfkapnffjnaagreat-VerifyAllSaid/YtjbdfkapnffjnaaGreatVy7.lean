/- VerifyAll: for every input the law returns true, and each argument reads as it read before. No further condition. Part 7 of 8. -/
import Derived.Test.YtjbdfkapnffjnaaGreatVy6
namespace Go.Proofs.YtjbdfkapnffjnaaGreat
noncomputable section
open List (length map)
set_option linter.unusedSimpArgs false
set_option linter.unusedVariables false
def ztK(L:List zb):Tx→Tx→Bool
 | [],b=>thN L []&&(thN L b&&(([]:Tx) == b))
 |x ::r,b=>thN L (x ::r)&&(thN L b&&(((x ::r) == b)||cond (x == 91) (cond (brk b) ((!(r == [73]))&&((!(b.drop 1 == [73]))&&ztK L r (b.drop 1))) (b == zB2)) ((zgP L (x ::r)).any (fun y=>b == y)||(ze4 L (x ::r)).any (fun y=>b == y))))
theorem ztl(L:List zb)(a b:Tx):ztK L a b=(thN L a&&(thN L b&&((a == b)||cond (brk a) (cond (brk b) ((!(a.drop 1 == [73]))&&((!(b.drop 1 == [73]))&&ztK L (a.drop 1) (b.drop 1))) (b == zB2)) ((zgP L a).any (fun y=>b == y)||(ze4 L a).any (fun y=>b == y))))):=by
 cases a with
 |nil =>
  have:thN L []=false:=by
   unfold thN
   have:zfH []=false:=by
    cases h:zfH [] with
    |false=>rfl
    |true =>
     unfold zfH at h
     rw [show zfa (zfa [])=[] from rfl] at h
     simp at h
     exact absurd rfl (zjT h)
   rw [this];rfl
  rw [this]
  show (thN L []&&_)=_
  rw [this];rfl
 |cons x r=>rfl
section
variable {l L : List zb} {m : List (Tx × Int)}
theorem zpm{l:List Tx}(hl:l.length≤1000)(n:Tx):zK l n=some (l.any fun y=>n == y):=zoN hl n
theorem znw(h:zeW l L)(n:Tx):(ze4 L n).length≤52:=by
 unfold ze4
 rw [(zg8 _).length_eq]
 exact Nat.le_trans (List.length_filter_le _ _) (zuP h n)
theorem zxn{t:Tx}(h:thN L t=true):zfH t=true:=by
 unfold thN at h;rw [Bool.and_eq_true] at h;exact h.1
theorem zwj{t:Tx}(h:thN L t=true):zhT t=cond (brk t) (t.drop 1,true) ([],false):=by
 unfold zhT
 rw [zxn h,Bool.true_and]
theorem zyP(h:zeW l L)(hm:zdG L m){v0:(List zb)×(List (Tx×Int))×Tx×Tx→Option Bool}{a b:Tx}(ha:Len a)(hb:Len b)
  (hv:brk a=true→brk b=true→v0 (L,m,a.drop 1,b.drop 1)=some (ztK L (a.drop 1) (b.drop 1))):zb0 v0 L m a b=some (ztK L a b):=by
 have h1:=zg2 h a
 have h2:=znw h a
 unfold zb0
 rw [zuw h hm ha,zuw h hm hb,ztl]
 cases ta:thN L a with
 |false=>rfl
 |true =>
  cases tb:thN L b with
  |false=>rfl
  |true =>
   simp only [Option.bind_some,Bool.not_true,cond_false,Bool.true_and]
   rw [zhk ha,zhk hb,zwj ta,zwj tb]
   simp only [Option.bind_some]
   cases hab:(a == b) with
   |true=>rfl
   |false =>
    cases ba:brk a with
    |true =>
     cases bb:brk b with
     |true =>
      simp only [cond_true,cond_false,Bool.and_self,Bool.false_or]
      rw [hv ba bb]
      cases (a.drop 1 == [73]) <;> cases (b.drop 1 == [73]) <;> rfl
     |false=>rfl
    |false =>
     simp only [cond_true,cond_false,Bool.false_and,Bool.false_or]
     rw [zlD h hm,zrU h hm]
     simp only [Option.bind_some]
     rw [zpm (by omega),zpm (by omega)]
     simp only [Option.bind_some]
     cases ((zgP L a).any fun y=>b == y) <;> rfl
theorem zz3(h:zeW l L)(hm:zdG L m):∀(d k:Nat) (a b:Tx),a.length≤d→d<k→Len a→Len b→zy7 (fun v0 z=>zb0 v0 z.1 z.2.1 z.2.2.1 z.2.2.2) k (L,m,a,b)=some (ztK L a b)
 |d,0,a,b,hd,hk,ha,hb=>by omega
 |d,k+1,a,b,hd,hk,ha,hb=>by
  show zb0 (zy7 (fun v0 z=>zb0 v0 z.1 z.2.1 z.2.2.1 z.2.2.2) k) L m a b=_
  refine zyP h hm ha hb fun b1 b2=>?_
  have hlen:(a.drop 1).length=a.length-1:=by simp
  have hlen2:(b.drop 1).length=b.length-1:=by simp
  have hpos:0<a.length:=by rw [(zkG b1).2];simp
  cases d with
  |zero=>omega
  |succ d=>exact zz3 h hm d k _ _ (by omega) (by omega) (by unfold Len at *;omega) (by unfold Len at *;omega)
theorem znZ(h:zeW l L)(hm:zdG L m){a b:Tx}(ha:a.length≤25)(hb:Len b):zcB L m a b=some (ztK L a b):=by
 unfold zcB zAy
 rw [zz3 h hm 25 30 a b ha (by omega) (by unfold Len;omega) hb]
theorem ztS(l:List Tx)(n:Tx):(l.any fun y=>y == n)=l.any fun y=>n == y:=by
 congr 1
 funext y
 exact zBA _ _
theorem znn{T:List Tx}(h:zeW l L)(hT:∀x∈T,zc7 L x=true){b:Tx}(hb:zcx b=false):(T.any fun y=>b == y)=false:=by
 rw [List.any_eq_false]
 intro y hy e
 have:=zjP h (hT y hy)
 rw [←eq_of_beq e,hb] at this
 cases this
theorem zm7(h:zeW l L){n x:Tx}(hx:x∈ze4 L n):zc7 L x=true:=zqO h (zsT.1 hx).1
theorem zs9{n:Tx}(hn:zc7 L n=false):ze4 L n=[]:=by
 unfold ze4 zkY
 rw [zlr hn];rfl
theorem zmh{b:Tx}(hb:brk b=true):zcx b=false:=by
 cases h:zcx b with
 |false=>rfl
 |true=>rw [zjI h] at hb;cases hb
theorem zoT:zcx [73]=false:=by
 cases h:zcx [73] with
 |false=>rfl
 |true=>exact absurd (zzi h) (by simp)
theorem zu1(h:zeW l L){v0:(List zb)×Tx×Tx→Option Bool}{a b:Tx}(ha:a.length≤800)(hb:b.length≤800)
  (hv:brk a=true→brk b=true→v0 (L,a.drop 1,b.drop 1)=some (ztK L (a.drop 1) (b.drop 1))):zb1 v0 L a b=some (ztK L a b):=by
 unfold zb1
 rw [zd5 h (by omega),zd5 h (by omega),ztl]
 cases ta:thN L a with
 |false=>rfl
 |true =>
  cases tb:thN L b with
  |false=>rfl
  |true =>
   simp only [Option.bind_some,Bool.not_true,cond_false,Bool.true_and]
   obtain ⟨k1,e1,f1⟩:=zq9 (t:=a) (by omega) (zxn ta)
   obtain ⟨k2,e2,f2⟩:=zq9 (t:=b) (by omega) (zxn tb)
   rw [e1,e2]
   simp only [Option.bind_some]
   cases hab:(a == b) with
   |true=>rfl
   |false =>
    rw [f1,f2]
    simp only [cond_false,Bool.false_or]
    cases ba:brk a with
    |true =>
     cases bb:brk b with
     |true =>
      simp only [cond_true,cond_false,Bool.not_true,Bool.and_self,Bool.false_and]
      rw [show (1:Int)=((1:Nat):Int) from rfl,zir (by rw [(zkG ba).2];simp),zir (by rw [(zkG bb).2];simp)]
      simp only [Option.bind_some]
      rw [hv ba bb]
      cases (a.drop 1 == [73]) <;> cases (b.drop 1 == [73]) <;> rfl
     |false =>
      simp only [cond_true,cond_false,Bool.not_true,Bool.not_false,Bool.false_and]
      rw [zpc bb];rfl
    |false =>
     cases bb:brk b with
     |true =>
      simp only [cond_true,cond_false,Bool.not_true,Bool.not_false,Bool.and_false]
      rw [znn (T:=zgP L a) h (fun x hx=>(zj9 h _ a x hx).1) (zmh bb),znn (T:=ze4 L a) h (fun x hx=>zm7 h hx) (zmh bb)];rfl
     |false =>
      simp only [cond_true,cond_false,Bool.not_false,Bool.and_self]
      rw [zpc ba,zpc bb]
      have h1:=zg2 h a
      have h2:=znw h a
      cases hI:(a == [73]) with
      |true =>
       have e:a=[73]:=by simpa using hI
       have hn:zc7 L a=false:=by
        cases hh:zc7 L a with
        |false=>rfl
        |true=>have:=zjP h hh;rw [e,zoT] at this;cases this
       rw [zlr hn,zs9 hn];rfl
      |false =>
       cases hI2:(b == [73]) with
       |true =>
        have e:b=[73]:=by simpa using hI2
        have hc:zcx b=false:=by rw [e];exact zoT
        rw [znn (T:=zgP L a) h (fun x hx=>(zj9 h _ a x hx).1) hc,znn (T:=ze4 L a) h (fun x hx=>zm7 h hx) hc];rfl
       |false =>
        simp only [Bool.not_false,Bool.and_self,cond_true]
        rw [zhE h,zom h]
        simp only [Option.bind_some]
        rw [zl2 (by omega),zl2 (by omega),ztS,ztS]
        simp only [Option.bind_some]
        cases ((zgP L a).any fun y=>b == y) <;> rfl
theorem zuG(h:zeW l L):∀(d k:Nat) (a b:Tx),a.length≤d→d<k→a.length≤800→b.length≤800→zy7 (fun v0 z=>zb1 v0 z.1 z.2.1 z.2.2) k (L,a,b)=some (ztK L a b)
 |d,0,a,b,hd,hk,ha,hb=>by omega
 |d,k+1,a,b,hd,hk,ha,hb=>by
  show zb1 (zy7 (fun v0 z=>zb1 v0 z.1 z.2.1 z.2.2) k) L a b=_
  refine zu1 h ha hb fun b1 b2=>?_
  have hlen:(a.drop 1).length=a.length-1:=by simp
  have hlen2:(b.drop 1).length=b.length-1:=by simp
  have hpos:0<a.length:=by rw [(zkG b1).2];simp
  cases d with
  |zero=>omega
  |succ d=>exact zuG h d k _ _ (by omega) (by omega) (by omega) (by omega)
theorem zqn(h:zeW l L){a b:Tx}(ha:a.length≤25)(hb:b.length≤800):zfn L a b=some (ztK L a b):=by
 unfold zfn zAy
 rw [zuG h 25 30 a b ha (by omega) (by omega) hb]
end
abbrev I64(n:Int):Prop:=-9223372036854775808≤n∧n≤9223372036854775807
abbrev FS(s:List UInt8):Prop:=s.length≤10000
structure FL{α:Type}(Q:α→Prop)(l:List α):Prop where
 len:l.length≤10000
 all:∀x∈l,Q x
structure zBu(f:zt):Prop where
 name:FS f.Name
 type:FS f.Type_
structure zCX(x:zH):Prop where
 op:I64 x.Op
 a:I64 x.A
 c:FS x.C
 m:FS x.M
structure zCZ(x:zas):Prop where
 pl:I64 x.At
 locals:FL FS x.Locals
 stack:FL FS x.Stack
structure zCc(x:zbe):Prop where
 lo:I64 x.From
 hi:I64 x.To
 pl:I64 x.At
 c:FS x.C
structure zBz(m:zd):Prop where
 name:FS m.Name
 params:FL FS m.Params
 ret:FS m.Ret
 locals:I64 m.Locals
 stack:I64 m.Stack
 code:FL zCX m.Code
 maps:FL zCZ m.Maps
 traps:FL zCc m.Traps
structure zm8(c:zb):Prop where
 name:FS c.Name
 super:FS c.Super
 impl:FL FS c.Impl
 fields:FL zBu c.Fields
 methods:FL zBz c.Methods
theorem FL.le{α:Type}{Q:α→Prop}{l:List α}(h:FL Q l):zj5 l:=by have:=h.len;unfold zj5;omega
theorem FS.le{s:List UInt8}(h:FS s):Len s:=by unfold FS at h;unfold Len;omega
theorem zm8.cg{c:zb}(h:zm8 c):zzJ c where
 name:=h.name.le
 super:=h.super.le
 impl:=⟨h.impl.le,fun s hs=>(h.impl.all s hs).le⟩
 fields:=⟨h.fields.le,fun f hf=>⟨(h.fields.all f hf).name.le,(h.fields.all f hf).type.le⟩⟩
 methods:=⟨h.methods.le,fun m hm=>by
  have g:=h.methods.all m hm
  have g1:=g.params.len
  have g2:=g.code.len
  have g3:=g.maps.len
  have g4:=g.traps.len
  exact ⟨g.name.le,⟨by omega,fun s hs=>(g.params.all s hs).le⟩,g.ret.le,
   ⟨g.maps.le,g.code.le,fun x hx=>⟨⟨(g.maps.all x hx).locals.le,fun s hs=>((g.maps.all x hx).locals.all s hs).le⟩,(g.maps.all x hx).stack.le,fun s hs=>((g.maps.all x hx).stack.all s hs).le⟩⟩,
   ⟨⟨g.code.le,fun x hx=>⟨(g.code.all x hx).c.le,(g.code.all x hx).m.le⟩⟩,⟨g.traps.le,fun x hx=>(g.traps.all x hx).c.le⟩⟩,⟨by omega,by omega,by omega⟩⟩⟩
theorem zeH{s:List UInt8}{n:Nat}:zcQ s (n:Int)=some (s.take n):=by
 unfold zcQ
 by_cases h:n<s.length
 ·rw [decide_eq_true (show (n:Int)<(s.length:Int) by omega),znS (by omega)];rfl
 ·rw [decide_eq_false (show ¬(n:Int)<(s.length:Int) by omega),List.take_of_length_le (by omega)];rfl
theorem zi3{α β R:Type}{body:List β×Int→Option (Sum (List β×Int) (Sum (List β) R))}{l:List α}{n:Nat}{f:α→β}(hn:n≤1000)
  (hb:∀acc (i:Nat) x,l[i]?=some x→i<n→acc.length=i→body (acc,(i:Int))=some (.inl (acc++[f x],IntKind.i64.wrap ((i:Int)+1))))
  (he:∀acc (i:Nat),(decide ((i:Int)<(l.length:Int))&&decide ((i:Int)<(n:Int)))=false→body (acc,(i:Int))=some (.inr (.inl acc))):zu body ([],0)=some (.inl ((l.take n).map f)):=by
 have key:∀d i,(l.take n).length-i=d→i≤(l.take n).length→zu body (((l.take n).take i).map f,(i:Int))=some (.inl ((l.take n).map f)):=by
  intro d
  induction d with
  |zero =>
   intro i hd hi
   have e:i=(l.take n).length:=by omega
   rw [zL,he _ i (by
    rw [List.length_take] at e
    rw [Bool.and_eq_false_iff]
    rcases Nat.le_total n l.length with h |h
    ·exact .inr (decide_eq_false (by omega))
    ·exact .inl (decide_eq_false (by omega))),e,List.take_length]
   rfl
  |succ d ih =>
   intro i hd hi
   have hlt:i<(l.take n).length:=by omega
   have h2:i<n∧i<l.length:=by rw [List.length_take] at hlt;omega
   have hx:l[i]?=some l[i]:=List.getElem?_eq_getElem h2.2
   rw [zL,hb _ i l[i] hx h2.1 (by rw [List.length_map,List.length_take];omega),zay (by omega)]
   have:=ih (i+1) (by omega) (by omega)
   rw [List.take_add_one,List.getElem?_take_of_lt h2.1,hx] at this
   simp only [Option.toList_some,List.map_append,List.map_cons,List.map_nil] at this
   exact this
 exact key _ 0 rfl (Nat.zero_le _)
theorem more{α:Type}{l:List α}{n i:Nat}{x:α}(h:l[i]?=some x)(hi:i<n):(decide ((i:Int)<(l.length:Int))&&decide ((i:Int)<(n:Int)))=true:=by
 rw [zgj h,decide_eq_true (by omega)];rfl
def zCB(f:zt):zt:=zt.mk (f.Name.take 10) (f.Type_.take 12) f.Static
def zCm(x:zH):zH:=zH.mk x.Op x.A (x.C.take 14) (x.M.take 12)
def zz5(n:Nat)(l:List (List UInt8)):List (List UInt8):=(l.take n).map (·.take 12)
def zzS(x:zas):zas:=zas.mk x.At (zz5 20 x.Locals) (zz5 20 x.Stack)
def zCD(x:zbe):zbe:=zbe.mk x.From x.To x.At (x.C.take 10)
def zB7(m:zd):zd:=zd.mk (m.Name.take 10) (zz5 8 m.Params) (m.Ret.take 12) m.Static m.Abstract m.Locals m.Stack ((m.Code.take 104).map zCm) ((m.Maps.take 104).map zzS) ((m.Traps.take 8).map zCD)
def zzR(c:zb):zb:=zb.mk (c.Name.take 10) (c.Super.take 10) c.Interface (zz5 6 c.Impl) ((c.Fields.take 10).map zCB) ((c.Methods.take 10).map zB7)
theorem ziC{l:List (List UInt8)}{n:Nat}(hn:n≤100):zel l (n:Int)=some (zz5 n l):=by
 unfold zel
 rw [show zu (fun z=>zet l (n:Int) z.1 z.2) ([],0)=some (.inl (zz5 n l)) from zi3 (by omega) (fun acc i x hx hi ha=>by
  show zet l (n:Int) acc (i:Int)=_
  unfold zet
  rw [more hx hi,zB,hx]
  simp only [Option.bind_some,cond_true]
  rw [show zcQ x 12=_ from zeH (n:=12),Option.bind_some,zdw (by simp;omega) (by simp;omega)];rfl) (fun acc i h=>by
  show zet l (n:Int) acc (i:Int)=_
  unfold zet
  rw [h];rfl)]
 rfl
theorem ztv(x:zH):znd x=some (zCm x):=by
 unfold znd
 rw [show zcQ x.C 14=_ from zeH (n:=14),show zcQ x.M 12=_ from zeH (n:=12)];rfl
theorem zpV(m:zd):ziV m=some (zB7 m):=by
 unfold ziV
 rw [show zcQ m.Name 10=_ from zeH (n:=10),show zcQ m.Ret 12=_ from zeH (n:=12),show zel m.Params 8=_ from ziC (n:=8) (by decide)]
 simp only [Option.bind_some]
 rw [show zu (fun z=>zd6 m z.1 z.2) ([],0)=some (.inl ((m.Code.take 104).map zCm)) from zi3 (by decide) (fun acc i x hx hi ha=>by
  show zd6 m acc (i:Int)=_
  unfold zd6
  rw [show (decide ((i:Int)<(m.Code.length:Int))&&decide ((i:Int)<104))=true from more hx hi,zB,hx]
  simp only [Option.bind_some,cond_true]
  rw [ztv,Option.bind_some,zdw (by simp;omega) (by simp;omega)];rfl) (fun acc i h=>by
  show zd6 m acc (i:Int)=_
  unfold zd6
  rw [show (decide ((i:Int)<(m.Code.length:Int))&&decide ((i:Int)<104))=false from h];rfl)]
 simp only [Option.bind_some]
 show zgQ m _ _ _ _=_
 unfold zgQ
 rw [show zu (fun z=>zd4 m z.1 z.2) ([],0)=some (.inl ((m.Maps.take 104).map zzS)) from zi3 (by decide) (fun acc i x hx hi ha=>by
  show zd4 m acc (i:Int)=_
  unfold zd4
  rw [show (decide ((i:Int)<(m.Maps.length:Int))&&decide ((i:Int)<104))=true from more hx hi,zB,hx]
  simp only [Option.bind_some,cond_true]
  rw [show zel x.Locals 20=_ from ziC (n:=20) (by decide),show zel x.Stack 20=_ from ziC (n:=20) (by decide)]
  simp only [Option.bind_some]
  rw [zdw (by simp;omega) (by simp;omega)];rfl) (fun acc i h=>by
  show zd4 m acc (i:Int)=_
  unfold zd4
  rw [show (decide ((i:Int)<(m.Maps.length:Int))&&decide ((i:Int)<104))=false from h];rfl)]
 simp only [Option.bind_some]
 show zgO m _ _ _ _ _=_
 unfold zgO
 rw [show zu (fun z=>zd3 m z.1 z.2) ([],0)=some (.inl ((m.Traps.take 8).map zCD)) from zi3 (by decide) (fun acc i x hx hi ha=>by
  show zd3 m acc (i:Int)=_
  unfold zd3
  rw [show (decide ((i:Int)<(m.Traps.length:Int))&&decide ((i:Int)<8))=true from more hx hi,zB,hx]
  simp only [Option.bind_some,cond_true]
  rw [show zcQ x.C 10=_ from zeH (n:=10),Option.bind_some,zdw (by simp;omega) (by simp;omega)];rfl) (fun acc i h=>by
  show zd3 m acc (i:Int)=_
  unfold zd3
  rw [show (decide ((i:Int)<(m.Traps.length:Int))&&decide ((i:Int)<8))=false from h];rfl)]
 rfl
theorem ztd(c:zb):zmS c=some ((zzR c).Name,(zzR c).Super,(zzR c).Impl,(zzR c).Fields,(zzR c).Methods):=by
 unfold zmS
 rw [show zcQ c.Name 10=_ from zeH (n:=10),show zcQ c.Super 10=_ from zeH (n:=10),show zel c.Impl 6=_ from ziC (n:=6) (by decide)]
 simp only [Option.bind_some]
 rw [show zu (fun z=>zga c z.1 z.2) ([],0)=some (.inl ((c.Fields.take 10).map zCB)) from zi3 (by decide) (fun acc i x hx hi ha=>by
  show zga c acc (i:Int)=_
  unfold zga
  rw [show (decide ((i:Int)<(c.Fields.length:Int))&&decide ((i:Int)<10))=true from more hx hi,zB,hx]
  simp only [Option.bind_some,cond_true]
  rw [show zcQ x.Name 10=_ from zeH (n:=10),show zcQ x.Type_ 12=_ from zeH (n:=12)]
  simp only [Option.bind_some]
  rw [zdw (by simp;omega) (by simp;omega)];rfl) (fun acc i h=>by
  show zga c acc (i:Int)=_
  unfold zga
  rw [show (decide ((i:Int)<(c.Fields.length:Int))&&decide ((i:Int)<10))=false from h];rfl)]
 simp only [Option.bind_some]
 show ziZ c _ _ _ _=_
 unfold ziZ
 rw [show zu (fun z=>zf8 c z.1 z.2) ([],0)=some (.inl ((c.Methods.take 10).map zB7)) from zi3 (by decide) (fun acc i x hx hi ha=>by
  show zf8 c acc (i:Int)=_
  unfold zf8
  rw [show (decide ((i:Int)<(c.Methods.length:Int))&&decide ((i:Int)<10))=true from more hx hi,zB,hx]
  simp only [Option.bind_some,cond_true]
  rw [zpV,Option.bind_some,zdw (by simp;omega) (by simp;omega)];rfl) (fun acc i h=>by
  show zf8 c acc (i:Int)=_
  unfold zf8
  rw [show (decide ((i:Int)<(c.Methods.length:Int))&&decide ((i:Int)<10))=false from h];rfl)]
 rfl
theorem zsv{n:Int}(h:wI .i64 n):I64 n:=by
 have h:(Lit.int .i64 n).wf=true:=h
 unfold Lit.wf at h
 simp [IntKind.min,IntKind.max,IntKind.bits,IntKind.signed] at h
 exact ⟨by omega,by omega⟩
theorem FS.take(s:List UInt8){n:Nat}(hn:n≤100):FS (s.take n):=by unfold FS;rw [List.length_take];omega
theorem zrF{l:List (List UInt8)}{n:Nat}(hn:n≤100):FL FS (zz5 n l):=by
 refine ⟨by unfold zz5;rw [List.length_map,List.length_take];omega,fun x hx=>?_⟩
 obtain ⟨y,_,rfl⟩:=List.mem_map.1 hx
 exact FS.take y (by decide)
theorem zo4{α:Type}{Q:α→Prop}{l:List α}{f:α→α}{n:Nat}(hn:n≤200)(h:∀x∈l,Q (f x)):FL Q ((l.take n).map f):=by
 refine ⟨by rw [List.length_map,List.length_take];omega,fun x hx=>?_⟩
 obtain ⟨y,hy,rfl⟩:=List.mem_map.1 hx
 exact h y (List.mem_of_mem_take hy)
theorem zAM{m:zd}(h:znP m):zBz (zB7 m):=by
 obtain ⟨_,_,_,_,_,h1,h2,h3,h4,h5⟩:=h
 exact ⟨FS.take _ (by decide),zrF (by decide),FS.take _ (by decide),zsv h1,zsv h2,
  zo4 (by decide) fun x hx=>⟨zsv (h3.2 x hx).1,zsv (h3.2 x hx).2.1,FS.take _ (by decide),FS.take _ (by decide)⟩,
  zo4 (by decide) fun x hx=>⟨zsv (h4.2 x hx).1,zrF (by decide),zrF (by decide)⟩,
  zo4 (by decide) fun x hx=>⟨zsv (h5.2 x hx).1,zsv (h5.2 x hx).2.1,zsv (h5.2 x hx).2.2.1,FS.take _ (by decide)⟩⟩
theorem zA8{c:zb}(h:zjZ c):zm8 (zzR c):=by
 obtain ⟨_,_,_,_,_,h1⟩:=h
 exact ⟨FS.take _ (by decide),FS.take _ (by decide),zrF (by decide),zo4 (by decide) fun x hx=>⟨FS.take _ (by decide),FS.take _ (by decide)⟩,zo4 (by decide) fun x hx=>zAM (h1.2 x hx)⟩
def zCu(l:List zb):List zb:=(l.take 18).map zzR
theorem ztJ(l:List zb):zmY l=some (zCu l):=by
 unfold zmY
 rw [show zu (fun z=>zfU l z.1 z.2) ([],0)=some (.inl (zCu l)) from zi3 (by decide) (fun acc i x hx hi ha=>by
  show zfU l acc (i:Int)=_
  unfold zfU
  rw [show (decide ((i:Int)<(l.length:Int))&&decide ((i:Int)<18))=true from more hx hi,zB,hx]
  simp only [Option.bind_some,cond_true]
  rw [ztd,Option.bind_some,zdw (by simp;omega) (by simp;omega)];rfl) (fun acc i h=>by
  show zfU l acc (i:Int)=_
  unfold zfU
  rw [show (decide ((i:Int)<(l.length:Int))&&decide ((i:Int)<18))=false from h];rfl)]
 rfl
structure zBL(c:zb):Prop where
 fc:zm8 c
 name:c.Name.length≤10
 super:c.Super.length≤10
 impl:∀s∈c.Impl,s.length≤12
theorem zvK{c:zb}(h:zjZ c):zBL (zzR c):=by
 refine ⟨zA8 h,?_,?_,fun s hs=>?_⟩
 ·show (c.Name.take 10).length≤10;rw [List.length_take];omega
 ·show (c.Super.take 10).length≤10;rw [List.length_take];omega
 ·obtain ⟨y,_,rfl⟩:=List.mem_map.1 (show s∈(c.Impl.take 6).map (·.take 12) from hs)
  rw [List.length_take];omega
theorem zvI{l:List zb}(h:∀c∈l,zjZ c):∀c∈zCu l,zBL c:=fun c hc=>by
 obtain ⟨d,hd,rfl⟩:=List.mem_map.1 hc
 exact zvK (h d (List.mem_of_mem_take hd))
theorem zyH{α R:Type}{body:Int→Option (Sum Int (Sum Unit R))}{l:List α}
  (hb:∀(i:Nat) x,l[i]?=some x→body (i:Int)=some (.inl ((i+1:Nat):Int)))
  (he:body (l.length:Int)=some (.inr (.inl ()))):zu body 0=some (.inl ()):=by
 have:=zeO (body:=body) (l:=l) (g:=fun _=>none) (u:=()) (fun i x hx=>hb i x hx) he
 rw [this]
 have:l.findSome? (fun _=>(none:Option R))=none:=by
  induction l with
  |nil=>rfl
  |cons x l ih=>simp
 rw [this];rfl
section
variable {l L : List zb} {m : List (Tx × Int)}
end
section
variable {l L : List zb} {m : List (Tx × Int)}
theorem zBk:∀c∈giv,zm8 c:=by
 intro c hc
 have hg:giv.all (fun c=>decide (c.Name.length≤10)&&decide (c.Super.length≤10)&&(c.Impl == [])&&decide (c.Fields.length=0)&&decide (c.Methods.length=0))=true:=by decide +kernel
 have:=List.all_eq_true.1 hg c hc
 simp only [Bool.and_eq_true,decide_eq_true_eq,beq_iff_eq] at this
 obtain ⟨⟨⟨⟨h1,h2⟩,h3⟩,h4⟩,h5⟩:=this
 refine ⟨by unfold FS;omega,by unfold FS;omega,⟨by rw [h3];simp,fun s hs=>by rw [h3] at hs;cases hs⟩,⟨by omega,fun s hs=>?_⟩,⟨by omega,fun s hs=>?_⟩⟩
 ·rw [List.eq_nil_of_length_eq_zero h4] at hs;cases hs
 ·rw [List.eq_nil_of_length_eq_zero h5] at hs;cases hs
theorem zAF(h:zeW l L)(hs:∀c∈l,zm8 c):∀c∈L,zm8 c:=by
 intro c hc
 rw [h.app] at hc
 rcases List.mem_append.1 hc with e |e
 ·exact zBk c e
 ·exact hs c e
def zC:zb:=zb.mk [] [] false [] [] []
theorem ztV(hm:zdG L m)(n:Tx):zaP L m n=some (match cl L n with |some c=>(c,true) |none=>(zC,false)):=by
 show cond (!(zbQ L m n)) (some (zC,false)) ((zc0 L m n).bind fun v4=>some (v4,true))=_
 unfold zbQ
 rw [hm.has]
 cases hc:cl L n with
 |none=>rw [zmG hc];rfl
 |some c=>rw [zhl hc,zqG hm (zhl hc),hc];rfl
end
section
variable {l L : List zb} {m : List (Tx × Int)}
theorem Rc.trans{nx:Tx→List Tx}{a b c:Tx}(h:Rc nx a b)(k:Rc nx b c):Rc nx a c:=by
 induction h with
 |one h=>exact .more h k
 |more h _ ih=>exact .more h (ih k)
end
theorem zn4{α:Type}(p:α→Bool)(l:List α):idx l (ixF p 0 l)=l.find? p:=by
 rcases zoX p l 0 with ⟨j,x,h1,h2,h3,h4⟩ |⟨h1,h2⟩
 ·rw [h1,h4,zB,Nat.zero_add,h2]
 ·rw [h1,h2];rfl
theorem zlS{α:Type}(p:α→Bool)(l:List α):decide (0≤ixF p 0 l)=(l.find? p).isSome:=by
 rw [zg3,Bool.eq_iff_iff,List.any_eq_true,List.find?_isSome]
def zF:zt:=zt.mk [] [] false
def zM:zd:=zd.mk [] [] [] false false 0 0 [] [] []
abbrev FR:=List UInt8×zt×Bool
abbrev MR:=List UInt8×zd×Bool
def zyf(L:List zb)(n s:Tx):Option FR:=match cl L s with |some x=>(match x.Fields.find? (fun y=>y.Name == n) with |some f=>some (s,f,true) |none=>none) |none=>none
def zrb(L:List zb)(may:zd→Bool)(n s:Tx):Option MR:=match cl L s with |some x=>(match x.Methods.find? (fun y=>y.Name == n) with |some f=>cond (may f) (some (s,f,true)) none |none=>none) |none=>none
theorem ziP{R:Type}(o:Option R)(z:R):(some (zpo () o):Option (Sum Unit R)).bind (fun o=>zU o (fun _=>some z) some)=some (o.getD z):=by cases o <;> rfl
section
variable {l L : List zb} {m : List (Tx × Int)}
theorem zjM(hm:zdG L m)(n:Tx):zaP L m n=some (match cl L n with |some c=>(c,true) |none=>(zC,false)):=ztV hm n
def zsV(L:List zb):Prop:=∀c∈L,zj5 c.Fields∧zj5 c.Methods
theorem zA9(h:∀c∈L,zm8 c):zsV L:=fun c hc=>⟨(h c hc).fields.le,(h c hc).methods.le⟩
theorem zzo(h:zeW l L)(hm:zdG L m)(hL:zsV L)(c n:Tx):zhz L m c n=some (((zgP L c).findSome? (zyf L n)).getD ([],zF,false)):=by
 have h26:=zg2 h c
 unfold zhz
 rw [zlD h hm]
 simp only [Option.bind_some]
 rw [show zu (fun z=>zc8 L m n (zgP L c) z) 0=some (zpo () ((zgP L c).findSome? (zyf L n))) from zeO (fun i s hs=>by
  have hi:=(List.getElem?_eq_some_iff.1 hs).1
  obtain ⟨x,hx⟩:=zgz (zj9 h _ c s (List.mem_of_getElem? hs)).1
  show zc8 L m n (zgP L c) (i:Int)=_
  unfold zc8
  rw [zgj hs,zB,hs]
  simp only [cond_true,Option.bind_some]
  rw [zjM hm,hx]
  simp only [Option.bind_some]
  rw [zpR (hL x (zcU hx).1).1]
  simp only [Option.bind_some]
  rw [zlS,zn4,zay (by omega)]
  unfold zyf
  rw [hx]
  show _=some (zuc i (match x.Fields.find? (fun y=>y.Name == n) with |some f=>some (s,f,true) |none=>none))
  cases x.Fields.find? (fun y=>y.Name == n) <;> rfl) (by
  show zc8 L m n (zgP L c) ((zgP L c).length:Int)=_
  unfold zc8
  rw [zgY];rfl)]
 exact ziP _ _
theorem zrX(h:zeW l L)(hL:zsV L)(c n:Tx):zfX L c n=some (((zgP L c).findSome? (zyf L n)).getD ([],zF,false)):=by
 have h26:=zg2 h c
 have hl:=h.len
 unfold zfX
 rw [zhE h]
 simp only [Option.bind_some]
 rw [show zu (fun z=>zcp L n (zgP L c) z) 0=some (zpo () ((zgP L c).findSome? (zyf L n))) from zeO (fun i s hs=>by
  have hi:=(List.getElem?_eq_some_iff.1 hs).1
  obtain ⟨x,hx⟩:=zgz (zj9 h _ c s (List.mem_of_getElem? hs)).1
  show zcp L n (zgP L c) (i:Int)=_
  unfold zcp
  rw [zgj hs,zB,hs]
  simp only [cond_true,Option.bind_some]
  rw [zjQ (by omega)]
  simp only [Option.bind_some]
  rw [zmv hx]
  simp only [Option.bind_some]
  rw [zmZ (hL x (zcU hx).1).1]
  simp only [Option.bind_some]
  rw [zlS,zn4,zay (by omega)]
  unfold zyf
  rw [hx]
  show _=some (zuc i (match x.Fields.find? (fun y=>y.Name == n) with |some f=>some (s,f,true) |none=>none))
  cases x.Fields.find? (fun y=>y.Name == n) <;> rfl) (by
  show zcp L n (zgP L c) ((zgP L c).length:Int)=_
  unfold zcp
  rw [zgY];rfl)]
 exact ziP _ _
theorem ztU(h:zeW l L)(hm:zdG L m)(hL:zsV L){may:zd→Bool}{T:List Tx}(hT:T.length≤1000)(n:Tx){body:Int→Option (Sum Int (Sum Unit MR))}
  (hT2:∀s∈T,zc7 L s=true)
  (hb:∀(i:Nat) s x,T[i]?=some s→cl L s=some x→body (i:Int)=((zfW x n).bind fun v15=>(cond (decide (0≤v15)) ((idx x.Methods v15).bind fun v16=>some (may v16)) (some false)).bind fun v17=>cond v17 ((idx x.Methods v15).bind fun v18=>some (.inr (.inr (s,v18,true)))) (some (.inl (IntKind.i64.wrap ((i:Int)+1))))))
  (he:body (T.length:Int)=some (.inr (.inl ()))):zu body 0=some (zpo () (T.findSome? (zrb L may n))):=by
 refine zeO (fun i s hs=>?_) he
 have hi:=(List.getElem?_eq_some_iff.1 hs).1
 obtain ⟨x,hx⟩:=zgz (hT2 s (List.mem_of_getElem? hs))
 rw [hb i s x hs hx,zpA (hL x (zcU hx).1).2]
 simp only [Option.bind_some]
 rw [zlS,zn4,zay (by omega)]
 unfold zrb
 rw [hx]
 show _=some (zuc i (match x.Methods.find? (fun y=>y.Name == n) with |some f=>cond (may f) (some (s,f,true)) none |none=>none))
 cases x.Methods.find? (fun y=>y.Name == n) with
 |none=>rfl
 |some f =>
  simp only [Option.isSome_some,cond_true,Option.bind_some]
  cases may f <;> rfl
theorem zyA(h:zeW l L)(hm:zdG L m)(hL:zsV L){T:List Tx}(hT:T.length≤1000)(hT2:∀s∈T,zc7 L s=true)(n:Tx):zie L m T n=some ((T.findSome? (zrb L zcy n)).getD ([],zM,false)):=by
 unfold zie
 rw [show zu (fun z=>zdJ L m T n z) 0=some (zpo () (T.findSome? (zrb L zcy n))) from ztU h hm hL hT n hT2 (fun i s x hs hx=>by
  show zdJ L m T n (i:Int)=_
  unfold zdJ
  rw [zgj hs,zB,hs]
  simp only [cond_true,Option.bind_some]
  rw [zjM hm,hx];rfl) (by
  show zdJ L m T n (T.length:Int)=_
  unfold zdJ
  rw [zgY];rfl)]
 exact ziP _ _
theorem zyU(h:zeW l L)(hm:zdG L m)(hL:zsV L){T:List Tx}(hT:T.length≤1000)(hT2:∀s∈T,zc7 L s=true)(n:Tx):zii L m T n=some ((T.findSome? (zrb L ze7 n)).getD ([],zM,false)):=by
 unfold zii
 rw [show zu (fun z=>zdB L m T n z) 0=some (zpo () (T.findSome? (zrb L ze7 n))) from ztU h hm hL hT n hT2 (fun i s x hs hx=>by
  show zdB L m T n (i:Int)=_
  unfold zdB
  rw [zgj hs,zB,hs]
  simp only [cond_true,Option.bind_some]
  rw [zjM hm,hx];rfl) (by
  show zdB L m T n (T.length:Int)=_
  unfold zdB
  rw [zgY];rfl)]
 exact ziP _ _
theorem zsl(h:zeW l L)(c:Tx):∀s∈zgP L c,zc7 L s=true:=fun s hs=>(zj9 h _ c s hs).1
theorem zsq(h:zeW l L)(hm:zdG L m)(hL:zsV L)(c n:Tx):zgK L m c n=some (((zgP L c).findSome? (zrb L zcy n)).getD ([],zM,false)):=by
 have h26:=zg2 h c
 unfold zgK
 rw [zlD h hm]
 simp only [Option.bind_some]
 rw [zyA h hm hL (by omega) (zsl h c)];rfl
theorem zqZ(h:zeW l L)(hL:zsV L)(c n:Tx):zft L c n=some (((zgP L c).findSome? (zrb L zcy n)).getD ([],zM,false)):=by
 have h26:=zg2 h c
 have hl:=h.len
 unfold zft
 rw [zhE h]
 simp only [Option.bind_some]
 rw [show zu (fun z=>zca L n (zgP L c) z) 0=some (zpo () ((zgP L c).findSome? (zrb L zcy n))) from zeO (fun i s hs=>by
  have hi:=(List.getElem?_eq_some_iff.1 hs).1
  obtain ⟨x,hx⟩:=zgz (zsl h c s (List.mem_of_getElem? hs))
  show zca L n (zgP L c) (i:Int)=_
  unfold zca
  rw [zgj hs,zB,hs]
  simp only [cond_true,Option.bind_some]
  rw [zjQ (by omega)]
  simp only [Option.bind_some]
  rw [zmv hx]
  simp only [Option.bind_some]
  rw [zju (hL x (zcU hx).1).2]
  simp only [Option.bind_some]
  rw [zlS,zn4,zay (by omega)]
  unfold zrb
  rw [hx]
  show _=some (zuc i (match x.Methods.find? (fun y=>y.Name == n) with |some f=>cond (zcy f) (some (s,f,true)) none |none=>none))
  cases hf:x.Methods.find? (fun y=>y.Name == n) with
  |none=>rfl
  |some f =>
   have e:f.Name=n:=by have:=List.find?_some hf;simpa using this
   simp only [zcy,Option.isSome_some,Bool.true_and,Option.bind_some,e]
   cases (n == [36,105,110,105,116]) <;> rfl) (by
  show zca L n (zgP L c) ((zgP L c).length:Int)=_
  unfold zca
  rw [zgY];rfl)]
 exact ziP _ _
def zoD(L:List zb)(c n:Tx):MR:=cond (isF L c) (((c ::ze4 L c).findSome? (zrb L ze7 n)).getD ([],zM,false)) ([],zM,false)
theorem zxy{c:Tx}(h:isF L c=true):zc7 L c=true:=by
 unfold isF at h
 cases hc:cl L c with
 |none=>rw [hc] at h;cases h
 |some x=>exact zhl hc
theorem zAC(h:zeW l L)(hm:zdG L m)(hL:zsV L)(c n:Tx):zid L m c n=some (zoD L c n):=by
 have h52:=znw h c
 unfold zid zoD
 rw [zjM hm]
 have e:isF L c=(match cl L c with |some c=>(c,true) |none=>(zC,false)).1.Interface:=by
  unfold isF
  cases cl L c <;> rfl
 cases hF:isF L c with
 |false =>
  rw [hF] at e
  simp only [Option.bind_some]
  rw [←e];rfl
 |true =>
  rw [hF] at e
  simp only [Option.bind_some]
  rw [←e]
  simp only [Bool.not_true,cond_false]
  rw [zrU h hm]
  simp only [Option.bind_some]
  rw [zdw (by simp;omega) (by simp;omega)]
  simp only [Option.bind_some]
  rw [zyU h hm hL (by simp;omega) (fun s hs=>by
   rcases List.mem_cons.1 (show s∈c ::ze4 L c from hs) with e |e
   ·rw [e];exact zxy hF
   ·exact zm7 h e)]
  rfl
theorem zts(h:zeW l L)(hL:zsV L)(c n:Tx):zgL L c n=some (zoD L c n):=by
 have h52:=znw h c
 have hl:=h.len
 unfold zgL zoD
 rw [zjQ (by omega)]
 simp only [Option.bind_some]
 rw [zoj,zmW]
 have e:(cond (!zc7 L c) (some true) ((cl L c).bind fun v5=>some (!v5.Interface)))=some (!isF L c):=by
  unfold isF
  cases hc:cl L c with
  |none=>rw [zmG hc];rfl
  |some x=>rw [zhl hc];rfl
 rw [e]
 simp only [Option.bind_some]
 cases hF:isF L c with
 |false=>rfl
 |true =>
  simp only [Bool.not_true,cond_false,cond_true]
  rw [zom h]
  simp only [Option.bind_some]
  rw [zdw (by simp;omega) (by simp;omega)]
  simp only [Option.bind_some]
  rw [show zu (fun z=>zcI L n ([c]++ze4 L c) z) 0=some (zpo () ((c ::ze4 L c).findSome? (zrb L ze7 n))) from zeO (l:=c ::ze4 L c) (fun i s hs=>by
   have hi:=(List.getElem?_eq_some_iff.1 hs).1
   simp only [List.length_cons] at hi
   have hsh:zc7 L s=true:=by
    rcases List.mem_cons.1 (List.mem_of_getElem? hs) with e |e
    ·rw [e];exact zxy hF
    ·exact zm7 h e
   obtain ⟨x,hx⟩:=zgz hsh
   show zcI L n (c ::ze4 L c) (i:Int)=_
   unfold zcI
   rw [zgj hs,zB,hs]
   simp only [cond_true,Option.bind_some]
   rw [zjQ (by omega)]
   simp only [Option.bind_some]
   rw [zmv hx]
   simp only [Option.bind_some]
   rw [zju (hL x (zcU hx).1).2]
   simp only [Option.bind_some]
   rw [zlS,zn4,zay (by omega)]
   unfold zrb ze7
   rw [hx]
   show _=some (zuc i (match x.Methods.find? (fun y=>y.Name == n) with |some f=>cond true (some (s,f,true)) none |none=>none))
   cases x.Methods.find? (fun y=>y.Name == n) <;> rfl) (by
   show zcI L n (c ::ze4 L c) ((c ::ze4 L c).length:Int)=_
   unfold zcI
   rw [zgY];rfl)]
  exact ziP _ _
theorem zs6(h:zeW l L){x:zb}(hx:x∈L){f:zd}(hf:f∈x.Methods):f.Abstract=x.Interface:=by
 rw [h.app] at hx
 rcases List.mem_append.1 hx with e |e
 ·have hg:giv.all (fun c=>decide (c.Methods.length=0))=true:=by decide +kernel
  have:=of_decide_eq_true (List.all_eq_true.1 hg x e)
  rw [List.eq_nil_of_length_eq_zero this] at hf;cases hf
 ·have:=h.may x e
  unfold zqx at this
  simp only [Bool.and_eq_true,Bool.not_eq_true',decide_eq_true_eq] at this
  have h2:=zsu this.2.2.1 f hf
  rw [Bool.and_eq_true,beq_iff_eq] at h2
  exact h2.1
end
section
variable {l L : List zb} {m : List (Tx × Int)}
def zrH(L:List zb)(t:Tx):Bool:=((t == [78])||(t == [84]))||thN L t
def zxv(L:List zb)(t:Tx):Bool:=!(t == [73])&&thN L t
def zmd(L:List zb)(a b:Tx):Bool:=
 (zrH L a&&zrH L b)&&cond ((b == [84])||(a == b)) true (cond (a == [78]) (zxv L b) ((zxv L a&&zxv L b)&&(isF L b||ztK L a b)))
theorem zoJ(t:Tx):ztK L t t=thN L t:=by
 rw [ztl]
 simp
theorem zAx:zfH [78]=false:=by decide +kernel
theorem zBd:zfH [84]=false:=by decide +kernel
theorem zCG:thN L [78]=false:=by unfold thN;rw [zAx];rfl
theorem zCM:thN L [84]=false:=by unfold thN;rw [zBd];rfl
theorem znN(h:zeW l L)(hm:zdG L m){t:Tx}(ht:t.length≤25):zdv L m t=some (zrH L t):=by
 unfold zdv zrH
 rw [znZ h hm ht (by unfold Len;omega),zoJ]
 cases ((t == [78])||(t == [84])) <;> rfl
theorem zxR(h:zeW l L)(hm:zdG L m){t:Tx}(ht:t.length≤25):zfY L m t=some (zxv L t):=by
 unfold zfY zxv
 rw [znZ h hm ht (by unfold Len;omega),zoJ]
 cases (t == [73]) <;> rfl
theorem zx6(b:Tx):isF L b=(match cl L b with |some c=>(c,true) |none=>(zC,false)).1.Interface:=by
 unfold isF
 cases cl L b <;> rfl
theorem zoK(h:zeW l L)(hm:zdG L m){a b:Tx}(ha:a.length≤25)(hb:b.length≤25):zer L m a b=some (zmd L a b):=by
 unfold zer zmd
 rw [znN h hm ha,znN h hm hb,zxR h hm ha,zxR h hm hb,znZ h hm ha (by unfold Len;omega)]
 have e:zaP L m b=some (match cl L b with |some c=>(c,true) |none=>(zC,false)):=ztV hm b
 rw [e]
 simp only [Option.bind_some]
 rw [←zx6]
 cases zrH L a <;> cases zrH L b <;> cases ((b == [84])||(a == b)) <;> cases (a == [78]) <;> cases zxv L a <;> cases zxv L b <;> cases isF L b <;> rfl
theorem zkQ{a b:Tx}(h:a≠b):(a == b)=false:=beq_eq_false_iff_ne.2 h
theorem zxT(a b:Tx):zmd L a b=cond (b == [84]) (((a == [84])||(a == [78]))||thN L a) (cond (a == [78]) ((b == [78])||(!(b == [73])&&thN L b)) (cond (a == b) (thN L a)
  (cond (((a == [73])||(b == [73]))||!thN L a) false (cond (!thN L b) false (isF L b||ztK L a b))))):=by
 unfold zmd
 by_cases hbT:b=[84]
 ·subst hbT
  unfold zrH
  cases (a == [84]) <;> cases (a == [78]) <;> cases thN L a <;> simp
 ·rw [zkQ hbT]
  by_cases haN:a=[78]
  ·subst haN
   by_cases hbN:b=[78]
   ·subst hbN
    unfold zrH
    simp
   ·have e:(([78]:Tx) == b)=false:=zkQ (Ne.symm hbN)
    unfold zrH zxv
    rw [e,zkQ hbN,zkQ hbT,zCG]
    cases (b == [73]) <;> cases thN L b <;> simp
  ·rw [zkQ haN]
   by_cases hab:a=b
   ·subst hab
    unfold zrH
    rw [zkQ haN,zkQ hbT]
    cases thN L a <;> simp
   ·rw [zkQ hab]
    by_cases haT:a=[84]
    ·subst haT
     unfold zxv
     rw [zCM]
     simp
    ·by_cases hbN:b=[78]
     ·subst hbN
      unfold zxv
      rw [zCG]
      simp
     ·unfold zrH zxv
      rw [zkQ haN,zkQ haT,zkQ hbN,zkQ hbT]
      cases (a == [73]) <;> cases (b == [73]) <;> cases thN L a <;> cases thN L b <;> simp
theorem zhp(h:zeW l L){a b:Tx}(ha:a.length≤25)(hb:b.length≤25):zbM L a b=some (zmd L a b):=by
 have h26:=h.len
 rw [zxT]
 unfold zbM
 rw [zd5 h (by omega),zd5 h (by omega),zjQ (by omega),zqn h ha (by omega)]
 simp only [Option.bind_some]
 have e:(cond (decide (0≤atN L b)) ((idx L (atN L b)).bind fun v15=>some v15.Interface) (some false))=some (isF L b):=by
  rw [zo2,zmW]
  unfold isF
  cases hc:cl L b with
  |none=>rw [zmG hc];rfl
  |some c=>rw [zhl hc];rfl
 rw [e]
 simp only [Option.bind_some]
 cases (b == [84]) <;> cases (a == [84]) <;> cases (a == [78]) <;> cases (b == [78]) <;> cases (a == [73]) <;> cases (b == [73]) <;> cases (a == b) <;> cases thN L a <;> cases thN L b <;> cases isF L b <;> rfl
end
def ShL(l:List Tx):Prop:=l.length≤100∧∀t∈l,t.length≤25
theorem ShL.add{l:List Tx}{t:Tx}(h:l.length≤99∧∀t∈l,t.length≤25)(ht:t.length≤25):ShL (l++[t]):=
 ⟨by simp;omega,fun x hx=>by
  rcases List.mem_append.1 hx with h1 |h1
  ·exact h.2 x h1
  ·rw [List.mem_singleton.1 h1];exact ht⟩
theorem ShL.drop{l:List Tx}(h:ShL l):ShL l.dropLast:=⟨by rw [List.length_dropLast];have:=h.1;omega,fun x hx=>h.2 x (List.dropLast_subset l hx)⟩
def zb2(e:Tx)(s:List Tx)(b:Bool):Tx×List Tx×Bool:=match s.getLast? with |some t=>(t,s.dropLast,b) |none=>(e,s,true)
theorem zj7(e:Tx)(s:List Tx)(t:Tx)(b:Bool):zb2 e (s++[t]) b=(t,s,b):=by simp [zb2]
theorem zh3(s:List Tx):s=[]∨∃r t,s=r++[t]:=by
 rcases List.eq_nil_or_concat s with h |⟨r,t,h⟩
 ·exact .inl h
 ·exact .inr ⟨r,t,by simpa using h⟩
theorem zd0{e:Tx}{s:List Tx}{b:Bool}(h:ShL s)(he:e.length≤25):(zb2 e s b).1.length≤25∧ShL (zb2 e s b).2.1:=by
 rcases zh3 s with rfl |⟨r,t,rfl⟩
 ·exact ⟨he,h⟩
 ·rw [zj7]
  refine ⟨h.2 t (by simp),⟨?_,fun x hx=>h.2 x (by simp [hx])⟩⟩
  have:=h.1;simp at this;show r.length≤100;omega
theorem zg1{e:Tx}{s:List Tx}{b:Bool}(h:b=true):(zb2 e s b).2.2=true:=by
 unfold zb2;split <;> simp [h]
section
variable {l L : List zb} {m : List (Tx × Int)} {c : Tx} {mt : zd} {loc stk : List Tx} {b : Bool}
theorem zme(hs:stk.length≤1000):zaf L m c mt loc stk b=some (zb2 [84] stk b):=by
 unfold zaf
 rcases zh3 stk with rfl |⟨r,t,rfl⟩
 ·rfl
 ·have hl:((r++[t]).length:Int)=(r.length:Int)+1:=by simp
  have h0:(((r++[t]).length:Int) == 0)=false:=beq_eq_false_iff_ne.2 (by omega)
  have hw:IntKind.i64.wrap (((r++[t]).length:Int)-1)=(r.length:Int):=by
   rw [hl,zkZ (by omega) (by simp at hs;omega)];omega
  rw [h0,hw,zj7,zB]
  have h1:(r++[t])[r.length]?=some t:=by simp
  have h2:zj6 (r++[t]) 0 (r.length:Int)=some r:=by
   unfold zj6
   rw [if_pos ⟨by omega,by omega,by omega⟩]
   simp
  rw [h1,h2]
  rfl
theorem zeE{t:Tx}(hs:stk.length≤1000):zA L m c mt loc stk b t=some (stk++[t]):=by
 unfold zA zis
 rw [if_pos (by simp;omega)]
 rfl
theorem zrm{x:List Tx}(hs:x.length≤1000):znf x=some x:=by
 unfold znf zis
 rw [if_pos (by simp;omega)]
 rfl
def zah(L:List zb)(e:Tx):List Tx→List Tx→Bool→List Tx×Bool
 | [],s,b=>(s,b)
 |w ::r,s,b=>zah L e r (zb2 e s b).2.1 ((zb2 e s b).2.2||!zmd L (zb2 e s b).1 w)
theorem zd2{e:Tx}(he:e.length≤25):∀(ts s:List Tx) (b:Bool),ShL s→ShL (zah L e ts s b).1:=by
 intro ts
 induction ts with
 |nil=>intro s b h;exact h
 |cons w r ih=>intro s b h;exact ih _ _ (zd0 h he).2
theorem zbI{e:Tx}:∀(ts s:List Tx) (b:Bool),b=true→(zah L e ts s b).2=true:=by
 intro ts
 induction ts with
 |nil=>intro s b h;exact h
 |cons w r ih=>intro s b h;exact ih _ _ (by rw [zg1 h];rfl)
theorem zAf(h:zeW l L)(hm:zdG L m){ts:List Tx}(ht:ShL ts):∀(k:Nat),k≤ts.length→∀(s:List Tx) (b:Bool),ShL s →
  zu (fun z=>zap L m c mt loc ts z.1 z.2.1 z.2.2) (s,b,(k:Int)-1)=some (.inl (zah L [84] (ts.take k).reverse s b)):=by
 intro k
 induction k with
 |zero =>
  intro _ s b hs
  rw [zL]
  show (zap L m c mt loc ts s b (((0:Nat):Int)-1)).bind _=_
  unfold zap
  rw [decide_eq_false (by omega)]
  rfl
 |succ k ih =>
  intro hk s b hs
  rw [zL]
  show (zap L m c mt loc ts s b (((k+1:Nat):Int)-1)).bind _=_
  have e1:(((k+1:Nat):Int)-1)=(k:Int):=by omega
  have hlt:k<ts.length:=by omega
  obtain ⟨h1,h2⟩:=zd0 (b:=b) hs (e:=[84]) (by decide)
  have hw:IntKind.i64.wrap ((k:Int)-1)=(k:Int)-1:=zkZ (by omega) (by have:=ht.1;omega)
  have step:zap L m c mt loc ts s b (((k+1:Nat):Int)-1)=some (.inl ((zb2 [84] s b).2.1,(zb2 [84] s b).2.2||!zmd L (zb2 [84] s b).1 ts[k],(k:Int)-1)):=by
   unfold zap
   rw [e1,decide_eq_true (by omega),zB,List.getElem?_eq_getElem hlt,zme (by have:=hs.1;omega)]
   simp only [cond_true,Option.bind_some]
   rw [zoK h hm h1 (ht.2 _ (List.getElem_mem hlt)),hw]
   rfl
  rw [step]
  simp only [Option.bind_some,Sum.elim_inl]
  rw [show zu (fun z=>zap L m c mt loc ts z.1 z.2.1 z.2.2) ((zb2 [84] s b).2.1,(zb2 [84] s b).2.2||!zmd L (zb2 [84] s b).1 ts[k],(k:Int)-1)=_ from ih (by omega) _ _ h2]
  have e2:(ts.take (k+1)).reverse=ts[k]::(ts.take k).reverse:=by
   rw [List.take_add_one,List.getElem?_eq_getElem hlt];simp
  rw [e2]
  rfl
theorem zfk(h:zeW l L)(hm:zdG L m){ts:List Tx}(ht:ShL ts)(hs:ShL stk):zE L m c mt loc stk b ts=some (zah L [84] ts.reverse stk b):=by
 unfold zE
 have hw:IntKind.i64.wrap ((ts.length:Int)-1)=(ts.length:Int)-1:=zkZ (by omega) (by have:=ht.1;omega)
 rw [hw,show zu (fun z=>zap L m c mt loc ts z.1 z.2.1 z.2.2) (stk,b,(ts.length:Int)-1)=_ from zAf h hm ht ts.length (Nat.le_refl _) stk b hs,List.take_length]
 rfl
end
theorem sh1{t:Tx}(h:t.length≤25):ShL [t]:=⟨by simp,fun x hx=>by rw [List.mem_singleton.1 hx];exact h⟩
theorem sh2{t u:Tx}(h:t.length≤25)(k:u.length≤25):ShL [t,u]:=⟨by simp,fun x hx=>by
 rcases List.mem_cons.1 hx with rfl |hx
 ·exact h
 ·rw [List.mem_singleton.1 hx];exact k⟩
theorem sh3{t u v:Tx}(h:t.length≤25)(k:u.length≤25)(j:v.length≤25):ShL [t,u,v]:=⟨by simp,fun x hx=>by
 rcases List.mem_cons.1 hx with rfl |hx
 ·exact h
 ·exact (sh2 k j).2 x hx⟩
theorem ShL.len{l:List Tx}(h:ShL l):l.length≤1000:=by have:=h.1;omega
theorem ztI{t:Tx}(h:t.length≤25):Len t:=by
 show t.length≤9223372036854775807
 omega
section
variable {l L : List zb} {m : List (Tx × Int)} {c : Tx} {mt : zd} {loc stk : List Tx} {b : Bool}
def zhr(e:Tx)(s:List Tx)(b:Bool):Tx×List Tx×Bool:=
 ((zb2 e s b).1,(zb2 e s b).2.1,(zb2 e s b).2.2||!(((zb2 e s b).1 == [78])||zoH (zb2 e s b).1))
theorem zrA{e:Tx}{s:List Tx}{b:Bool}(h:ShL s)(he:e.length≤25):(zhr e s b).1.length≤25∧ShL (zhr e s b).2.1:=zd0 h he
theorem zqp(hs:ShL stk):zbP L m c mt loc stk b=some (zhr [84] stk b):=by
 unfold zbP zhr
 obtain ⟨h1,h2⟩:=zd0 (b:=b) hs (e:=[84]) (by decide)
 rw [zme hs.len]
 simp only [Option.bind_some]
 rw [zkt (ztI h1)]
 cases (zb2 [84] stk b).1 == [78] <;> rfl
def zkn(e:Tx)(s:List Tx)(b:Bool):Tx×List Tx×Bool:=
 (cond ((zb2 e s b).1 == [78]) (zb2 e s b).1 (zhT (zb2 e s b).1).1,(zb2 e s b).2.1,(zb2 e s b).2.2||!(((zb2 e s b).1 == [78])||((zhT (zb2 e s b).1).2&&!((zhT (zb2 e s b).1).1 == [73]))))
theorem zwr{t:Tx}(h:t.length≤25):(zhT t).1.length≤25:=by
 unfold zhT
 cases zfH t&&brk t
 ·exact Nat.zero_le _
 ·show (t.drop 1).length≤25
  simp;omega
theorem ztu{e:Tx}{s:List Tx}{b:Bool}(h:ShL s)(he:e.length≤25):(zkn e s b).1.length≤25∧ShL (zkn e s b).2.1:=by
 obtain ⟨h1,h2⟩:=zd0 (b:=b) h he
 refine ⟨?_,h2⟩
 unfold zkn
 cases (zb2 e s b).1 == [78]
 ·exact zwr h1
 ·exact h1
theorem zt9(hs:ShL stk):zc2 L m c mt loc stk b=some (zkn [84] stk b):=by
 unfold zc2 zkn
 obtain ⟨h1,h2⟩:=zd0 (b:=b) hs (e:=[84]) (by decide)
 rw [zme hs.len]
 simp only [Option.bind_some]
 rw [zhk (ztI h1)]
 cases (zb2 [84] stk b).1 == [78] <;> rfl
theorem zjS(e f:Tx)(s:List Tx)(b:Bool):(zb2 e s b).2=(zb2 f s b).2:=by
 unfold zb2;split <;> rfl
theorem zeM(e f:Tx)(s:List Tx)(b:Bool)(h:(zb2 e s b).2.2=false):(zb2 e s b).1=(zb2 f s b).1:=by
 unfold zb2 at h ⊢
 split
 ·rfl
 ·rename_i hq;rw [hq] at h;cases h
theorem zpj{a p q:Bool}(h:a=false→p=q):(a||p)=(a||q):=by
 cases a
 ·rw [h rfl]
 ·rfl
theorem zeF(e f:Tx):∀(ts s:List Tx) (b:Bool),zah L e ts s b=zah L f ts s b:=by
 intro ts
 induction ts with
 |nil=>intro s b;rfl
 |cons w r ih =>
  intro s b
  show zah L e r (zb2 e s b).2.1 ((zb2 e s b).2.2||!zmd L (zb2 e s b).1 w)=zah L f r (zb2 f s b).2.1 ((zb2 f s b).2.2||!zmd L (zb2 f s b).1 w)
  rw [ih,←zjS e f s b,zpj (fun h=>by rw [zeM e f s b h])]
theorem zzT(e f:Tx)(s:List Tx)(b:Bool):(zhr e s b).2=(zhr f s b).2:=by
 unfold zhr
 rw [←zjS e f s b,zpj (fun h=>by rw [zeM e f s b h])]
theorem zvF(e f:Tx)(s:List Tx)(b:Bool)(h:(zhr e s b).2.2=false):(zhr e s b).1=(zhr f s b).1:=
 zeM e f s b (by unfold zhr at h;simp only [Bool.or_eq_false_iff] at h;exact h.1)
theorem zzz(e f:Tx)(s:List Tx)(b:Bool):(zkn e s b).2=(zkn f s b).2:=by
 unfold zkn
 rw [←zjS e f s b,zpj (fun h=>by rw [zeM e f s b h])]
theorem zu3(e f:Tx)(s:List Tx)(b:Bool)(h:(zkn e s b).2.2=false):(zkn e s b).1=(zkn f s b).1:=by
 have h1:(zb2 e s b).2.2=false:=by unfold zkn at h;simp only [Bool.or_eq_false_iff] at h;exact h.1
 unfold zkn
 rw [zeM e f s b h1]
end
section
variable {l L : List zb} {c : Tx} {mt : zd} {loc stk : List Tx} {b : Bool}
theorem ziW(hs:stk.length≤1000):zav L c mt loc stk b=some (zb2 [78] stk b):=by
 unfold zav
 rcases zh3 stk with rfl |⟨r,t,rfl⟩
 ·rfl
 ·have hl:((r++[t]).length:Int)=(r.length:Int)+1:=by simp
  have h0:(((r++[t]).length:Int) == 0)=false:=beq_eq_false_iff_ne.2 (by omega)
  have hw:IntKind.i64.wrap (((r++[t]).length:Int)-1)=(r.length:Int):=by
   rw [hl,zkZ (by omega) (by simp at hs;omega)];omega
  rw [h0,hw,zj7,zB]
  have h1:(r++[t])[r.length]?=some t:=by simp
  have h2:zj6 (r++[t]) 0 (r.length:Int)=some r:=by
   unfold zj6
   rw [if_pos ⟨by omega,by omega,by omega⟩]
   simp
  rw [h1,h2]
  rfl
theorem zyE(h:zeW l L){ts:List Tx}(ht:ShL ts):∀(k:Nat),k≤ts.length→∀(s:List Tx) (b:Bool),ShL s →
  zu (fun z=>zaF L c mt loc ts z.1 z.2.1 z.2.2) (s,b,(k:Int)-1)=some (.inl (zah L [78] (ts.take k).reverse s b)):=by
 intro k
 induction k with
 |zero =>
  intro _ s b hs
  rw [zL]
  show (zaF L c mt loc ts s b (((0:Nat):Int)-1)).bind _=_
  unfold zaF
  rw [decide_eq_false (by omega)]
  rfl
 |succ k ih =>
  intro hk s b hs
  rw [zL]
  show (zaF L c mt loc ts s b (((k+1:Nat):Int)-1)).bind _=_
  have e1:(((k+1:Nat):Int)-1)=(k:Int):=by omega
  have hlt:k<ts.length:=by omega
  obtain ⟨h1,h2⟩:=zd0 (b:=b) hs (e:=[78]) (by decide)
  have hw:IntKind.i64.wrap ((k:Int)-1)=(k:Int)-1:=zkZ (by omega) (by have:=ht.1;omega)
  have step:zaF L c mt loc ts s b (((k+1:Nat):Int)-1)=some (.inl ((zb2 [78] s b).2.1,(zb2 [78] s b).2.2||!zmd L (zb2 [78] s b).1 ts[k],(k:Int)-1)):=by
   unfold zaF
   rw [e1,decide_eq_true (by omega),zB,List.getElem?_eq_getElem hlt,ziW hs.len]
   simp only [cond_true,Option.bind_some]
   rw [zhp h h1 (ht.2 _ (List.getElem_mem hlt)),hw]
   rfl
  rw [step]
  simp only [Option.bind_some,Sum.elim_inl]
  rw [show zu (fun z=>zaF L c mt loc ts z.1 z.2.1 z.2.2) ((zb2 [78] s b).2.1,(zb2 [78] s b).2.2||!zmd L (zb2 [78] s b).1 ts[k],(k:Int)-1)=_ from ih (by omega) _ _ h2]
  have e2:(ts.take (k+1)).reverse=ts[k]::(ts.take k).reverse:=by
   rw [List.take_add_one,List.getElem?_eq_getElem hlt];simp
  rw [e2]
  rfl
theorem zeh(h:zeW l L){ts:List Tx}(ht:ShL ts)(hs:ShL stk):zS L c mt loc stk b ts=some (zah L [78] ts.reverse stk b):=by
 unfold zS
 have hw:IntKind.i64.wrap ((ts.length:Int)-1)=(ts.length:Int)-1:=zkZ (by omega) (by have:=ht.1;omega)
 rw [hw,show zu (fun z=>zaF L c mt loc ts z.1 z.2.1 z.2.2) (stk,b,(ts.length:Int)-1)=_ from zyE h ht ts.length (Nat.le_refl _) stk b hs,List.take_length]
 rfl
def zoq(most:Int)(s:List Tx)(b:Bool)(t:Tx):List Tx×Bool:=(s++[t],b||!decide (((s++[t]).length:Int)≤most))
theorem zeG{t:Tx}(hs:stk.length≤1000):zO L c mt loc stk b t=some (zoq mt.Stack stk b t):=by
 unfold zO zoq zis
 rw [if_pos (by simp;omega)]
 simp only [List.nil_append,Option.bind_some]
 rw [if_pos (by simp;omega)]
 rfl
def zmD(s:List Tx)(b:Bool):Tx×List Tx×Bool:=((zb2 [78] s b).1,(zb2 [78] s b).2.1,(zb2 [78] s b).2.2||!(!((zb2 [78] s b).1 == [73])))
theorem zmN(hs:ShL stk):zbJ L c mt loc stk b=some (zmD stk b):=by
 unfold zbJ
 rw [ziW hs.len]
 rfl
theorem zxr{p q:List Tx}(hp:p.length≤1000)(hq:q.length≤1000):zec (zhM.mk p q)=some (p,q):=by
 unfold zec zis
 simp only
 rw [if_pos (by simp;omega),if_pos (by simp;omega)]
 rfl
end
def znI(most:Int)(p r:List Tx×List Tx×Bool):Prop:=
 (p.2.2||!decide ((p.2.1.length:Int)≤most))=r.2.2∧(r.2.2=false→p.1=r.1∧p.2.1=r.2.1)
section
variable {L : List zb} {most : Int} {loc s : List Tx} {b : Bool}
theorem zex(t:Tx):znI most (loc,s++[t],b) (loc,(zoq most s b t).1,(zoq most s b t).2):=⟨rfl,fun _=>⟨rfl,rfl⟩⟩
theorem zsp(t u:Tx):znI most (loc,s++[t]++[u],b) (loc,(zoq most (zoq most s b t).1 (zoq most s b t).2 u).1,(zoq most (zoq most s b t).1 (zoq most s b t).2 u).2):=by
 refine ⟨?_,fun _=>⟨rfl,rfl⟩⟩
 show (b||!decide (((s++[t]++[u]).length:Int)≤most))=((b||!decide (((s++[t]).length:Int)≤most))||!decide (((s++[t]++[u]).length:Int)≤most))
 by_cases h:((s++[t]++[u]).length:Int)≤most
 ·have h2:((s++[t]).length:Int)≤most:=by simp at h ⊢;omega
  rw [decide_eq_true h,decide_eq_true h2];simp
 ·rw [decide_eq_false h];simp
theorem zeV(h:b=false→(s.length:Int)≤most):znI most (loc,s,b) (loc,s,b):=by
 refine ⟨?_,fun _=>⟨rfl,rfl⟩⟩
 show (b||!decide ((s.length:Int)≤most))=b
 cases b with
 |true=>rfl
 |false=>rw [decide_eq_true (h rfl)];rfl
theorem zfK{p r:List Tx×List Tx×Bool}(hp:p.2.2=true)(hr:r.2.2=true):znI most p r:=
 ⟨by rw [hp,hr];rfl,fun h=>by rw [hr] at h;cases h⟩
theorem zo9(e:Tx)(s:List Tx)(b:Bool):(zb2 e s b).2.1.length≤s.length:=by
 rcases zh3 s with rfl |⟨r,t,rfl⟩
 ·exact Nat.le_refl _
 ·rw [zj7];simp
theorem zjn(e:Tx):∀(ts s:List Tx) (b:Bool),(zah L e ts s b).1.length≤s.length:=by
 intro ts
 induction ts with
 |nil=>intro s b;exact Nat.le_refl _
 |cons w r ih=>intro s b;exact Nat.le_trans (ih _ _) (zo9 e s b)
theorem zxS(e w w':Tx)(s:List Tx)(b:Bool):zah L e [w,w'] s b=zah L e [w'] (zah L e [w] s b).1 (zah L e [w] s b).2:=rfl
end
def onS(t:Tx):Prop:=t=[78]∨zfH t=true
theorem znm{s:List Tx}{b:Bool}(h:∀t∈s,onS t):(zmD s b).2=(zhr [84] s b).2∧((zmD s b).2.2=false→(zmD s b).1=(zhr [84] s b).1):=by
 have key:(zmD s b).2=(zhr [78] s b).2:=by
  unfold zmD zhr
  rcases zh3 s with rfl |⟨r,t,rfl⟩
  ·rfl
  ·rw [zj7]
   have ht:=h t (by simp)
   show (r,b||!(!(t == [73])))=(r,b||!((t == [78])||zoH t))
   rcases ht with rfl |ht
   ·rfl
   ·unfold zoH
    rw [ht]
    have:(t == [78])=false:=beq_eq_false_iff_ne.2 fun e=>by rw [e,zAx] at ht;cases ht
    rw [this]
    cases t == [73] <;> rfl
 refine ⟨key.trans (zzT [78] [84] s b),fun hf=>?_⟩
 have:(zmD s b).2.2=(zhr [84] s b).2.2:=by rw [key,zzT [78] [84] s b]
 rw [this] at hf
 exact (zvF [84] [78] s b hf).symm
def zyN(t:Tx):Prop:=t.length≤25∧onS t
theorem zly:zyN [73]:=⟨by decide,.inr (by decide +kernel)⟩
theorem zyu:zyN [78]:=⟨by decide,.inl rfl⟩
theorem zu8{t:Tx}(h:zfH t=true)(hl:t.length≤25):zyN t:=⟨hl,.inr h⟩
def zl8(loc stk:List Tx)(b:Bool)(p:List Tx×List Tx×Bool):Prop:=
 (b=true→p.2.2=true) ∧
 (p.1.length=loc.length∧p.2.1.length≤stk.length+2∧(∀t∈p.1,t.length≤25)∧∀t∈p.2.1,t.length≤25) ∧
 (p.2.2=false→(∀t∈p.2.1,t∈stk∨zyN t)∧∀t∈p.1,t∈loc∨t∈stk)
theorem zgX(e:Tx)(s:List Tx)(b:Bool):(zb2 e s b).2.1<+:s:=by
 rcases zh3 s with rfl |⟨r,t,rfl⟩
 ·exact List.prefix_refl _
 ·rw [zj7];exact List.prefix_append _ _
theorem zlj{e:Tx}{s:List Tx}{b:Bool}(h:(zb2 e s b).2.2=false):(zb2 e s b).1∈s:=by
 rcases zh3 s with rfl |⟨r,t,rfl⟩
 ·cases h
 ·rw [zj7];simp
theorem zj8(e:Tx)(s:List Tx)(b:Bool):(zhr e s b).2.1<+:s:=zgX e s b
theorem zuC(e:Tx)(s:List Tx)(b:Bool):(zkn e s b).2.1<+:s:=zgX e s b
theorem zl0{e:Tx}{s:List Tx}{b:Bool}(h:b=true):(zhr e s b).2.2=true:=by unfold zhr;rw [zg1 h];rfl
theorem zt4{e:Tx}{s:List Tx}{b:Bool}(h:b=true):(zkn e s b).2.2=true:=by unfold zkn;rw [zg1 h];rfl
theorem zdK(L:List zb)(e:Tx):∀(ts s:List Tx) (b:Bool),(zah L e ts s b).1<+:s:=by
 intro ts
 induction ts with
 |nil=>intro s b;exact List.prefix_refl _
 |cons w r ih=>intro s b;exact (ih _ _).trans (zgX e s b)
section
variable {L : List zb} {loc stk s : List Tx} {b0 b : Bool}
theorem zeT(hb0:b0=true→b=true)(hl:ShL loc)(hs:ShL stk)(h:s<+:stk):zl8 loc stk b0 (loc,s,b):=
 ⟨hb0,⟨rfl,by have:=h.length_le;show s.length≤_;omega,hl.2,fun t ht=>hs.2 t (h.subset ht)⟩,fun _=>⟨fun t ht=>.inl (h.subset ht),fun t ht=>.inl ht⟩⟩
theorem zeg{u:Tx}(hb0:b0=true→b=true)(hl:ShL loc)(hs:ShL stk)(h:s<+:stk)(h1:u.length≤25)(hu:b=false→u∈stk∨zyN u):zl8 loc stk b0 (loc,s++[u],b):=
 ⟨hb0,⟨rfl,by have:=h.length_le;show (s++[u]).length≤_;simp;omega,hl.2,fun t ht=>by
  rcases List.mem_append.1 ht with k |k
  ·exact hs.2 t (h.subset k)
  ·rw [List.mem_singleton.1 k];exact h1⟩,fun hb=>⟨fun t ht=>by
  rcases List.mem_append.1 ht with k |k
  ·exact .inl (h.subset k)
  ·rw [List.mem_singleton.1 k];exact hu hb,fun t ht=>.inl ht⟩⟩
theorem zsa{u v:Tx}(hb0:b0=true→b=true)(hl:ShL loc)(hs:ShL stk)(h:s<+:stk)(h1:u.length≤25)(hu:b=false→u∈stk∨zyN u)(h2:v.length≤25)(hv:b=false→v∈stk∨zyN v):zl8 loc stk b0 (loc,s++[u]++[v],b):=
 ⟨hb0,⟨rfl,by have:=h.length_le;show (s++[u]++[v]).length≤_;simp;omega,hl.2,fun t ht=>by
  rcases List.mem_append.1 ht with k |k
  ·rcases List.mem_append.1 k with k |k
   ·exact hs.2 t (h.subset k)
   ·rw [List.mem_singleton.1 k];exact h1
  ·rw [List.mem_singleton.1 k];exact h2⟩,fun hb=>⟨fun t ht=>by
  rcases List.mem_append.1 ht with k |k
  ·rcases List.mem_append.1 k with k |k
   ·exact .inl (h.subset k)
   ·rw [List.mem_singleton.1 k];exact hu hb
  ·rw [List.mem_singleton.1 k];exact hv hb,fun t ht=>.inl ht⟩⟩
theorem zqH{k:Nat}{u:Tx}(hb0:b0=true→b=true)(hl:ShL loc)(hs:ShL stk)(h:s<+:stk)(h1:u.length≤25)(hu:b=false→u∈stk):zl8 loc stk b0 (loc.set k u,s,b):=
 ⟨hb0,⟨List.length_set ..,by have:=h.length_le;show s.length≤_;omega,fun t ht=>by
  rcases List.mem_or_eq_of_mem_set ht with k |rfl
  ·exact hl.2 t k
  ·exact h1,fun t ht=>hs.2 t (h.subset ht)⟩,fun hb=>⟨fun t ht=>.inl (h.subset ht),fun t ht=>by
  rcases List.mem_or_eq_of_mem_set ht with k |rfl
  ·exact .inl k
  ·exact .inr (hu hb)⟩⟩
end
theorem bt{n a b:Int}(h:a≤n∧n≤b):zaK n a b=true:=by
 unfold zaK;rw [decide_eq_true h.1,decide_eq_true h.2];rfl
theorem bf{n a b:Int}(h:¬(a≤n∧n≤b)):zaK n a b=false:=by
 unfold zaK
 rw [Bool.and_eq_false_iff,decide_eq_false_iff_not,decide_eq_false_iff_not];omega
theorem ct{n a b:Int}(h:a≤n∧n≤b):(decide (a≤n)&&decide (n≤b))=true:=bt h
theorem cf{n a b:Int}(h:¬(a≤n∧n≤b)):(decide (a≤n)&&decide (n≤b))=false:=bf h
theorem qt{n k:Int}(h:n=k):(n == k)=true:=by rw [h];exact beq_self_eq_true k
theorem qf{n k:Int}(h:n≠k):(n == k)=false:=beq_eq_false_iff_ne.2 h
structure zeN(l L:List zb)(m:List (Tx×Int))(mt:zd)(loc stk:List Tx)(b:Bool):Prop where
 made:zeW l L
 map:zdG L m
 lens:zsV L
 shL:ShL loc
 shS:ShL stk
 on:∀t∈stk,onS t
 room:(stk.length:Int)≤mt.Stack
 onL:∀t∈loc,t=[84]∨onS t
section
variable {l L : List zb} {m : List (Tx × Int)} {c : Tx} {mt : zd} {loc stk : List Tx} {b : Bool} {x : zH}
theorem zvS(h:zeN l L m mt loc stk b)(ho:8≤x.Op∧x.Op≤19):
  ∃p r,zk L m c mt loc stk b x=some p∧zm L c mt loc stk b x=some r∧znI mt.Stack p r∧zl8 loc stk b p:=by
 have h73:([73]:Tx).length≤25:=by decide
 by_cases hn:x.Op=13
 ·refine ⟨(loc,(zah L [84] [[73]] stk b).1++[[73]],(zah L [84] [[73]] stk b).2),_,?_,?_,zex _,zeg (zbI _ _ _) h.shL h.shS (zdK _ _ _ _ _) (by decide) fun _=>.inr zly⟩
  ·unfold zk
   rw [bf (by omega),qt hn,zfk h.made h.map (sh1 h73) h.shS]
   simp only [cond_false,cond_true,Option.bind_some,List.reverse_singleton]
   rw [zeE (zd2 (by decide) _ _ _ h.shS).len]
   rfl
  ·unfold zm
   rw [ct ho,zeh h.made (sh1 h73) h.shS,qt hn]
   simp only [cond_false,cond_true,Option.bind_some,List.reverse_singleton,Bool.not_true]
   unfold zce
   rw [zeG (zd2 (by decide) _ _ _ h.shS).len,zeF [78] [84]]
   rfl
 ·refine ⟨(loc,(zah L [84] [[73],[73]] stk b).1++[[73]],(zah L [84] [[73],[73]] stk b).2),_,?_,?_,zex _,zeg (zbI _ _ _) h.shL h.shS (zdK _ _ _ _ _) (by decide) fun _=>.inr zly⟩
  ·unfold zk
   rw [bf (by omega),qf hn,bt ho,zfk h.made h.map (sh2 h73 h73) h.shS]
   simp only [cond_false,cond_true,Option.bind_some]
   rw [show ([[73],[73]]:List Tx).reverse=[[73],[73]] from rfl,zeE (zd2 (by decide) _ _ _ h.shS).len]
   rfl
  ·unfold zm
   have hs:=zd2 (L:=L) (e:=[78]) (by decide) [[73]] stk b h.shS
   rw [ct ho,zeh h.made (sh1 h73) h.shS,qf hn]
   simp only [cond_false,cond_true,Option.bind_some,List.reverse_singleton,Bool.not_false]
   rw [zeh h.made (sh1 h73) hs]
   simp only [Option.bind_some,List.reverse_singleton]
   unfold zce
   rw [zeG (zd2 (by decide) _ _ _ hs).len]
   rw [←zxS,zeF [78] [84]]
   rfl
theorem instr_plain(h1:¬(8≤x.Op∧x.Op≤45))(h2:¬(49≤x.Op∧x.Op≤55)):zm L c mt loc stk b x=(zQ L c mt loc stk b x).bind fun v=>some (v.1,v.2.1,v.2.2):=by
 unfold zm
 rw [cf (by omega),cf (by omega),qf (show x.Op≠20 by omega),cf (by omega),cf (by omega),cf (by omega)]
 rfl
theorem zkq(h:1≤x.Op∧x.Op≤7):zk L m c mt loc stk b x=(zaT L m c mt loc stk b x).bind fun v=>some (v.1,v.2.1,v.2.2):=by
 unfold zk
 rw [bt h]
 rfl
theorem zmX(h:56≤x.Op∧x.Op≤61):zk L m c mt loc stk b x=(zbC L m c mt loc stk b x).bind fun v=>some (loc,v.1,v.2):=by
 unfold zk
 rw [bf (by omega),qf (by omega),bf (by omega),qf (by omega),bf (by omega),bf (by omega),bf (by omega),bf (by omega),qf (by omega),bf (by omega),bf (by omega),bf (by omega),bf (by omega)]
 rfl
theorem zvy(h:zeN l L m mt loc stk b)(ho:x.Op=1∨x.Op=2):
  ∃p r,zk L m c mt loc stk b x=some p∧zm L c mt loc stk b x=some r∧znI mt.Stack p r∧zl8 loc stk b p:=by
 rcases ho with ho |ho
 ·refine ⟨(loc,stk++[[73]],b),_,?_,?_,zex _,zeg id h.shL h.shS (List.prefix_refl _) (by decide) fun _=>.inr zly⟩
  ·rw [zkq (by omega)]
   unfold zaT
   rw [qt ho,zeE h.shS.len]
   rfl
  ·rw [instr_plain (by omega) (by omega)]
   unfold zQ
   rw [qt ho,zeG h.shS.len]
   rfl
 ·refine ⟨(loc,stk++[[78]],b),_,?_,?_,zex _,zeg id h.shL h.shS (List.prefix_refl _) (by decide) fun _=>.inr zyu⟩
  ·rw [zkq (by omega)]
   unfold zaT
   rw [qf (show x.Op≠1 by omega),qt ho]
   simp only [cond_false,cond_true]
   rw [zeE h.shS.len]
   rfl
  ·rw [instr_plain (by omega) (by omega)]
   unfold zQ
   rw [qf (show x.Op≠1 by omega),qt ho]
   simp only [cond_false,cond_true]
   rw [zeG h.shS.len]
   rfl
theorem zyh(h:zeN l L m mt loc stk b)(ho:x.Op=5):
  ∃p r,zk L m c mt loc stk b x=some p∧zm L c mt loc stk b x=some r∧znI mt.Stack p r∧zl8 loc stk b p:=by
 obtain ⟨g1,g2⟩:=zd0 (b:=b) h.shS (e:=[84]) (by decide)
 obtain ⟨k1,k2⟩:=zd0 (b:=b) h.shS (e:=[78]) (by decide)
 ·refine ⟨(loc,(zb2 [84] stk b).2.1,(zb2 [84] stk b).2.2),(loc,(zb2 [84] stk b).2.1,(zb2 [84] stk b).2.2),?_,?_,zeV fun _=>?_,zeT zg1 h.shL h.shS (zgX _ _ _)⟩
  ·rw [zkq (by omega)]
   unfold zaT
   rw [qf (show x.Op≠1 by omega),qf (show x.Op≠2 by omega),qf (show x.Op≠3 by omega),qf (show x.Op≠4 by omega),qt ho]
   simp only [cond_false,cond_true]
   rw [zme h.shS.len]
   rfl
  ·rw [instr_plain (by omega) (by omega)]
   unfold zQ
   rw [qf (show x.Op≠1 by omega),qf (show x.Op≠2 by omega),qf (show x.Op≠3 by omega),qf (show x.Op≠4 by omega),qt ho]
   simp only [cond_false,cond_true]
   rw [ziW h.shS.len,zjS [84] [78]]
   rfl
  ·have:=zo9 [84] stk b
   have:=h.room
   omega
end
section
variable {l L : List zb} {m : List (Tx × Int)} {c : Tx} {mt : zd} {loc stk : List Tx} {b : Bool} {x : zH}
theorem znC{most:Int}{s:List Tx}{b:Bool}{t:Tx}(h:b=true):(zoq most s b t).2=true:=by
 unfold zoq;rw [h];rfl
theorem zzh(h:zeN l L m mt loc stk b)(ho:x.Op=6):
  ∃p r,zk L m c mt loc stk b x=some p∧zm L c mt loc stk b x=some r∧znI mt.Stack p r∧zl8 loc stk b p:=by
 obtain ⟨g1,g2⟩:=zd0 (b:=b) h.shS (e:=[84]) (by decide)
 obtain ⟨k1,k2⟩:=zd0 (b:=b) h.shS (e:=[78]) (by decide)
 refine ⟨(loc,(zb2 [84] stk b).2.1++[(zb2 [84] stk b).1]++[(zb2 [84] stk b).1],(zb2 [84] stk b).2.2),
  (loc,(zoq mt.Stack (zoq mt.Stack (zb2 [78] stk b).2.1 (zb2 [78] stk b).2.2 (zb2 [78] stk b).1).1 (zoq mt.Stack (zb2 [78] stk b).2.1 (zb2 [78] stk b).2.2 (zb2 [78] stk b).1).2 (zb2 [78] stk b).1).1,
   (zoq mt.Stack (zoq mt.Stack (zb2 [78] stk b).2.1 (zb2 [78] stk b).2.2 (zb2 [78] stk b).1).1 (zoq mt.Stack (zb2 [78] stk b).2.1 (zb2 [78] stk b).2.2 (zb2 [78] stk b).1).2 (zb2 [78] stk b).1).2),?_,?_,?_,zsa zg1 h.shL h.shS (zgX _ _ _) g1 (fun hb=>.inl (zlj hb)) g1 fun hb=>.inl (zlj hb)⟩
 ·rw [zkq (by omega)]
  unfold zaT
  rw [qf (show x.Op≠1 by omega),qf (show x.Op≠2 by omega),qf (show x.Op≠3 by omega),qf (show x.Op≠4 by omega),qf (show x.Op≠5 by omega),qt ho]
  simp only [cond_false,cond_true]
  rw [zme h.shS.len]
  simp only [Option.bind_some]
  rw [zeE g2.len]
  simp only [Option.bind_some]
  rw [zeE (by have:=g2.1;simp;omega)]
  rfl
 ·rw [instr_plain (by omega) (by omega)]
  unfold zQ
  rw [qf (show x.Op≠1 by omega),qf (show x.Op≠2 by omega),qf (show x.Op≠3 by omega),qf (show x.Op≠4 by omega),qf (show x.Op≠5 by omega),qt ho]
  simp only [cond_false,cond_true]
  rw [ziW h.shS.len]
  simp only [Option.bind_some]
  rw [zeG k2.len]
  simp only [Option.bind_some]
  rw [zeG (by have:=k2.1;show ((zb2 [78] stk b).2.1++[(zb2 [78] stk b).1]).length≤1000;simp;omega)]
  rfl
 ·cases hb:(zb2 [84] stk b).2.2 with
  |true =>
   refine zfK rfl ?_
   have:(zb2 [78] stk b).2.2=true:=by rw [←zjS [84] [78]];exact hb
   exact znC (znC this)
  |false =>
   have e1:=zeM [84] [78] stk b hb
   have e2:=zjS [84] [78] stk b
   rw [←e1,←e2,hb]
   exact zsp _ _
theorem ztZ{e:Tx}{s:List Tx}{b:Bool}(h:(zb2 e s b).2.2=false):b=false:=by
 cases b with
 |false=>rfl
 |true=>rw [zg1 rfl] at h;cases h
theorem zya(h:zeN l L m mt loc stk b)(ho:x.Op=7):
  ∃p r,zk L m c mt loc stk b x=some p∧zm L c mt loc stk b x=some r∧znI mt.Stack p r∧zl8 loc stk b p:=by
 obtain ⟨g1,g2⟩:=zd0 (b:=b) h.shS (e:=[84]) (by decide)
 obtain ⟨k1,k2⟩:=zd0 (b:=b) h.shS (e:=[78]) (by decide)
 generalize hP:zb2 [84] stk b=P at g1 g2
 generalize hR:zb2 [78] stk b=R at k1 k2
 obtain ⟨g3,g4⟩:=zd0 (b:=P.2.2) g2 (e:=[84]) (by decide)
 obtain ⟨k3,k4⟩:=zd0 (b:=R.2.2) k2 (e:=[78]) (by decide)
 have hPs:P.2.1<+:stk:=by rw [←hP];exact zgX _ _ _
 have hPb:b=true→P.2.2=true:=by rw [←hP];exact zg1
 have hPi:P.2.2=false→P.1∈stk:=by rw [←hP];exact zlj
 refine ⟨(loc,(zb2 [84] P.2.1 P.2.2).2.1++[P.1]++[(zb2 [84] P.2.1 P.2.2).1],(zb2 [84] P.2.1 P.2.2).2.2),
  (loc,(zoq mt.Stack (zoq mt.Stack (zb2 [78] R.2.1 R.2.2).2.1 (zb2 [78] R.2.1 R.2.2).2.2 R.1).1 (zoq mt.Stack (zb2 [78] R.2.1 R.2.2).2.1 (zb2 [78] R.2.1 R.2.2).2.2 R.1).2 (zb2 [78] R.2.1 R.2.2).1).1,
   (zoq mt.Stack (zoq mt.Stack (zb2 [78] R.2.1 R.2.2).2.1 (zb2 [78] R.2.1 R.2.2).2.2 R.1).1 (zoq mt.Stack (zb2 [78] R.2.1 R.2.2).2.1 (zb2 [78] R.2.1 R.2.2).2.2 R.1).2 (zb2 [78] R.2.1 R.2.2).1).2),?_,?_,?_,zsa (fun e=>zg1 (hPb e)) h.shL h.shS ((zgX _ _ _).trans hPs) g1 (fun hb=>.inl (hPi (ztZ hb))) g3 fun hb=>.inl (hPs.subset (zlj hb))⟩
 ·rw [zkq (by omega)]
  unfold zaT
  rw [qf (show x.Op≠1 by omega),qf (show x.Op≠2 by omega),qf (show x.Op≠3 by omega),qf (show x.Op≠4 by omega),qf (show x.Op≠5 by omega),qf (show x.Op≠6 by omega),qt ho]
  simp only [cond_false,cond_true]
  rw [zme h.shS.len,hP]
  simp only [Option.bind_some]
  rw [zme g2.len]
  simp only [Option.bind_some]
  rw [zeE g4.len]
  simp only [Option.bind_some]
  rw [zeE (by have:=g4.1;simp;omega)]
  rfl
 ·rw [instr_plain (by omega) (by omega)]
  unfold zQ
  rw [qf (show x.Op≠1 by omega),qf (show x.Op≠2 by omega),qf (show x.Op≠3 by omega),qf (show x.Op≠4 by omega),qf (show x.Op≠5 by omega),qf (show x.Op≠6 by omega),qt ho]
  simp only [cond_false,cond_true]
  rw [ziW h.shS.len,hR]
  simp only [Option.bind_some]
  rw [ziW k2.len]
  simp only [Option.bind_some]
  rw [zeG k4.len]
  simp only [Option.bind_some]
  rw [zeG (by have:=k4.1;show ((zb2 [78] R.2.1 R.2.2).2.1++[R.1]).length≤1000;simp;omega)]
  rfl
 ·have e2:P.2=R.2:=by rw [←hP,←hR];exact zjS [84] [78] stk b
  cases hb:(zb2 [84] P.2.1 P.2.2).2.2 with
  |true =>
   refine zfK rfl ?_
   have:(zb2 [78] R.2.1 R.2.2).2.2=true:=by rw [←e2,←zjS [84] [78]];exact hb
   exact znC (znC this)
  |false =>
   have e1:P.1=R.1:=by
    rw [←hP,←hR]
    exact zeM [84] [78] stk b (by rw [hP];exact ztZ hb)
   have e3:=zeM [84] [78] P.2.1 P.2.2 hb
   have e4:=zjS [84] [78] P.2.1 P.2.2
   rw [←e2,←e1,←e3,←e4,hb]
   exact zsp _ _
theorem znK(h:58≤x.Op):∀k:Int,k<58→(x.Op == k)=false:=fun k hk=>qf (by omega)
theorem zAP(h:zeN l L m mt loc stk b)(ho:x.Op=59):
  ∃p r,zk L m c mt loc stk b x=some p∧zm L c mt loc stk b x=some r∧znI mt.Stack p r∧zl8 loc stk b p:=by
 have hq:=znK (x:=x) (by omega)
 refine ⟨(loc,stk++[[73]],b),_,?_,?_,zex _,zeg id h.shL h.shS (List.prefix_refl _) (by decide) fun _=>.inr zly⟩
 ·rw [zmX (by omega)]
  unfold zbC
  rw [hq 56 (by omega),hq 57 (by omega)]
  unfold zaB
  rw [qf (show x.Op≠58 by omega),qt ho]
  simp only [cond_false,cond_true]
  rw [zeE h.shS.len]
  rfl
 ·rw [instr_plain (by omega) (by omega)]
  unfold zQ
  rw [hq 1 (by omega),hq 2 (by omega),hq 3 (by omega),hq 4 (by omega),hq 5 (by omega),hq 6 (by omega),hq 7 (by omega),hq 46 (by omega),hq 47 (by omega),hq 48 (by omega),hq 56 (by omega),hq 57 (by omega),qf (show x.Op≠58 by omega),qt ho]
  simp only [cond_false,cond_true]
  rw [zeG h.shS.len]
  rfl
theorem zzv(h:zeN l L m mt loc stk b)(ho:x.Op=60∨x.Op=61):
  ∃p r,zk L m c mt loc stk b x=some p∧zm L c mt loc stk b x=some r∧znI mt.Stack p r∧zl8 loc stk b p:=by
 have hq:=znK (x:=x) (by omega)
 have h73:([73]:Tx).length≤25:=by decide
 refine ⟨(loc,(zah L [84] [[73]] stk b).1,(zah L [84] [[73]] stk b).2),(loc,(zah L [84] [[73]] stk b).1,(zah L [84] [[73]] stk b).2),?_,?_,zeV fun _=>?_,zeT (zbI _ _ _) h.shL h.shS (zdK _ _ _ _ _)⟩
 ·rw [zmX (by omega)]
  unfold zbC
  rw [hq 56 (by omega),hq 57 (by omega)]
  unfold zaB
  rw [qf (show x.Op≠58 by omega),qf (show x.Op≠59 by omega)]
  simp only [cond_false,cond_true]
  rw [zfk h.made h.map (sh1 h73) h.shS]
  rfl
 ·rw [instr_plain (by omega) (by omega)]
  unfold zQ
  rw [hq 1 (by omega),hq 2 (by omega),hq 3 (by omega),hq 4 (by omega),hq 5 (by omega),hq 6 (by omega),hq 7 (by omega),hq 46 (by omega),hq 47 (by omega),hq 48 (by omega),hq 56 (by omega),hq 57 (by omega),qf (show x.Op≠58 by omega),qf (show x.Op≠59 by omega)]
  simp only [cond_false]
  have key:∀v,v=true→(zcb L c mt loc stk b v).bind (fun v=>some (v.1,v.2.1,v.2.2))=some (loc,(zah L [84] [[73]] stk b).1,(zah L [84] [[73]] stk b).2):=fun v hv=>by
   unfold zcb
   rw [hv,zeh h.made (sh1 h73) h.shS,zeF [78] [84]]
   rfl
  rcases ho with ho |ho
  ·rw [qt ho]
   exact key _ rfl
  ·rw [qf (show x.Op≠60 by omega),qt ho]
   exact key _ rfl
 ·have:=zjn (L:=L) [84] [[73]] stk b
  have:=h.room
  omega
theorem zu2(h:zeN l L m mt loc stk b)(ho:x.Op=58):
  ∃p r,zk L m c mt loc stk b x=some p∧zm L c mt loc stk b x=some r∧znI mt.Stack p r∧zl8 loc stk b p:=by
 have hq:=znK (x:=x) (by omega)
 have ht:([84,104,114,111,119,110]:Tx).length≤25:=by decide
 obtain ⟨k1,k2⟩:=zd0 (b:=b) h.shS (e:=[78]) (by decide)
 refine ⟨(loc,(zah L [84] [[84,104,114,111,119,110]] stk b).1,(zah L [84] [[84,104,114,111,119,110]] stk b).2),(loc,(zah L [84] [[84,104,114,111,119,110]] stk b).1,(zah L [84] [[84,104,114,111,119,110]] stk b).2),?_,?_,zeV fun _=>?_,zeT (zbI _ _ _) h.shL h.shS (zdK _ _ _ _ _)⟩
 ·rw [zmX (by omega)]
  unfold zbC
  rw [hq 56 (by omega),hq 57 (by omega)]
  unfold zaB
  rw [qt ho]
  simp only [cond_false,cond_true]
  rw [zfk h.made h.map (sh1 ht) h.shS]
  rfl
 ·rw [instr_plain (by omega) (by omega)]
  unfold zQ
  rw [hq 1 (by omega),hq 2 (by omega),hq 3 (by omega),hq 4 (by omega),hq 5 (by omega),hq 6 (by omega),hq 7 (by omega),hq 46 (by omega),hq 47 (by omega),hq 48 (by omega),hq 56 (by omega),hq 57 (by omega),qt ho]
  simp only [cond_false,cond_true]
  rw [ziW h.shS.len]
  simp only [Option.bind_some]
  rw [zhp h.made k1 ht,zeF [84] [78]]
  rfl
 ·have:=zjn (L:=L) [84] [[84,104,114,111,119,110]] stk b
  have:=h.room
  omega
theorem ztM(h:46≤x.Op∧x.Op≤48):zk L m c mt loc stk b x=(zc1 L m c mt loc stk b x.Op).bind fun v=>some (loc,v.1,v.2):=by
 unfold zk
 rw [bf (by omega),qf (show x.Op≠13 by omega),bf (by omega),qf (show x.Op≠20 by omega),bf (by omega),bf (by omega),bf (by omega),bf (by omega),qf (show x.Op≠37 by omega),bf (by omega),bf (by omega),bt h]
 rfl
theorem zy2(h:zeN l L m mt loc stk b)(ho:x.Op=46∨x.Op=47):
  ∃p r,zk L m c mt loc stk b x=some p∧zm L c mt loc stk b x=some r∧znI mt.Stack p r∧zl8 loc stk b p:=by
 have h73:([73]:Tx).length≤25:=by decide
 have hq:∀k:Int,k<46→(x.Op == k)=false:=fun k hk=>qf (by omega)
 rcases ho with ho |ho
 ·refine ⟨(loc,stk,b||!(mt.Ret == [86])),(loc,stk,b||!(mt.Ret == [86])),?_,?_,zeV fun _=>h.room,zeT (fun e=>by rw [e];rfl) h.shL h.shS (List.prefix_refl _)⟩
  ·rw [ztM (by omega)]
   unfold zc1
   rw [qt ho]
   rfl
  ·rw [instr_plain (by omega) (by omega)]
   unfold zQ
   rw [hq 1 (by omega),hq 2 (by omega),hq 3 (by omega),hq 4 (by omega),hq 5 (by omega),hq 6 (by omega),hq 7 (by omega),qt ho]
   rfl
 ·refine ⟨(loc,(zah L [84] [[73]] stk (b||!(mt.Ret == [73]))).1,(zah L [84] [[73]] stk (b||!(mt.Ret == [73]))).2),(loc,(zah L [84] [[73]] stk b).1,(zah L [84] [[73]] stk b).2||!(mt.Ret == [73])),?_,?_,?_,zeT (fun e=>zbI _ _ _ (by rw [e];rfl)) h.shL h.shS (zdK _ _ _ _ _)⟩
  ·rw [ztM (by omega)]
   unfold zc1
   rw [qf (show x.Op≠46 by omega),qt ho]
   simp only [cond_false,cond_true]
   rw [zfk h.made h.map (sh1 h73) h.shS]
   rfl
  ·rw [instr_plain (by omega) (by omega)]
   unfold zQ
   rw [hq 1 (by omega),hq 2 (by omega),hq 3 (by omega),hq 4 (by omega),hq 5 (by omega),hq 6 (by omega),hq 7 (by omega),qf (show x.Op≠46 by omega),qt ho]
   simp only [cond_false,cond_true]
   rw [zeh h.made (sh1 h73) h.shS,zeF [78] [84]]
   rfl
  ·have hl:=zjn (L:=L) [84] [[73]] stk b
   have hr:=h.room
   cases mt.Ret == [73] with
   |true =>
    rw [show (b||!true)=b by simp]
    rw [show ((zah L [84] [[73]] stk b).2||!true)=(zah L [84] [[73]] stk b).2 by simp]
    exact zeV fun _=>by omega
   |false=>exact zfK (zbI _ _ _ (by simp)) (by simp)
end
section
variable {l L : List zb} {m : List (Tx × Int)} {c : Tx} {mt : zd} {loc stk : List Tx} {b : Bool} {x : zH}
theorem zxP(h:zeN l L m mt loc stk b)(ho:x.Op=3)(hA:0≤x.A):
  ∃p r,zk L m c mt loc stk b x=some p∧zm L c mt loc stk b x=some r∧znI mt.Stack p r∧zl8 loc stk b p:=by
 have P0:zk L m c mt loc stk b x=(cond (decide (((List.length loc):Int)≤x.A)) (za0 L m c mt loc stk b x true) ((idx loc x.A).bind fun v11=>za0 L m c mt loc stk b x (v11 == [84]))).bind fun v=>some (v.1,v.2.1,v.2.2):=by
  rw [zkq (by omega)]
  unfold zaT
  rw [qf (show x.Op≠1 by omega),qf (show x.Op≠2 by omega),qt ho]
  rfl
 have R0:zm L c mt loc stk b x=(cond (decide (x.A<(List.length loc:Int))) ((idx loc (if (IntKind.i64.wrap ((List.length loc:Int)-1))<x.A then (IntKind.i64.wrap ((List.length loc:Int)-1)) else x.A)).bind fun v10=>zbc L c mt loc stk x (b||(!(!(v10 == [84]))))) (zbc L c mt loc stk x (b||(!false)))).bind fun v=>some (v.1,v.2.1,v.2.2):=by
  rw [instr_plain (by omega) (by omega)]
  unfold zQ
  rw [qf (show x.Op≠1 by omega),qf (show x.Op≠2 by omega),qt ho]
  rfl
 rw [P0,R0]
 by_cases hlt:x.A<(loc.length:Int)
 ·obtain ⟨k,hk⟩:∃k:Nat,x.A=(k:Int):=⟨x.A.toNat,by omega⟩
  have hkl:k<loc.length:=by omega
  have hw:IntKind.i64.wrap ((loc.length:Int)-1)=(loc.length:Int)-1:=zkZ (by omega) (by have:=h.shL.1;omega)
  have hi:idx loc x.A=some loc[k]:=by rw [hk,zB,List.getElem?_eq_getElem hkl]
  rw [hw,if_neg (by omega),decide_eq_false (by omega),decide_eq_true hlt,hi]
  simp only [cond_false,cond_true,Option.bind_some]
  unfold za0 zbc
  rw [hi]
  simp only [Option.bind_some]
  cases ht:loc[k] == [84] with
  |true =>
   refine ⟨_,_,rfl,?_,zfK (r:=(loc,stk,true)) rfl rfl,zeT (fun _=>rfl) h.shL h.shS (List.prefix_refl _)⟩
   simp
  |false =>
   rw [zeE h.shS.len]
   cases b with
   |true=>exact ⟨_,_,rfl,rfl,zfK rfl rfl,zeg id h.shL h.shS (List.prefix_refl _) (h.shL.2 _ (List.getElem_mem hkl)) fun e=>by cases e⟩
   |false =>
    simp only [Bool.not_false,Bool.not_true,Bool.or_false,cond_true]
    rw [zeG h.shS.len]
    exact ⟨_,_,rfl,rfl,zex _,zeg id h.shL h.shS (List.prefix_refl _) (h.shL.2 _ (List.getElem_mem hkl)) fun _=>.inr ⟨h.shL.2 _ (List.getElem_mem hkl),(h.onL _ (List.getElem_mem hkl)).resolve_left fun e=>by rw [e] at ht;cases ht⟩⟩
 ·rw [decide_eq_true (by omega),decide_eq_false hlt]
  simp only [cond_false,cond_true]
  unfold za0 zbc
  refine ⟨_,_,rfl,?_,zfK (r:=(loc,stk,true)) rfl rfl,zeT (fun _=>rfl) h.shL h.shS (List.prefix_refl _)⟩
  simp
theorem zve(h:zeN l L m mt loc stk b)(ho:x.Op=4)(hA:0≤x.A):
  ∃p r,zk L m c mt loc stk b x=some p∧zm L c mt loc stk b x=some r∧znI mt.Stack p r∧zl8 loc stk b p:=by
 have P0:zk L m c mt loc stk b x=((zaf L m c mt loc stk b).bind fun v15=>cond (decide (((List.length loc):Int)≤x.A)) (some (loc,v15.2.1,true)) ((znf loc).bind fun v16=>(idx v16 x.A).bind fun v17=>some ((List.set v16 (Int.toNat x.A) v15.1),v15.2.1,v15.2.2))).bind fun v=>some (v.1,v.2.1,v.2.2):=by
  rw [zkq (by omega)]
  unfold zaT
  rw [qf (show x.Op≠1 by omega),qf (show x.Op≠2 by omega),qf (show x.Op≠3 by omega),qt ho]
  rfl
 have R0:zm L c mt loc stk b x=((zav L c mt loc stk b).bind fun v14=>cond (!(v14.2.2||(!(decide (x.A<(List.length loc:Int)))))) ((zec (zhM.mk loc v14.2.1)).bind fun v15=>(idx v15.1 x.A).bind fun v16=>some ((List.set v15.1 (Int.toNat x.A) v14.1),v15.2,(v14.2.2||(!(decide (x.A<(List.length loc:Int))))))) (some (loc,v14.2.1,(v14.2.2||(!(decide (x.A<(List.length loc:Int)))))))).bind fun v=>some (v.1,v.2.1,v.2.2):=by
  rw [instr_plain (by omega) (by omega)]
  unfold zQ
  rw [qf (show x.Op≠1 by omega),qf (show x.Op≠2 by omega),qf (show x.Op≠3 by omega),qt ho]
  rfl
 obtain ⟨g1,g2⟩:=zd0 (b:=b) h.shS (e:=[84]) (by decide)
 obtain ⟨k1,k2⟩:=zd0 (b:=b) h.shS (e:=[78]) (by decide)
 rw [P0,R0,zme h.shS.len,ziW h.shS.len]
 simp only [Option.bind_some]
 by_cases hlt:x.A<(loc.length:Int)
 ·obtain ⟨k,hk⟩:∃k:Nat,x.A=(k:Int):=⟨x.A.toNat,by omega⟩
  have hkl:k<loc.length:=by omega
  have hi:idx loc x.A=some loc[k]:=by rw [hk,zB,List.getElem?_eq_getElem hkl]
  rw [decide_eq_false (by omega),decide_eq_true hlt,zrm h.shL.len,zxr h.shL.len k2.len]
  simp only [cond_false,Option.bind_some,Bool.not_true,Bool.or_false]
  rw [hi]
  have e2:=zjS [84] [78] stk b
  cases hb:(zb2 [78] stk b).2.2 with
  |true=>exact ⟨_,_,rfl,rfl,zfK (by show (zb2 [84] stk b).2.2=true;rw [e2];exact hb) rfl,zqH zg1 h.shL h.shS (zgX _ _ _) g1 zlj⟩
  |false =>
   have e1:=zeM [78] [84] stk b hb
   refine ⟨_,_,rfl,rfl,?_,zqH zg1 h.shL h.shS (zgX _ _ _) g1 zlj⟩
   rw [e1,e2,hb]
   refine zeV fun _=>?_
   have:=zo9 [78] stk b
   have:=h.room
   omega
 ·rw [decide_eq_true (by omega),decide_eq_false hlt]
  simp only [cond_true,Bool.not_false,Bool.or_true,Bool.not_true,cond_false]
  exact ⟨_,_,rfl,rfl,zfK rfl rfl,zeT (fun _=>rfl) h.shL h.shS (zgX _ _ _)⟩
theorem zqK{t:Tx}(ht:zfH t=true):zrH L t=thN L t:=by
 unfold zrH
 have e1:(t == [78])=false:=beq_eq_false_iff_ne.2 fun e=>by rw [e,zAx] at ht;cases ht
 have e2:(t == [84])=false:=beq_eq_false_iff_ne.2 fun e=>by rw [e,zBd] at ht;cases ht
 rw [e1,e2];rfl
theorem zxK(h:zeN l L m mt loc stk b)(ho:x.Op=56∨x.Op=57)(hC:zfH x.C=true)(hl:x.C.length≤25):
  ∃p r,zk L m c mt loc stk b x=some p∧zm L c mt loc stk b x=some r∧znI mt.Stack p r∧zl8 loc stk b p:=by
 have hq:∀k:Int,k<56→(x.Op == k)=false:=fun k hk=>qf (by omega)
 obtain ⟨g1,g2⟩:=zrA (b:=b) h.shS (e:=[84]) (by decide)
 have e2:=(znm (b:=b) h.on).1
 have k2:ShL (zmD stk b).2.1:=by rw [e2];exact g2
 rcases ho with ho |ho
 ·refine ⟨(loc,(zhr [84] stk b).2.1++[x.C],(zhr [84] stk b).2.2||!thN L x.C),_,?_,?_,zex _,zeg (fun e=>by rw [zl0 e];rfl) h.shL h.shS (zj8 _ _ _) hl fun _=>.inr (zu8 hC hl)⟩
  ·rw [zmX (by omega)]
   unfold zbC
   rw [qt ho]
   unfold zaB
   simp only [cond_true]
   rw [zqp h.shS]
   simp only [Option.bind_some]
   rw [znN h.made h.map hl,zqK hC]
   simp only [Option.bind_some]
   rw [qt ho]
   simp only [cond_true]
   rw [zeE g2.len]
   rfl
  ·rw [instr_plain (by omega) (by omega)]
   unfold zQ
   rw [hq 1 (by omega),hq 2 (by omega),hq 3 (by omega),hq 4 (by omega),hq 5 (by omega),hq 6 (by omega),hq 7 (by omega),hq 46 (by omega),hq 47 (by omega),hq 48 (by omega),qt ho]
   simp only [cond_false,cond_true]
   rw [zmN h.shS]
   simp only [Option.bind_some]
   rw [zd5 h.made (by omega)]
   simp only [Option.bind_some]
   rw [zeG k2.len,e2]
   rfl
 ·refine ⟨(loc,(zhr [84] stk b).2.1++[[73]],(zhr [84] stk b).2.2||!thN L x.C),_,?_,?_,zex _,zeg (fun e=>by rw [zl0 e];rfl) h.shL h.shS (zj8 _ _ _) (by decide) fun _=>.inr zly⟩
  ·rw [zmX (by omega)]
   unfold zbC
   rw [qf (show x.Op≠56 by omega),qt ho]
   unfold zaB
   simp only [cond_true,cond_false]
   rw [zqp h.shS]
   simp only [Option.bind_some]
   rw [znN h.made h.map hl,zqK hC]
   simp only [Option.bind_some]
   rw [qf (show x.Op≠56 by omega)]
   simp only [cond_false]
   rw [zeE g2.len]
   rfl
  ·rw [instr_plain (by omega) (by omega)]
   unfold zQ
   rw [hq 1 (by omega),hq 2 (by omega),hq 3 (by omega),hq 4 (by omega),hq 5 (by omega),hq 6 (by omega),hq 7 (by omega),hq 46 (by omega),hq 47 (by omega),hq 48 (by omega),qf (show x.Op≠56 by omega),qt ho]
   simp only [cond_false,cond_true]
   rw [zmN h.shS]
   simp only [Option.bind_some]
   rw [zd5 h.made (by omega)]
   simp only [Option.bind_some]
   rw [zeG k2.len,e2]
   rfl
end
section
variable {l L : List zb} {m : List (Tx × Int)} {c : Tx} {mt : zd} {loc stk : List Tx} {b : Bool} {x : zH}
theorem zAj{t:Tx}(h1:(t == [73])=false)(h2:zfH t=true):zmd L [73] t=false:=by
 have e2:(t == [84])=false:=beq_eq_false_iff_ne.2 fun e=>by rw [e,zBd] at h2;cases h2
 have e3:(([73]:Tx) == t)=false:=by rw [Bool.eq_false_iff] at h1 ⊢;intro h;exact h1 (by rw [beq_iff_eq] at h ⊢;exact h.symm)
 rw [zxT,e2]
 simp only [cond_false]
 rw [show (([73]:Tx) == [78])=false from by decide,e3]
 simp
theorem zCe:zfH [86]=false:=by decide +kernel
theorem zx7(h:zeN l L m mt loc stk b)(ho:x.Op=48)(hr:zsS mt.Ret=true)(hl:mt.Ret.length≤25):
  ∃p r,zk L m c mt loc stk b x=some p∧zm L c mt loc stk b x=some r∧znI mt.Stack p r∧zl8 loc stk b p:=by
 have hq:∀k:Int,k<48→(x.Op == k)=false:=fun k hk=>qf (by omega)
 obtain ⟨k1,k2⟩:=zd0 (b:=b) h.shS (e:=[78]) (by decide)
 have P0:zk L m c mt loc stk b x=some (loc,(zah L [84] [mt.Ret] stk (b||!zoH mt.Ret)).1,(zah L [84] [mt.Ret] stk (b||!zoH mt.Ret)).2):=by
  rw [ztM (by omega)]
  unfold zc1
  rw [hq 46 (by omega),hq 47 (by omega),zkt (ztI hl)]
  simp only [cond_false,Option.bind_some]
  rw [zfk h.made h.map (sh1 hl) h.shS]
  rfl
 have R0:zm L c mt loc stk b x=some (loc,(zmD stk b).2.1,(zmD stk b).2.2||!(!(mt.Ret == [86])&&(!(mt.Ret == [73])&&zmd L (zmD stk b).1 mt.Ret))):=by
  rw [instr_plain (by omega) (by omega)]
  unfold zQ
  rw [hq 1 (by omega),hq 2 (by omega),hq 3 (by omega),hq 4 (by omega),hq 5 (by omega),hq 6 (by omega),hq 7 (by omega),hq 46 (by omega),hq 47 (by omega),qt ho]
  simp only [cond_false,cond_true]
  rw [zmN h.shS]
  simp only [Option.bind_some]
  rw [zhp h.made (show (zmD stk b).1.length≤25 from k1) hl]
  cases mt.Ret == [86] <;> cases mt.Ret == [73] <;> rfl
 refine ⟨_,_,P0,R0,?_,zeT (fun e=>zbI _ _ _ (by rw [e];rfl)) h.shL h.shS (zdK _ _ _ _ _)⟩
 cases h1:mt.Ret == [86] with
 |true =>
  have e:mt.Ret=[86]:=by simpa using h1
  have:zoH mt.Ret=false:=by unfold zoH;rw [e,zCe];rfl
  rw [this]
  exact zfK (zbI _ _ _ (by simp)) (by simp)
 |false =>
  cases h2:mt.Ret == [73] with
  |true =>
   have:zoH mt.Ret=false:=by unfold zoH;rw [h2];rfl
   rw [this]
   exact zfK (zbI _ _ _ (by simp)) (by simp)
  |false =>
   have hm:zfH mt.Ret=true:=by unfold zsS at hr;rw [h1] at hr;simpa using hr
   have:zoH mt.Ret=true:=by unfold zoH;rw [h2,hm];rfl
   rw [this]
   simp only [Bool.not_true,Bool.or_false,Bool.not_false,Bool.true_and]
   have key:((zmD stk b).2.1,(zmD stk b).2.2||!zmd L (zmD stk b).1 mt.Ret)=zah L [84] [mt.Ret] stk b:=by
    rw [zeF [84] [78]]
    show ((zb2 [78] stk b).2.1,((zb2 [78] stk b).2.2||!(!((zb2 [78] stk b).1 == [73])))||!zmd L (zb2 [78] stk b).1 mt.Ret)=((zb2 [78] stk b).2.1,(zb2 [78] stk b).2.2||!zmd L (zb2 [78] stk b).1 mt.Ret)
    cases h3:(zb2 [78] stk b).1 == [73] with
    |true =>
     have e:(zb2 [78] stk b).1=[73]:=by simpa using h3
     rw [e,zAj h2 hm];simp
    |false=>simp
   rw [←key]
   refine zeV fun _=>?_
   have:=zo9 [78] stk b
   have:=h.room
   show (((zb2 [78] stk b).2.1).length:Int)≤mt.Stack
   omega
end
theorem zv1(t:Tx):t.length≤(zfa t).length+1:=by
 cases t with
 |nil=>exact Nat.zero_le _
 |cons x r=>rw [zgt];split <;> simp
theorem zrB{t:Tx}(h:zcx t=true):t.length≤8:=by
 unfold zcx zn2 at h
 simp only [Bool.and_eq_true,decide_eq_true_eq] at h
 have:=h.1.1.2.2
 omega
theorem zzy{t:Tx}(h:zfH t=true):t.length≤10:=by
 have h1:=zv1 t
 have h2:=zv1 (zfa t)
 unfold zfH at h
 rw [Bool.or_eq_true] at h
 rcases h with h |h
 ·have e:zfa (zfa t)=[73]:=by simpa using h
  rw [e] at h2
  simp at h2
  omega
 ·have:=zrB h
  omega
theorem zoc{t:Tx}(h:zfH t=true):t.length≤25:=by have:=zzy h;omega
theorem zt2{t:Tx}(h:zsS t=true):t.length≤25:=by
 unfold zsS at h
 rw [Bool.or_eq_true] at h
 rcases h with h |h
 ·have e:t=[86]:=by simpa using h
  rw [e];decide
 ·exact zoc h
theorem zyR{t:Tx}(h:zmE t=true):t.length≤25∧(t=[84]∨onS t):=by
 unfold zmE at h
 simp only [Bool.or_eq_true,beq_iff_eq] at h
 rcases h with ((h |h) |h) |h
 ·subst h;exact ⟨zly.1,.inr zly.2⟩
 ·subst h;exact ⟨zyu.1,.inr zyu.2⟩
 ·subst h;exact ⟨by decide,.inl rfl⟩
 ·unfold zoH at h
  rw [Bool.and_eq_true] at h
  exact ⟨zoc h.2,.inr (.inr h.2)⟩
theorem zzP{α:Type}{bad:List α→α→Bool}:∀{l pre:List α},gB bad pre l=false→∀x∈l,∃q,bad q x=false
 | [],_,_,x,hx=>by cases hx
 |y ::r,pre,h,x,hx=>by
  unfold gB at h
  rw [Bool.or_eq_false_iff] at h
  rcases List.mem_cons.1 hx with e |e
  ·rw [e];exact ⟨pre,h.1⟩
  ·exact zzP h.2 x e
structure zv5(m:zd)(x:zas):Prop where
 locs:(x.Locals.length:Int)=m.Locals
 stks:(x.Stack.length:Int)≤m.Stack
 locT:∀t∈x.Locals,zmE t=true
 stkT:∀t∈x.Stack,zmE t=true∧t≠[84]
structure zlW(m:zd):Prop where
 params:∀s∈m.Params,zfH s=true
 npar:m.Params.length≤6
 ret:zsS m.Ret=true
 locs:z8 m≤m.Locals∧m.Locals≤16
 stack:0≤m.Stack∧m.Stack≤16
 code:1≤m.Code.length∧m.Code.length≤100
 last:∃y,m.Code.getLast?=some y∧ziy y.Op=true
 ins:∀x∈m.Code,zla x=true
 traps:∀y∈m.Traps,y.C=[]∨zcx y.C=true
 ntraps:m.Traps.length≤6
 maps:∀x∈m.Maps,zv5 m x
 nmaps:m.Maps.length≤100
theorem btw{n a b:Int}(h:zn n a b=true):a≤n∧n≤b:=by
 unfold zn at h
 simpa using h
theorem zrM{l:List Tx}(h:zik l=true):∀t∈l,zmE t=true:=fun t ht=>by
 unfold zik at h
 rw [Bool.not_eq_true',List.any_eq_false] at h
 simpa using h t ht
theorem zup{m:zd}(h:zfI m=true):(∀s∈m.Params,zfH s=true)∧m.Params.length≤6∧zsS m.Ret=true:=by
 unfold zfI at h
 simp only [Bool.and_eq_true,Bool.not_eq_true',Bool.or_eq_false_iff,decide_eq_false_iff_not] at h
 obtain ⟨⟨⟨⟨h1,h2⟩,h3⟩,h4⟩,h5⟩:=h
 refine ⟨fun s hs=>?_,by omega,h4⟩
 unfold zr8 at h3
 rw [Bool.not_eq_true',List.any_eq_false] at h3
 simpa using h3 s hs
theorem zzb{m:zd}(h:zfI m=true)(ha:m.Abstract=true):m.Static=false:=by
 unfold zfI at h
 rw [ha] at h
 simp only [Bool.and_eq_true,cond_true] at h
 obtain ⟨_,h5⟩:=h
 unfold zgg at h5
 simp only [Bool.and_eq_true,Bool.not_eq_true'] at h5
 first
  |exact h5.1
  |exact h5.1.1
  |exact h5.1.1.1
  |exact h5.1.1.1.1
theorem zCq{m:zd}(h:zfI m=true)(ha:m.Abstract=false):zlW m:=by
 obtain ⟨p1,p2,p3⟩:=zup h
 unfold zfI at h
 rw [ha] at h
 simp only [Bool.and_eq_true,cond_false] at h
 obtain ⟨_,_,hl,hs,⟨hi,ht⟩,hm⟩:=h
 have hl:=btw hl
 have hs:=btw hs
 unfold instrN at hi
 simp only [Bool.and_eq_true,Bool.not_eq_true'] at hi
 obtain ⟨i1,i2,i3⟩:=hi
 have i1:=btw i1
 unfold zmV at ht
 simp only [Bool.and_eq_true,Bool.not_eq_true',decide_eq_true_eq] at ht
 obtain ⟨t1,t2⟩:=ht
 unfold zq6 at hm
 simp only [Bool.and_eq_true,Bool.not_eq_true',decide_eq_true_eq] at hm
 obtain ⟨m1,m2⟩:=hm
 refine ⟨p1,p2,p3,hl,hs,by omega,?_,fun x hx=>?_,fun y hy=>?_,by omega,fun x hx=>?_,by omega⟩
 ·cases hg:m.Code.getLast? with
  |none=>rw [hg] at i2;cases i2
  |some y=>rw [hg] at i2;exact ⟨y,rfl,i2⟩
 ·have:=(List.any_eq_false.1 i3) x hx
  unfold zAv at this
  simp only [Bool.or_eq_true,Bool.not_eq_true',not_or] at this
  simpa using this.1
 ·have:=(List.any_eq_false.1 t1) y hy
  unfold zpY at this
  simp only [Bool.or_eq_true,not_or,Bool.and_eq_true,Bool.not_eq_true',not_and,beq_eq_false_iff_ne] at this
  by_cases e:y.C=[]
  ·exact .inl e
  ·right
   have:=this.2 e
   simpa using this
 ·obtain ⟨q,hq⟩:=zzP m1 x hx
  unfold zzE at hq
  simp only [Bool.or_eq_false_iff,Bool.not_eq_false',beq_iff_eq,decide_eq_false_iff_not] at hq
  obtain ⟨_,⟨h1,h2⟩,⟨h3,h4⟩,h5⟩:=hq
  refine ⟨h1,by omega,zrM h3,fun t ht=>⟨zrM h4 t ht,fun e=>?_⟩⟩
  subst e
  have:=(List.any_eq_false.1 h5) [84] ht
  simp at this
theorem zxh{l L:List zb}(h:zeW l L){x:zb}(hx:x∈L){f:zd}(hf:f∈x.Methods):zfI f=true:=by
 rw [h.app] at hx
 rcases List.mem_append.1 hx with e |e
 ·have hg:giv.all (fun c=>decide (c.Methods.length=0))=true:=by decide +kernel
  have:=of_decide_eq_true (List.all_eq_true.1 hg x e)
  rw [List.eq_nil_of_length_eq_zero this] at hf;cases hf
 ·have:=h.may x e
  unfold zqx at this
  simp only [Bool.and_eq_true,Bool.not_eq_true',decide_eq_true_eq] at this
  have h2:=zsu this.2.2.1 f hf
  rw [Bool.and_eq_true] at h2
  exact h2.2
theorem zy3{l L:List zb}(h:zeW l L){x:zb}(hx:x∈L){f:zt}(hf:f∈x.Fields):zfH f.Type_=true:=by
 rw [h.app] at hx
 rcases List.mem_append.1 hx with e |e
 ·have hg:giv.all (fun c=>decide (c.Fields.length=0))=true:=by decide +kernel
  have:=of_decide_eq_true (List.all_eq_true.1 hg x e)
  rw [List.eq_nil_of_length_eq_zero this] at hf;cases hf
 ·have:=h.may x e
  unfold zqx at this
  simp only [Bool.and_eq_true,Bool.not_eq_true',decide_eq_true_eq] at this
  have h2:=zsu this.2.1.2.1 f hf
  unfold zmb at h2
  simp only [Bool.and_eq_true] at h2
  exact h2.2
theorem zCf{x:zH}(h:zla x=true):x.C.length≤10:=by
 unfold zla at h
 simp only [Bool.and_eq_true] at h
 have:=h.1.2
 unfold zsw at this
 cases h1:zhG x.Op <;> rw [h1] at this
 ·cases h2:zz2 x.Op <;> rw [h2] at this
  ·have e:x.C=[]:=by simpa using this
   rw [e];decide
  ·have:=zrB (show zcx x.C=true from this);omega
 ·have:zoH x.C=true:=this
  unfold zoH at this
  rw [Bool.and_eq_true] at this
  exact zzy this.2
def zuj(mt:zd)(n:Int):Option zas:=mt.Maps.find? (fun x=>x.At == n)
def zvG(L:List zb)(a b:List Tx):Bool:=((a.length:Int) == (b.length:Int))&&!(List.range a.length).any (fun i=>!zmd L ((a[i]?).getD []) ((b[i]?).getD []))
def znh(L:List zb)(mt:zd)(loc stk:List Tx)(n:Int):Bool:=match zuj mt n with |some x=>zvG L loc x.Locals&&zvG L stk x.Stack |none=>false
theorem zAG{α:Type}(p:α→Bool)(l:List α):decide (ixF p 0 l<0)=!(l.find? p).isSome:=by
 rw [←zlS]
 by_cases h:ixF p 0 l<0
 ·rw [decide_eq_true h,decide_eq_false (by omega)];rfl
 ·rw [decide_eq_false h,decide_eq_true (by omega)];rfl
section
variable {l L : List zb} {m : List (Tx × Int)} {c : Tx} {mt : zd} {loc stk : List Tx} {b : Bool}
theorem zuS{body:Int→Option (Sum Int (Sum Unit Bool))}{a b:List Tx}(ha:a.length≤1000)(hn:a.length=b.length)
  (hb:∀(i:Nat) x y,a[i]?=some x→b[i]?=some y→body (i:Int)=cond (!zmd L x y) (some (.inr (.inr false))) (some (.inl (IntKind.i64.wrap ((i:Int)+1)))))
  (he:body (a.length:Int)=some (.inr (.inl ()))):((zu body 0).bind fun o=>zU o (fun _=>some true) some)=some (zvG L a b):=by
 rw [zvm (n:=a.length) (g:=fun i=>cond (!zmd L ((a[i]?).getD []) ((b[i]?).getD [])) (some false) none) (u:=()) (fun i hi=>by
  have h1:a[i]?=some a[i]:=List.getElem?_eq_getElem hi
  have h2:b[i]?=some (b[i]'(by omega)):=List.getElem?_eq_getElem (by omega)
  rw [hb i _ _ h1 h2,h1,h2,zay (by omega)]
  simp only [Option.getD_some]
  cases zmd L a[i] (b[i]'(by omega)) <;> rfl) he,zdI]
 unfold zvG
 rw [hn,beq_self_eq_true,Bool.true_and]
 cases (List.range b.length).any (fun i=>!zmd L ((a[i]?).getD []) ((b[i]?).getD [])) <;> rfl
theorem zxw{a b:List Tx}(h:a.length≠b.length):zvG L a b=false:=by
 unfold zvG
 rw [beq_eq_false_iff_ne.2 (show (a.length:Int)≠(b.length:Int) by omega)];rfl
theorem zxx(h:zeW l L)(hm:zdG L m){a b:List Tx}(ha:ShL a)(hb2:∀t∈b,t.length≤25):zhi L m a b=some (zvG L a b):=by
 unfold zhi
 by_cases hn:a.length=b.length
 ·rw [show ((a.length:Int) == (b.length:Int))=true by rw [hn];exact beq_self_eq_true _]
  exact zuS (body:=fun z=>zdA L m a b z) ha.len hn (fun i x y hx hy=>by
   show zdA L m a b (i:Int)=_
   have:=ha.2 x (List.mem_of_getElem? hx)
   have:=hb2 y (List.mem_of_getElem? hy)
   unfold zdA
   rw [zgj hx,zB,zB,hx,hy]
   simp only [cond_true,Option.bind_some]
   rw [zoK h hm (by omega) (by omega)];rfl) (by
   show zdA L m a b (a.length:Int)=_
   unfold zdA
   rw [zgY];rfl)
 ·rw [beq_eq_false_iff_ne.2 (show (a.length:Int)≠(b.length:Int) by omega),zxw hn];rfl
theorem zlW.lenM(hk:zlW mt):zj5 mt.Maps:=by have:=hk.nmaps;unfold zj5;omega
theorem zpa(hk:zlW mt){n:Int}{x:zas}(h:zuj mt n=some x):zv5 mt x:=hk.maps x (List.mem_of_find?_eq_some h)
theorem zv5.loc25{x:zas}(h:zv5 mt x):∀t∈x.Locals,t.length≤25:=fun t ht=>(zyR (h.locT t ht)).1
theorem zv5.stk25{x:zas}(h:zv5 mt x):∀t∈x.Stack,t.length≤25:=fun t ht=>(zyR (h.stkT t ht).1).1
theorem ztx(hk:zlW mt){n:Int}:zcG L m c mt loc stk b n=some (zuj mt n):=by
 unfold zcG zb3
 rw [show ((zu (fun z=>zaq mt.Maps n z) 0).bind fun o=>zU o (fun b=>zbA) some)=_ from zcv (p:=fun x:zas=>x.At == n) hk.lenM
  (fun i x hx=>by
   unfold zaq zes
   rw [zgj hx,zB,hx];rfl) (by unfold zaq;rw [zgY];rfl)]
 simp only [Option.bind_some]
 rw [zAG,zn4]
 unfold zuj
 cases mt.Maps.find? (fun x=>x.At == n) <;> rfl
theorem zt7(h:zeW l L)(hm:zdG L m){x:zas}(hx:zv5 mt x)(hl:ShL loc)(hs:ShL stk):zen L m x loc stk=some (zvG L loc x.Locals&&zvG L stk x.Stack):=by
 unfold zen
 rw [zxx h hm hl hx.loc25,zxx h hm hs hx.stk25]
 cases zvG L loc x.Locals <;> rfl
theorem zzW(h:zeW l L)(hm:zdG L m)(hk:zlW mt)(hl:ShL loc)(hs:ShL stk){n:Int}:zcF L m c mt loc stk b n=some (b||!znh L mt loc stk n):=by
 unfold zcF znh
 rw [ztx hk]
 simp only [Option.bind_some]
 cases hf:zuj mt n with
 |none=>rfl
 |some x =>
  show (zen L m x loc stk).bind _=_
  rw [zt7 h hm (zpa hk hf) hl hs];rfl
theorem zA0(h:zeW l L)(hm:zdG L m)(hk:zlW mt)(hl:ShL loc){s:List Tx}(hs:ShL s){n:Int}:zdg L m c mt loc stk b n s=some (b||!znh L mt loc s n):=by
 unfold zdg znh
 rw [ztx hk]
 simp only [Option.bind_some]
 cases hf:zuj mt n with
 |none=>rfl
 |some x =>
  show (zen L m x loc s).bind _=_
  rw [zt7 h hm (zpa hk hf) hl hs];rfl
end
section
variable {l L : List zb} {m : List (Tx × Int)} {c : Tx} {mt : zd} {loc stk : List Tx} {b : Bool} {x : zH}
def zmQ(L:List zb)(C M:Tx):FR:=((zgP L C).findSome? (zyf L M)).getD ([],zF,false)
theorem zxI(h:zeW l L)(C M:Tx):(zmQ L C M).2.1.Type_.length≤25∧((zmQ L C M).2.2=true→zfH (zmQ L C M).2.1.Type_=true):=by
 unfold zmQ
 cases hq:(zgP L C).findSome? (zyf L M) with
 |none=>exact ⟨Nat.zero_le _,fun e=>by cases e⟩
 |some r =>
  obtain ⟨s,hs,e⟩:=List.exists_of_findSome?_eq_some hq
  unfold zyf at e
  cases hc:cl L s with
  |none=>rw [hc] at e;cases e
  |some y =>
   rw [hc] at e
   simp only at e
   cases hf:y.Fields.find? (fun y=>y.Name == M) with
   |none=>rw [hf] at e;cases e
   |some f =>
    rw [hf] at e
    cases e
    have:=zy3 h (zcU hc).1 (List.mem_of_find?_eq_some hf)
    exact ⟨zoc this,fun _=>this⟩
structure zCg(r:MR):Prop where
 params:∀s∈r.2.1.Params,zfH s=true
 npar:r.2.1.Params.length≤6
 ret25:r.2.1.Ret.length≤25
 ret:r.2.2=true→zsS r.2.1.Ret=true
theorem zxq:zCg ([],zM,false):=⟨fun s hs=>(List.not_mem_nil (show s∈([]:List Tx) from hs)).elim,Nat.zero_le _,Nat.zero_le _,fun e=>by cases e⟩
theorem zwR{may:zd→Bool}{n s:Tx}{r:MR}(e:zrb L may n s=some r):∃y f,cl L s=some y∧f∈y.Methods∧r=(s,f,true):=by
 unfold zrb at e
 cases hc:cl L s with
 |none=>rw [hc] at e;cases e
 |some y =>
  rw [hc] at e
  simp only at e
  cases hf:y.Methods.find? (fun y=>y.Name == n) with
  |none=>rw [hf] at e;cases e
  |some f =>
   rw [hf] at e
   simp only at e
   cases hm:may f with
   |false=>rw [hm] at e;cases e
   |true =>
    rw [hm] at e
    cases e
    exact ⟨y,f,rfl,List.mem_of_find?_eq_some hf,rfl⟩
theorem zxb(h:zeW l L)(may:zd→Bool)(n:Tx)(T:List Tx):zCg ((T.findSome? (zrb L may n)).getD ([],zM,false)):=by
 cases hq:T.findSome? (zrb L may n) with
 |none=>exact zxq
 |some r =>
  obtain ⟨s,hs,e⟩:=List.exists_of_findSome?_eq_some hq
  obtain ⟨y,f,hc,hf,rfl⟩:=zwR e
  obtain ⟨p1,p2,p3⟩:=zup (zxh h (zcU hc).1 hf)
  exact ⟨p1,p2,zt2 p3,fun _=>p3⟩
theorem zA4(h:zeW l L)(C n:Tx):zCg (zoD L C n)∧((zoD L C n).2.2=true→(zoD L C n).2.1.Static=false):=by
 unfold zoD
 cases hF:isF L C with
 |false=>exact ⟨zxq,fun e=>by cases e⟩
 |true =>
  refine ⟨zxb h _ _ _,?_⟩
  simp only [cond_true]
  cases hq:(C ::ze4 L C).findSome? (zrb L ze7 n) with
  |none=>exact fun e=>by cases e
  |some r =>
   obtain ⟨s,hs,e⟩:=List.exists_of_findSome?_eq_some hq
   obtain ⟨y,f,hc,hf,rfl⟩:=zwR e
   intro _
   have hI:isF L s=true:=by
    rcases List.mem_cons.1 hs with e |e
    ·rw [e];exact hF
    ·exact (zsT.1 e).2
   have hy:y.Interface=true:=by unfold isF at hI;rw [hc] at hI;exact hI
   have ha:=zs6 h (zcU hc).1 hf
   exact zzb (zxh h (zcU hc).1 hf) (ha.trans hy)
theorem zwW(ho:x.Op=20):zk L m c mt loc stk b x=some (loc,stk,b):=by
 unfold zk
 rw [bf (by omega),qf (show x.Op≠13 by omega),bf (by omega),qt ho]
 rfl
theorem zx4(h:zeN l L m mt loc stk b)(ho:21≤x.Op∧x.Op≤26):zk L m c mt loc stk b x=some (loc,zah L [84] [[73]] stk b):=by
 unfold zk
 rw [bf (by omega),qf (show x.Op≠13 by omega),bf (by omega),qf (show x.Op≠20 by omega),bt ho]
 simp only [cond_false,cond_true]
 rw [zfk h.made h.map (sh1 zly.1) h.shS]
 rfl
theorem zwI(h:zeN l L m mt loc stk b)(ho:27≤x.Op∧x.Op≤32):zk L m c mt loc stk b x=some (loc,zah L [84] [[73],[73]] stk b):=by
 unfold zk
 rw [bf (by omega),qf (show x.Op≠13 by omega),bf (by omega),qf (show x.Op≠20 by omega),bf (by omega),bt ho]
 simp only [cond_false,cond_true]
 rw [zfk h.made h.map (sh2 zly.1 zly.1) h.shS]
 rfl
theorem zv2(h:zeN l L m mt loc stk b)(ho:33≤x.Op∧x.Op≤34):zk L m c mt loc stk b x=some (loc,(zhr [84] stk b).2):=by
 unfold zk
 rw [bf (by omega),qf (show x.Op≠13 by omega),bf (by omega),qf (show x.Op≠20 by omega),bf (by omega),bf (by omega),bt ho]
 simp only [cond_false,cond_true]
 rw [zqp h.shS]
 rfl
theorem zx3(h:zeN l L m mt loc stk b)(ho:35≤x.Op∧x.Op≤36):zk L m c mt loc stk b x=some (loc,(zhr [84] (zhr [84] stk b).2.1 (zhr [84] stk b).2.2).2):=by
 unfold zk
 rw [bf (by omega),qf (show x.Op≠13 by omega),bf (by omega),qf (show x.Op≠20 by omega),bf (by omega),bf (by omega),bf (by omega),bt ho]
 simp only [cond_false,cond_true]
 rw [zqp h.shS]
 simp only [Option.bind_some]
 rw [zqp (zrA h.shS (by decide)).2]
 rfl
theorem zsd(ho:37≤x.Op∧x.Op≤41):zk L m c mt loc stk b x=(zc3 L m c mt loc stk b x).bind fun v=>some (loc,v.1,v.2):=by
 have e:((x.Op == (37:Int))||zaK x.Op 38 41)=true:=by
  by_cases h:x.Op=37
  ·rw [qt h];rfl
  ·rw [bt (show (38:Int)≤x.Op∧x.Op≤41 by omega),Bool.or_true]
 unfold zk
 rw [bf (by omega),qf (show x.Op≠13 by omega),bf (by omega),qf (show x.Op≠20 by omega),bf (by omega),bf (by omega),bf (by omega),bf (by omega),e]
 rfl
theorem zyn(ho:42≤x.Op∧x.Op≤45):zk L m c mt loc stk b x=(zcH L m c mt loc stk b x).bind fun v=>some (loc,v.1,v.2):=by
 unfold zk
 rw [bf (by omega),qf (show x.Op≠13 by omega),bf (by omega),qf (show x.Op≠20 by omega),bf (by omega),bf (by omega),bf (by omega),bf (by omega),qf (show x.Op≠37 by omega),bf (by omega),bt ho]
 rfl
theorem zh9(ho:49≤x.Op∧x.Op≤55):zk L m c mt loc stk b x=(zax L m c mt loc stk b x).bind fun v=>some (loc,v.1,v.2):=by
 unfold zk
 rw [bf (by omega),qf (show x.Op≠13 by omega),bf (by omega),qf (show x.Op≠20 by omega),bf (by omega),bf (by omega),bf (by omega),bf (by omega),qf (show x.Op≠37 by omega),bf (by omega),bf (by omega),bf (by omega),bt ho]
 rfl
end
theorem zlU{α R:Type}{body:Bool×Int→Option (Sum (Bool×Int) (Sum Bool R))}{l:List α}{p:α→Bool}(hl:l.length≤1000000)
  (hb:∀(i:Nat) x (b:Bool),l[i]?=some x→body (b,(i:Int))=some (.inl (b||p x,IntKind.i64.wrap ((i:Int)+1))))
  (he:∀b:Bool,body (b,(l.length:Int))=some (.inr (.inl b))) (b0:Bool):zu body (b0,0)=some (.inl (b0||l.any p)):=by
 have key:∀(r pre:List α) (b:Bool),l=pre++r→zu body (b,(pre.length:Int))=some (.inl (b||r.any p)):=by
  intro r
  induction r with
  |nil =>
   intro pre b h
   have e:l=pre:=by rw [h,List.append_nil]
   subst e
   rw [zL,he]
   simp
  |cons x r ih =>
   intro pre b h
   have hlen:l.length=pre.length+(r.length+1):=by rw [h];simp
   have hx:l[pre.length]?=some x:=by rw [h];simp
   rw [zL,hb _ x b hx,zay (by omega)]
   have:=ih (pre++[x]) (b||p x) (by rw [h];simp)
   rw [show (pre++[x]).length=pre.length+1 by simp] at this
   simp only [Option.bind_some,Sum.elim_inl]
   rw [this,List.any_cons,Bool.or_assoc]
 exact key l [] b0 rfl
def zgy(L:List zb)(mt:zd)(loc stk:List Tx)(n:Int)(g:Bool):List Tx×List Tx×Bool:=
 match zuj mt n with |none=>(loc,stk,!g) |some x=>(x.Locals,x.Stack,g&&!znh L mt loc stk n)
def zpz:Tx:=[84,104,114,111,119,110]
def zpZ(t:zbe):Tx:=cond (t.C == []) zpz t.C
def zpb(L:List zb)(mt:zd)(loc:List Tx)(n:Int)(t:zbe):Bool:=
 !ztK L (zpZ t) zpz||((decide (t.From≤n)&&decide (n<t.To))&&!znh L mt loc [zpZ t] t.At)
section
variable {l L : List zb} {m : List (Tx × Int)} {c : Tx} {mt : zd} {loc stk : List Tx} {b : Bool}
theorem zv5.shl{x:zas}(hk:zlW mt)(h:zv5 mt x):ShL x.Locals:=⟨by have:=h.locs;have:=hk.locs.2;omega,h.loc25⟩
theorem zv5.shs{x:zas}(hk:zlW mt)(h:zv5 mt x):ShL x.Stack:=⟨by have:=h.stks;have:=hk.stack.2;omega,h.stk25⟩
theorem zxO(h:zeW l L)(hm:zdG L m)(hk:zlW mt)(hl:ShL loc)(hs:ShL stk){n:Int}{g:Bool}:
  zdW L m c mt loc stk b n g=some ((zgy L mt loc stk n g).1,(zgy L mt loc stk n g).2.1,b||(zgy L mt loc stk n g).2.2):=by
 unfold zdW zgy
 rw [ztx hk]
 simp only [Option.bind_some]
 cases hf:zuj mt n with
 |none=>rfl
 |some x =>
  have hx:=zpa hk hf
  simp only [Option.isNone_some,cond_false]
  have key:∀v:Bool,zbB (some x) v=some (x.Locals,x.Stack,v):=fun v=>by
   unfold zbB
   show (znf x.Locals).bind _=_
   rw [zrm (hx.shl hk).len]
   simp only [Option.bind_some]
   rw [zrm (hx.shs hk).len]
   rfl
  rw [zzW h hm hk hl hs]
  cases g with
  |true=>simp only [cond_true,Option.bind_some];rw [key];rfl
  |false=>simp only [cond_false];rw [key];simp
theorem zeN.to{b':Bool}(h:zeN l L m mt loc stk b):zeN l L m mt loc stk b':=⟨h.made,h.map,h.lens,h.shL,h.shS,h.on,h.room,h.onL⟩
theorem ztN(h:zeN l L m mt loc stk b)(hk:zlW mt){n:Int}{g b':Bool}:zeN l L m mt (zgy L mt loc stk n g).1 (zgy L mt loc stk n g).2.1 b':=by
 unfold zgy
 cases hf:zuj mt n with
 |none=>exact h.to
 |some x =>
  have hx:=zpa hk hf
  exact ⟨h.made,h.map,h.lens,hx.shl hk,hx.shs hk,fun t ht=>((zyR (hx.stkT t ht).1).2).resolve_left (hx.stkT t ht).2,hx.stks,fun t ht=>(zyR (hx.locT t ht)).2⟩
theorem zt6(hk:zlW mt){t:zbe}(ht:t∈mt.Traps):(zpZ t).length≤25:=by
 unfold zpZ
 rcases hk.traps t ht with e |e
 ·rw [e];decide
 ·cases t.C == []
  ·have:=zrB e;show t.C.length≤25;omega
  ·show zpz.length≤25;decide
theorem zAK(h:zeW l L)(hm:zdG L m)(hk:zlW mt)(hl:ShL loc){n:Int}:zc5 L m c mt loc stk b n=some (b||mt.Traps.any (zpb L mt loc n)):=by
 unfold zc5
 rw [zlU (body:=fun z=>zbb L m c mt loc stk n z.1 z.2) (l:=mt.Traps) (p:=zpb L mt loc n) (by have:=hk.ntraps;omega) (fun i t b hi=>by
  have ht:=List.mem_of_getElem? hi
  have hc:=zt6 hk ht
  have key:∀v:Tx,v=zpZ t→zbE L m c mt loc stk n b (i:Int) t v=some (.inl (b||zpb L mt loc n t,IntKind.i64.wrap ((i:Int)+1))):=fun v hv=>by
   unfold zbE zcm
   rw [hv,znZ h hm hc (by show _≤_;decide)]
   simp only [Option.bind_some]
   rw [zA0 h hm hk hl (sh1 hc)]
   unfold zpb zpz
   simp only [Option.bind_some]
   cases decide (t.From≤n)&&decide (n<t.To) <;> cases b <;> simp
  show zbb L m c mt loc stk n b (i:Int)=_
  unfold zbb
  rw [zgj hi,zB,hi]
  simp only [cond_true,Option.bind_some]
  cases he:t.C == [] with
  |true=>exact key _ (by unfold zpZ;rw [he];rfl)
  |false=>exact key _ (by unfold zpZ;rw [he];rfl)) (fun b=>by
  show zbb L m c mt loc stk n b (mt.Traps.length:Int)=_
  unfold zbb
  rw [zgY];rfl)]
 rfl
end
theorem zt0{α β:Type}(p:α→Bool)(g:α→β):∀l:List α,l.findSome? (fun x=>cond (p x) (some (g x)) none)=(l.find? p).map g
 | []=>rfl
 |x ::l=>by
  rw [List.findSome?_cons,List.find?_cons]
  cases p x with
  |true=>rfl
  |false=>exact zt0 p g l
section
variable {l L : List zb} {m : List (Tx × Int)} {c : Tx} {mt : zd} {loc stk : List Tx} {b : Bool} {x : zH}
def zBl(mt:zd)(n:Int):zas×Bool:=match zuj mt n with |some x=>(x,true) |none=>(zas.mk 0 [] [],false)
theorem zq8(hk:zlW mt){n:Int}:zcY L c mt loc stk b n=some (zBl mt n):=by
 have hl:=hk.nmaps
 unfold zcY
 rw [show zu (fun z=>zbv mt n z) 0=some (zpo () (mt.Maps.findSome? (fun x=>cond (x.At == n) (some (x,true)) none))) from zeO (fun i x hx=>by
  have hi:=(List.getElem?_eq_some_iff.1 hx).1
  show zbv mt n (i:Int)=_
  unfold zbv
  rw [zgj hx,zB,hx,zay (by omega)]
  simp only [cond_true,Option.bind_some]
  cases x.At == n <;> rfl) (by
  show zbv mt n (mt.Maps.length:Int)=_
  unfold zbv
  rw [zgY];rfl),zt0 (fun x:zas=>x.At == n)]
 unfold zBl zuj
 cases mt.Maps.find? (fun x=>x.At == n) <;> rfl
theorem zyC(h:zeW l L){a b:List Tx}(ha:ShL a)(hb2:∀t∈b,t.length≤25):zdc L a b=some (zvG L a b):=by
 unfold zdc
 by_cases hn:a.length=b.length
 ·rw [show ((a.length:Int) == (b.length:Int))=true by rw [hn];exact beq_self_eq_true _]
  exact zuS (body:=fun z=>zcf L a b z) ha.len hn (fun i x y hx hy=>by
   show zcf L a b (i:Int)=_
   have:=ha.2 x (List.mem_of_getElem? hx)
   have:=hb2 y (List.mem_of_getElem? hy)
   unfold zcf
   rw [zgj hx,zB,zB,hx,hy]
   simp only [cond_true,Option.bind_some]
   rw [zhp h (by omega) (by omega)];rfl) (by
   show zcf L a b (a.length:Int)=_
   unfold zcf
   rw [zgY];rfl)
 ·rw [beq_eq_false_iff_ne.2 (show (a.length:Int)≠(b.length:Int) by omega),zxw hn];rfl
theorem zv3(h:zeW l L)(hk:zlW mt){p q:List Tx}(hp:ShL p)(hq:ShL q){n:Int}:zdt L c mt loc stk b n p q=some (b||!znh L mt p q n):=by
 unfold zdt znh
 rw [zq8 hk]
 unfold zBl
 cases hf:zuj mt n with
 |none=>rfl
 |some x =>
  have hx:=zpa hk hf
  simp only [Option.bind_some,cond_true]
  rw [zyC h hp hx.loc25,zyC h hq hx.stk25]
  cases zvG L p x.Locals <;> rfl
theorem zAt(h:zeW l L)(hk:zlW mt){p q:List Tx}(hp:ShL p)(hq:ShL q){n:Int}:zdX L c mt loc stk b n p q=some (b||!znh L mt p q n):=by
 unfold zdX znh
 rw [zq8 hk]
 unfold zBl
 cases hf:zuj mt n with
 |none=>rfl
 |some x =>
  have hx:=zpa hk hf
  simp only [Option.bind_some,cond_true]
  rw [zyC h hp hx.loc25,zyC h hq hx.stk25]
  cases zvG L p x.Locals <;> rfl
theorem zAJ(h:zeW l L)(hk:zlW mt)(hl:ShL loc){n:Int}:zcq L c mt loc stk b n=some (b||mt.Traps.any (zpb L mt loc n)):=by
 unfold zcq
 rw [zlU (body:=fun z=>zbx L c mt loc stk n z.1 z.2) (l:=mt.Traps) (p:=zpb L mt loc n) (by have:=hk.ntraps;omega) (fun i t b hi=>by
  have ht:=List.mem_of_getElem? hi
  have hc:=zt6 hk ht
  have key:∀v:Tx,v=zpZ t→zcc L c mt loc stk n b (i:Int) t v=some (.inl (b||zpb L mt loc n t,IntKind.i64.wrap ((i:Int)+1))):=fun v hv=>by
   unfold zcc zcN
   rw [hv,zqn h hc (by decide)]
   simp only [Option.bind_some]
   rw [zAt h hk hl (sh1 hc)]
   unfold zpb zpz
   simp only [Option.bind_some]
   cases decide (t.From≤n)&&decide (n<t.To) <;> cases b <;> simp
  show zbx L c mt loc stk n b (i:Int)=_
  unfold zbx
  rw [zgj hi,zB,hi]
  simp only [cond_true,Option.bind_some]
  cases he:t.C == [] with
  |true=>exact key _ (by unfold zpZ;rw [he];rfl)
  |false=>exact key _ (by unfold zpZ;rw [he];rfl)) (fun b=>by
  show zbx L c mt loc stk n b (mt.Traps.length:Int)=_
  unfold zbx
  rw [zgY];rfl)]
 rfl
theorem znl{s:List Tx}{e:Bool}(h:zeN l L m mt loc stk b)(hk:zlW mt)(hp:zk L m c mt loc stk b x=some (loc,s,e))
  (hr:zm L c mt loc stk b x=(za5 L c mt loc x s e).bind fun v=>some (loc,v.1,v.2)) (hs:s<+:stk) (he:b=true→e=true):
  ∃p r,zk L m c mt loc stk b x=some p∧zm L c mt loc stk b x=some r∧znI mt.Stack (p.1,p.2.1,p.2.2||!znh L mt p.1 p.2.1 x.A) r∧zl8 loc stk b p:=by
 have hl:=hs.length_le
 have hS:ShL s:=⟨by have:=h.shS.1;omega,fun t ht=>h.shS.2 t (hs.subset ht)⟩
 refine ⟨(loc,s,e),(loc,s,e||!znh L mt loc s x.A),hp,?_,zeV fun _=>by have:=h.room;show (s.length:Int)≤mt.Stack;omega,zeT he h.shL h.shS hs⟩
 rw [hr]
 unfold za5
 rw [zv3 h.made hk h.shL hS];rfl
theorem instr_test(ho:21≤x.Op∧x.Op≤36):zm L c mt loc stk b x=(zcP L c mt loc stk b x).bind fun v=>some (loc,v.1,v.2):=by
 unfold zm
 rw [cf (by omega),ct ho]
 rfl
theorem zw3(h:zeN l L m mt loc stk b)(hk:zlW mt)(ho:20≤x.Op∧x.Op≤36):
  ∃p r,zk L m c mt loc stk b x=some p∧zm L c mt loc stk b x=some r∧znI mt.Stack (p.1,p.2.1,p.2.2||!znh L mt p.1 p.2.1 x.A) r∧zl8 loc stk b p:=by
 by_cases h0:x.Op=20
 ·refine znl (s:=stk) (e:=b) h hk (zwW h0) ?_ (List.prefix_refl _) id
  unfold zm za5
  rw [cf (by omega),cf (by omega),qt h0]
  simp only [cond_false,cond_true]
  rw [zv3 h.made hk h.shL h.shS]
  rfl
 by_cases h1:x.Op≤26
 ·refine znl (s:=(zah L [84] [[73]] stk b).1) (e:=(zah L [84] [[73]] stk b).2) h hk (zx4 h ⟨by omega,h1⟩) ?_ (zdK _ _ _ _ _) (zbI _ _ _)
  rw [instr_test ⟨by omega,ho.2⟩]
  unfold zcP
  rw [decide_eq_true h1]
  simp only [cond_true]
  rw [zeh h.made (sh1 zly.1) h.shS,zeF [78] [84]]
  rfl
 by_cases h2:x.Op≤32
 ·refine znl (s:=(zah L [84] [[73],[73]] stk b).1) (e:=(zah L [84] [[73],[73]] stk b).2) h hk (zwI h ⟨by omega,h2⟩) ?_ (zdK _ _ _ _ _) (zbI _ _ _)
  rw [instr_test ⟨by omega,ho.2⟩]
  unfold zcP
  rw [decide_eq_false h1,decide_eq_true h2]
  simp only [cond_true,cond_false]
  rw [zeh h.made (sh2 zly.1 zly.1) h.shS,zeF [78] [84]]
  rfl
 have e2:=(znm (b:=b) h.on).1
 by_cases h3:x.Op≤34
 ·refine znl (s:=(zhr [84] stk b).2.1) (e:=(zhr [84] stk b).2.2) h hk (zv2 h ⟨by omega,h3⟩) ?_ (zj8 _ _ _) zl0
  rw [instr_test ⟨by omega,ho.2⟩]
  unfold zcP
  rw [decide_eq_false h1,decide_eq_false h2,decide_eq_true h3]
  simp only [cond_true,cond_false]
  rw [zmN h.shS]
  simp only [Option.bind_some]
  rw [e2]
 ·refine znl (s:=(zhr [84] (zhr [84] stk b).2.1 (zhr [84] stk b).2.2).2.1) (e:=(zhr [84] (zhr [84] stk b).2.1 (zhr [84] stk b).2.2).2.2) h hk (zx3 h ⟨by omega,ho.2⟩) ?_ ((zj8 _ _ _).trans (zj8 _ _ _)) (fun e=>zl0 (zl0 e))
  rw [instr_test ⟨by omega,ho.2⟩]
  unfold zcP
  rw [decide_eq_false h1,decide_eq_false h2,decide_eq_false h3]
  simp only [cond_false]
  rw [zmN h.shS]
  simp only [Option.bind_some]
  rw [e2,zmN (zrA h.shS (by decide)).2]
  simp only [Option.bind_some]
  rw [(znm fun t ht=>h.on t ((zj8 _ _ _).subset ht)).1]
end
section
variable {l L : List zb} {m : List (Tx × Int)} {c : Tx} {mt : zd} {loc stk : List Tx} {b : Bool} {x : zH}
theorem instr_field(ho:37≤x.Op∧x.Op≤41):zm L c mt loc stk b x=(zcs L c mt loc stk b x).bind fun v=>some (loc,v.1,v.2):=by
 unfold zm
 rw [cf (by omega),cf (by omega),qf (show x.Op≠20 by omega),ct ho]
 rfl
def zzN(L:List zb)(C:Tx):Bool:=match cl L C with |some y=>!y.Interface |none=>false
theorem zzu(h:zeN l L m mt loc stk b)(ho:x.Op=37)(hC:x.C.length≤25):
  ∃p r,zk L m c mt loc stk b x=some p∧zm L c mt loc stk b x=some r∧znI mt.Stack p r∧zl8 loc stk b p:=by
 have h26:=h.made.len
 have hP:zk L m c mt loc stk b x=some (loc,stk++[x.C],b||!zzN L x.C):=by
  rw [zsd (by omega)]
  unfold zc3 zzN
  rw [qt ho]
  simp only [cond_true]
  rw [zjM h.map]
  simp only [Option.bind_some]
  rw [zeE h.shS.len]
  cases cl L x.C <;> rfl
 have hK:zl8 loc stk b (loc,stk++[x.C],b||!zzN L x.C):=zeg (fun e=>by rw [e];rfl) h.shL h.shS (List.prefix_refl _) hC fun hb=>.inr (by
  simp only [Bool.or_eq_false_iff,Bool.not_eq_false'] at hb
  have hn:=hb.2
  unfold zzN at hn
  cases hc:cl L x.C with
  |none=>rw [hc] at hn;cases hn
  |some y=>exact zu8 (znU (zjP h.made (zhl hc))) hC)
 cases hc:cl L x.C with
 |none =>
  have e:zzN L x.C=false:=by unfold zzN;rw [hc]
  refine ⟨_,(loc,stk,true),hP,?_,zfK (by rw [e];simp) rfl,hK⟩
  rw [instr_field (by omega)]
  unfold zcs
  rw [zjQ (by omega)]
  simp only [Option.bind_some]
  rw [zoj,zmG hc]
  rfl
 |some y =>
  have e:zzN L x.C=!y.Interface:=by unfold zzN;rw [hc]
  refine ⟨_,_,hP,?_,zex _,hK⟩
  ·rw [instr_field (by omega)]
   unfold zcs
   rw [zjQ (by omega)]
   simp only [Option.bind_some]
   rw [zoj,zhl hc,qt ho]
   simp only [Bool.not_true,cond_false,cond_true]
   rw [zmW,hc]
   simp only [Option.bind_some]
   rw [zeG h.shS.len,←e]
   rfl
theorem zo7{b0:Bool}{ts:List Tx}(hb:b0=true→b=true)(hl:ShL loc)(hs:ShL stk):zl8 loc stk b0 (loc,zah L [84] ts stk b):=
 zeT (s:=(zah L [84] ts stk b).1) (b:=(zah L [84] ts stk b).2) (fun e=>zbI _ _ _ (hb e)) hl hs (zdK _ _ _ _ _)
def zqI(L:List zb)(b:Bool)(x:zH):Bool:=b||!((zmQ L x.C x.M).2.2&&((zmQ L x.C x.M).2.1.Static == ((x.Op == (40:Int))||(x.Op == (41:Int)))))
def zuY(L:List zb)(stk:List Tx)(b:Bool)(x:zH):List Tx×Bool:=
 cond (x.Op == 38) ((zah L [84] [x.C] stk (zqI L b x)).1++[(zmQ L x.C x.M).2.1.Type_],(zah L [84] [x.C] stk (zqI L b x)).2)
  (cond (x.Op == 39) (zah L [84] [(zmQ L x.C x.M).2.1.Type_,x.C] stk (zqI L b x))
   (cond (x.Op == 40) (stk++[(zmQ L x.C x.M).2.1.Type_],zqI L b x) (zah L [84] [(zmQ L x.C x.M).2.1.Type_] stk (zqI L b x))))
theorem zpt(h:zeN l L m mt loc stk b)(ho:38≤x.Op∧x.Op≤41)(hC:x.C.length≤25):zk L m c mt loc stk b x=some (loc,zuY L stk b x):=by
 have hT:=(zxI h.made x.C x.M).1
 rw [zsd (by omega)]
 unfold zc3 zuY
 rw [qf (show x.Op≠37 by omega),zzo h.made h.map h.lens]
 simp only [cond_false,Option.bind_some]
 rw [show (((zgP L x.C).findSome? (zyf L x.M)).getD ([],zF,false))=zmQ L x.C x.M from rfl]
 rw [show (b||!((zmQ L x.C x.M).2.2&&((zmQ L x.C x.M).2.1.Static == ((x.Op == (40:Int))||(x.Op == (41:Int))))))=zqI L b x from rfl]
 rw [zfk h.made h.map (sh1 hC) h.shS,zfk h.made h.map (sh2 hC hT) h.shS,zfk h.made h.map (sh1 hT) h.shS,zeE h.shS.len]
 simp only [Option.bind_some,List.reverse_singleton]
 rw [zeE (zd2 (by decide) _ _ _ h.shS).len]
 cases x.Op == 38 <;> cases x.Op == 39 <;> cases x.Op == 40 <;> rfl
theorem zyt(hb:zqI L b x=true):(zuY L stk b x).2=true:=by
 unfold zuY
 cases x.Op == 38 <;> cases x.Op == 39 <;> cases x.Op == 40 <;> first |exact zbI _ _ _ hb |exact hb
theorem zk6(h:zeN l L m mt loc stk b)(hC:x.C.length≤25):zl8 loc stk b (loc,zuY L stk b x):=by
 obtain ⟨hT,hM⟩:=zxI h.made x.C x.M
 have hb0:b=true→zqI L b x=true:=fun e=>by unfold zqI;rw [e];rfl
 have hF:zqI L b x=false→zyN (zmQ L x.C x.M).2.1.Type_:=fun e=>by
  unfold zqI at e
  simp only [Bool.or_eq_false_iff,Bool.not_eq_false',Bool.and_eq_true] at e
  exact zu8 (hM e.2.1) hT
 have ht:∀{ts:List Tx},(zah L [84] ts stk (zqI L b x)).2=false→zqI L b x=false:=fun {ts} e=>by
  cases hq:zqI L b x with
  |false=>rfl
  |true=>rw [zbI _ _ _ hq] at e;cases e
 unfold zuY
 cases x.Op == 38 with
 |true=>exact zeg (fun e=>zbI _ _ _ (hb0 e)) h.shL h.shS (zdK _ _ _ _ _) hT fun e=>.inr (hF (ht e))
 |false =>
  cases x.Op == 39 with
  |true=>exact zo7 hb0 h.shL h.shS
  |false =>
   cases x.Op == 40 with
   |true=>exact zeg hb0 h.shL h.shS (List.prefix_refl _) hT fun e=>.inr (hF e)
   |false=>exact zo7 hb0 h.shL h.shS
theorem zvu(h:zeN l L m mt loc stk b)(ho:38≤x.Op∧x.Op≤41)(hC:x.C.length≤25):
  ∃p r,zk L m c mt loc stk b x=some p∧zm L c mt loc stk b x=some r∧znI mt.Stack p r∧zl8 loc stk b p:=by
 have h26:=h.made.len
 have hT:=(zxI h.made x.C x.M).1
 have hD:zcs L c mt loc stk b x=cond (!zc7 L x.C) (some (stk,true)) (cond (zqI L b x) (some (stk,zqI L b x))
   (cond ((x.Op == (39:Int))||(x.Op == (41:Int))) ((zS L c mt loc stk (zqI L b x) [(zmQ L x.C x.M).2.1.Type_]).bind fun v12=>zaz L c mt loc x (zmQ L x.C x.M) v12.1 v12.2) (zaz L c mt loc x (zmQ L x.C x.M) stk (zqI L b x)))):=by
  unfold zcs
  rw [zjQ (by omega)]
  simp only [Option.bind_some]
  rw [zoj,qf (show x.Op≠37 by omega),zrX h.made h.lens]
  rfl
 cases hb:zqI L b x with
 |true =>
  refine ⟨_,(loc,stk,true),zpt (c:=c) h ho hC,?_,zfK (zyt hb) rfl,zk6 h hC⟩
  rw [instr_field (by omega),hD,hb]
  cases zc7 L x.C <;> rfl
 |false =>
  have hn:zc7 L x.C=true:=by
   cases hq:zc7 L x.C with
   |true=>rfl
   |false =>
    have:zmQ L x.C x.M=([],zF,false):=by unfold zmQ;rw [zlr hq];rfl
    unfold zqI at hb
    rw [this] at hb
    simp at hb
  rw [hn,hb] at hD
  simp only [Bool.not_true,cond_false] at hD
  have hr:=h.room
  have hl1:=zjn (L:=L) [84] [x.C] stk false
  have hl2:=zjn (L:=L) [84] [(zmQ L x.C x.M).2.1.Type_,x.C] stk false
  have hl3:=zjn (L:=L) [84] [(zmQ L x.C x.M).2.1.Type_] stk false
  have hs3:=zd2 (L:=L) (e:=[84]) (by decide) [(zmQ L x.C x.M).2.1.Type_] stk false h.shS
  have ho4:x.Op=38∨x.Op=39∨x.Op=40∨x.Op=41:=by omega
  rcases ho4 with h4 |h4 |h4 |h4
  ·have e:zuY L stk b x=((zah L [84] [x.C] stk false).1++[(zmQ L x.C x.M).2.1.Type_],(zah L [84] [x.C] stk false).2):=by unfold zuY;rw [hb,qt h4];rfl
   have hO:=zpt (c:=c) h ho hC
   have hK:=zk6 (x:=x) h hC
   rw [e] at hO hK
   refine ⟨_,_,hO,?_,zex _,hK⟩
   ·rw [instr_field (by omega),hD]
    unfold zaz zba
    rw [qf (show x.Op≠39 by omega),qf (show x.Op≠41 by omega),qt h4]
    simp only [Bool.or_false,Bool.true_or,cond_false,cond_true]
    rw [zeh h.made (sh1 hC) h.shS,zeF [78] [84]]
    simp only [Option.bind_some,List.reverse_singleton]
    rw [zeG (zd2 (by decide) _ _ _ h.shS).len]
    rfl
  ·have e:zuY L stk b x=zah L [84] [(zmQ L x.C x.M).2.1.Type_,x.C] stk false:=by unfold zuY;rw [hb,qf (show x.Op≠38 by omega),qt h4];rfl
   refine ⟨_,(loc,zah L [84] [(zmQ L x.C x.M).2.1.Type_,x.C] stk false),zpt (c:=c) h ho hC,?_,?_,zk6 (x:=x) h hC⟩
   ·rw [instr_field (by omega),hD]
    unfold zaz zba
    rw [qf (show x.Op≠38 by omega),qf (show x.Op≠40 by omega),qt h4]
    simp only [Bool.or_false,Bool.true_or,Bool.or_true,cond_false,cond_true]
    rw [zeh h.made (sh1 hT) h.shS,zeF [78] [84]]
    simp only [Option.bind_some,List.reverse_singleton]
    rw [zeh h.made (sh1 hC) hs3,zeF [78] [84]]
    rfl
   ·rw [e];exact zeV fun _=>by show ((zah L [84] [(zmQ L x.C x.M).2.1.Type_,x.C] stk false).1.length:Int)≤mt.Stack;omega
  ·have e:zuY L stk b x=(stk++[(zmQ L x.C x.M).2.1.Type_],false):=by unfold zuY;rw [hb,qf (show x.Op≠38 by omega),qf (show x.Op≠39 by omega),qt h4];rfl
   have hO:=zpt (c:=c) h ho hC
   have hK:=zk6 (x:=x) h hC
   rw [e] at hO hK
   refine ⟨_,_,hO,?_,zex _,hK⟩
   ·rw [instr_field (by omega),hD]
    unfold zaz zba
    rw [qf (show x.Op≠38 by omega),qf (show x.Op≠39 by omega),qf (show x.Op≠41 by omega),qt h4]
    simp only [Bool.or_false,Bool.or_true,cond_false,cond_true]
    rw [zeG h.shS.len]
    rfl
  ·have e:zuY L stk b x=zah L [84] [(zmQ L x.C x.M).2.1.Type_] stk false:=by unfold zuY;rw [hb,qf (show x.Op≠38 by omega),qf (show x.Op≠39 by omega),qf (show x.Op≠40 by omega)];rfl
   refine ⟨_,(loc,zah L [84] [(zmQ L x.C x.M).2.1.Type_] stk false),zpt (c:=c) h ho hC,?_,?_,zk6 (x:=x) h hC⟩
   ·rw [instr_field (by omega),hD]
    unfold zaz zba
    rw [qf (show x.Op≠38 by omega),qf (show x.Op≠39 by omega),qf (show x.Op≠40 by omega),qt h4]
    simp only [Bool.or_false,Bool.or_true,cond_false,cond_true]
    rw [zeh h.made (sh1 hT) h.shS,zeF [78] [84]]
    rfl
   ·rw [e];exact zeV fun _=>by show ((zah L [84] [(zmQ L x.C x.M).2.1.Type_] stk false).1.length:Int)≤mt.Stack;omega
end
section
variable {l L : List zb} {m : List (Tx × Int)} {c : Tx} {mt : zd} {loc stk : List Tx} {b : Bool} {x : zH}
theorem instr_call(ho:42≤x.Op∧x.Op≤45):zm L c mt loc stk b x=(zdl L c mt loc stk b x).bind fun v=>some (loc,v.1,v.2):=by
 unfold zm
 rw [cf (by omega),cf (by omega),qf (show x.Op≠20 by omega),cf (by omega),ct ho]
 rfl
def zyX(t:Tx)(p:List Tx×Bool):List Tx×Bool:=cond (!(t == [86])) (p.1++[t],p.2) p
def zvf(L:List zb)(c:Tx)(x:zH)(s:Tx)(p:List Tx×Bool):List Tx×Bool:=
 cond ((x.Op == 43)||(x.Op == 45)) (zah L [84] [x.C] p.1 p.2)
  (cond (x.Op == 44) ((zb2 [84] p.1 p.2).2.1,(zb2 [84] p.1 p.2).2.2||!(zmd L (zb2 [84] p.1 p.2).1 x.C&&(zmd L (zb2 [84] p.1 p.2).1 c&&(zgP L c).any (fun y=>s == y)))) p)
def zro(L:List zb)(c:Tx)(stk:List Tx)(b:Bool)(x:zH)(s:Tx)(f:zd)(ok:Bool):List Tx×Bool:=
 zyX f.Ret (zvf L c x s (zah L [84] f.Params.reverse stk (b||!(ok&&(f.Static == (x.Op == (42:Int)))))))
theorem zuV(c:Tx)(x:zH)(s:Tx)(p:List Tx×Bool):(zvf L c x s p).1<+:p.1:=by
 unfold zvf
 cases (x.Op == 43)||(x.Op == 45) with
 |true=>exact zdK _ _ _ _ _
 |false =>
  cases x.Op == 44 with
  |true=>exact zgX _ _ _
  |false=>exact List.prefix_refl _
theorem zrz{c:Tx}{x:zH}{s:Tx}{p:List Tx×Bool}(h:p.2=true):(zvf L c x s p).2=true:=by
 unfold zvf
 cases (x.Op == 43)||(x.Op == 45) with
 |true=>exact zbI _ _ _ h
 |false =>
  cases x.Op == 44 with
  |true=>show ((zb2 [84] p.1 p.2).2.2||_)=true;rw [zg1 h];rfl
  |false=>exact h
theorem zu0(h:zeN l L m mt loc stk b){s:Tx}{f:zd}{ok:Bool}(hR:f.Ret.length≤25)(hM:ok=true→zsS f.Ret=true):zl8 loc stk b (loc,zro L c stk b x s f ok):=by
 have hp:=(zuV (L:=L) c x s (zah L [84] f.Params.reverse stk (b||!(ok&&(f.Static == (x.Op == (42:Int))))))).trans (zdK _ _ _ _ _)
 have hb:b=true→(zvf L c x s (zah L [84] f.Params.reverse stk (b||!(ok&&(f.Static == (x.Op == (42:Int))))))).2=true:=fun e=>zrz (zbI _ _ _ (by rw [e];rfl))
 unfold zro zyX
 cases hv:f.Ret == [86] with
 |true=>exact zeT hb h.shL h.shS hp
 |false =>
  refine zeg hb h.shL h.shS hp hR fun e=>.inr ?_
  have:ok=true:=by
   cases ok with
   |true=>rfl
   |false =>
    rw [zrz (zbI _ _ _ (by simp))] at e
    cases e
  have hr:=hM this
  unfold zsS at hr
  rw [hv] at hr
  exact zu8 (by simpa using hr) hR
theorem zw8{f:zd}(h1:∀s∈f.Params,zfH s=true)(h2:f.Params.length≤6):ShL f.Params:=⟨by omega,fun s hs=>zoc (h1 s hs)⟩
theorem zyq{f:zd}{s:List Tx}{e:Bool}(hs:s.length≤1000):zaC L m c mt loc f s e=some (zyX f.Ret (s,e)):=by
 unfold zaC zyX
 rw [zeE hs]
 cases f.Ret == [86] <;> rfl
theorem zAd(h:zeN l L m mt loc stk b)(ho:42≤x.Op∧x.Op≤45)(hC:x.C.length≤25)(hc:c.length≤25){s:Tx}{f:zd}{ok:Bool}(h1:∀s∈f.Params,zfH s=true)(h2:f.Params.length≤6):
  zbg L m c mt loc stk b x s f ok=some (zro L c stk b x s f ok):=by
 have h26:=zg2 h.made c
 unfold zbg zro
 rw [zfk h.made h.map (zw8 h1 h2) h.shS]
 simp only [Option.bind_some]
 generalize hq:zah L [84] f.Params.reverse stk (b||!(ok&&(f.Static == (x.Op == (42:Int)))))=q
 have hs:ShL q.1:=by rw [←hq];exact zd2 (by decide) _ _ _ h.shS
 obtain ⟨g1,g2⟩:=zd0 (b:=q.2) hs (e:=[84]) (by decide)
 have hT:∀v:Bool,v=true→za3 L m c mt loc x s f q v=some (zyX f.Ret (zah L [84] [x.C] q.1 q.2)):=fun v hv=>by
  unfold za3
  rw [hv]
  simp only [cond_true]
  rw [zfk h.made h.map (sh1 hC) hs]
  simp only [Option.bind_some,List.reverse_singleton]
  rw [zyq (zd2 (by decide) _ _ _ hs).len]
 have ho4:x.Op=42∨x.Op=43∨x.Op=44∨x.Op=45:=by omega
 unfold zvf
 rcases ho4 with h4 |h4 |h4 |h4
 ·rw [qf (show x.Op≠43 by omega),qf (show x.Op≠45 by omega),qf (show x.Op≠44 by omega)]
  simp only [cond_false,Bool.or_false]
  unfold za3
  rw [qf (show x.Op≠44 by omega)]
  simp only [cond_false]
  exact zyq hs.len
 ·rw [qt h4]
  simp only [cond_true,Bool.true_or]
  exact hT _ rfl
 ·rw [qf (show x.Op≠43 by omega),qf (show x.Op≠45 by omega),qt h4]
  simp only [cond_false,Bool.or_false,cond_true]
  unfold za3
  rw [qt h4]
  simp only [cond_false,cond_true]
  rw [zme hs.len]
  simp only [Option.bind_some]
  rw [zoK h.made h.map g1 hC,zoK h.made h.map g1 hc,zlD h.made h.map]
  simp only [Option.bind_some]
  rw [zoN (by omega)]
  simp only [Option.bind_some]
  rw [zyq g2.len,zyq g2.len]
  cases zmd L (zb2 [84] q.1 q.2).1 x.C <;> cases zmd L (zb2 [84] q.1 q.2).1 c <;> rfl
 ·rw [qf (show x.Op≠43 by omega),qt h4]
  simp only [cond_false,cond_true,Bool.or_true]
  exact hT _ rfl
theorem zyY(T:List Tx)(s:Tx):(T.any fun y=>s == y)=T.any fun y=>y == s:=by
 congr 1
 funext y
 rw [Bool.eq_iff_iff,beq_iff_eq,beq_iff_eq]
 exact eq_comm
theorem zBV(h:zeN l L m mt loc stk false)(ho:42≤x.Op∧x.Op≤45)(hC:x.C.length≤25)(hc:c.length≤25){s:Tx}{f:zd}(h1:∀s∈f.Params,zfH s=true)(h2:f.Params.length≤6):
  zaG L c mt loc stk false x f s true=za4 L c mt loc f (zvf L c x s (zah L [84] f.Params.reverse stk false)).1 (zvf L c x s (zah L [84] f.Params.reverse stk false)).2:=by
 have h26:=zg2 h.made c
 unfold zaG
 simp only [Bool.not_true,Bool.or_false,cond_false]
 rw [zeh h.made (zw8 h1 h2) h.shS,zeF [78] [84]]
 simp only [Option.bind_some]
 generalize hq:zah L [84] f.Params.reverse stk false=q
 have hs:ShL q.1:=by rw [←hq];exact zd2 (by decide) _ _ _ h.shS
 obtain ⟨g1,g2⟩:=zd0 (b:=q.2) hs (e:=[78]) (by decide)
 have ho4:x.Op=42∨x.Op=43∨x.Op=44∨x.Op=45:=by omega
 unfold zvf
 rw [ziW hs.len]
 simp only [Option.bind_some]
 rw [zhp h.made g1 hC,zhp h.made g1 hc,zhE h.made]
 simp only [Option.bind_some]
 rw [zl2 (by omega)]
 simp only [Option.bind_some]
 rcases ho4 with h4 |h4 |h4 |h4
 ·rw [qt h4,qf (show x.Op≠43 by omega),qf (show x.Op≠45 by omega),qf (show x.Op≠44 by omega)]
  rfl
 ·rw [qt h4,qf (show x.Op≠42 by omega),qf (show x.Op≠44 by omega),zeF [84] [78]]
  rfl
 ·rw [qt h4,qf (show x.Op≠42 by omega),qf (show x.Op≠43 by omega),qf (show x.Op≠45 by omega)]
  simp only [Bool.not_false,cond_true,cond_false,Bool.or_false]
  have e2:=zjS [84] [78] q.1 q.2
  rw [zyY,e2]
  have e3:((zb2 [78] q.1 q.2).2.2||!(zmd L (zb2 [84] q.1 q.2).1 x.C&&(zmd L (zb2 [84] q.1 q.2).1 c&&(zgP L c).any (fun y=>y == s))))=((zb2 [78] q.1 q.2).2.2||!(zmd L (zb2 [78] q.1 q.2).1 x.C&&(zmd L (zb2 [78] q.1 q.2).1 c&&(zgP L c).any (fun y=>y == s)))):=
   zpj fun e=>by rw [zeM [78] [84] q.1 q.2 e]
  rw [e3]
  cases zmd L (zb2 [78] q.1 q.2).1 x.C <;> cases zmd L (zb2 [78] q.1 q.2).1 c <;> cases (zgP L c).any (fun y=>y == s) <;> simp
 ·rw [qt h4,qf (show x.Op≠42 by omega),qf (show x.Op≠43 by omega),qf (show x.Op≠44 by omega),zeF [84] [78]]
  rfl
theorem zuu(h:zeN l L m mt loc stk b)(ho:42≤x.Op∧x.Op≤45)(hC:x.C.length≤25)(hc:c.length≤25){s:Tx}{f:zd}{ok:Bool}(h1:∀s∈f.Params,zfH s=true)(h2:f.Params.length≤6)(h3:f.Ret.length≤25)(h4:ok=true→zsS f.Ret=true)
  (hP:zcH L m c mt loc stk b x=zbg L m c mt loc stk b x s f ok) (hD:zdl L c mt loc stk b x=zaG L c mt loc stk b x f s (ok&&(f.Static == (x.Op == (42:Int))))):
  ∃p r,zk L m c mt loc stk b x=some p∧zm L c mt loc stk b x=some r∧znI mt.Stack p r∧zl8 loc stk b p:=by
 have hO:zk L m c mt loc stk b x=some (loc,zro L c stk b x s f ok):=by
  rw [zyn ho,hP,zAd h ho hC hc h1 h2];rfl
 have hK:=zu0 (c:=c) (x:=x) (s:=s) h h3 h4
 cases hb:(b||!(ok&&(f.Static == (x.Op == (42:Int))))) with
 |true =>
  refine ⟨_,(loc,stk,true),hO,?_,zfK ?_ rfl,hK⟩
  ·rw [instr_call ho,hD]
   unfold zaG
   rw [hb];rfl
  ·show (zro L c stk b x s f ok).2=true
   have:(zvf L c x s (zah L [84] f.Params.reverse stk (b||!(ok&&(f.Static == (x.Op == (42:Int))))))).2=true:=zrz (zbI _ _ _ hb)
   unfold zro zyX
   cases f.Ret == [86] <;> exact this
 |false =>
  have hb1:b=false:=by simp only [Bool.or_eq_false_iff] at hb;exact hb.1
  have hb2:(ok&&(f.Static == (x.Op == (42:Int))))=true:=by simp only [Bool.or_eq_false_iff,Bool.not_eq_false'] at hb;exact hb.2
  subst hb1
  rw [hb2,zBV h ho hC hc h1 h2] at hD
  have hl:=(zuV (L:=L) c x s (zah L [84] f.Params.reverse stk false)).length_le
  have hl2:=zjn (L:=L) [84] f.Params.reverse stk false
  have hr:=h.room
  have hsh:=h.shS.1
  have eK:zro L c stk false x s f ok=zyX f.Ret (zvf L c x s (zah L [84] f.Params.reverse stk false)):=by unfold zro;rw [hb]
  generalize zvf L c x s (zah L [84] f.Params.reverse stk false)=q at hD hl eK
  cases hv:f.Ret == [86] with
  |true =>
   refine ⟨_,(loc,q.1,q.2),hO,?_,?_,hK⟩
   ·rw [instr_call ho,hD]
    unfold za4
    rw [hv];rfl
   ·rw [eK]
    unfold zyX
    rw [hv]
    exact zeV fun _=>by omega
  |false =>
   rw [eK] at hO hK
   unfold zyX at hO hK
   rw [hv] at hO hK
   refine ⟨_,_,hO,?_,zex _,hK⟩
   rw [instr_call ho,hD]
   unfold za4
   rw [hv]
   simp only [Bool.not_false,cond_true]
   rw [zeG (by omega)]
   rfl
theorem zwO(h:zeN l L m mt loc stk b)(ho:42≤x.Op∧x.Op≤45)(hC:x.C.length≤25)(hc:c.length≤25):
  ∃p r,zk L m c mt loc stk b x=some p∧zm L c mt loc stk b x=some r∧znI mt.Stack p r∧zl8 loc stk b p:=by
 by_cases h5:x.Op=45
 ·obtain ⟨⟨k1,k2,k3,k4⟩,k5⟩:=zA4 h.made x.C x.M
  refine zuu (s:=(zoD L x.C x.M).1) (f:=(zoD L x.C x.M).2.1) (ok:=(zoD L x.C x.M).2.2) h ho hC hc k1 k2 k3 k4 ?_ ?_
  ·unfold zcH
   rw [zsq h.made h.map h.lens,qt h5,zAC h.made h.map h.lens]
   rfl
  ·unfold zdl
   rw [qt h5,zts h.made h.lens,qf (show x.Op≠42 by omega)]
   show zaG L c mt loc stk b x _ _ _=_
   congr 1
   cases hq:(zoD L x.C x.M).2.2 with
   |false=>rfl
   |true=>rw [k5 hq];rfl
 ·obtain ⟨k1,k2,k3,k4⟩:=zxb h.made zcy x.M (zgP L x.C)
  generalize hR:((zgP L x.C).findSome? (zrb L zcy x.M)).getD ([],zM,false)=R at k1 k2 k3 k4
  refine zuu (s:=R.1) (f:=R.2.1) (ok:=R.2.2&&!R.2.1.Abstract) h ho hC hc k1 k2 k3 (fun e=>k4 (by rw [Bool.and_eq_true] at e;exact e.1)) ?_ ?_
  ·unfold zcH
   rw [zsq h.made h.map h.lens,qf h5,hR]
   rfl
  ·unfold zdl
   rw [qf h5,zqZ h.made h.lens,hR]
   show zaG L c mt loc stk b x _ _ _=_
   congr 1
   cases R.2.2 <;> cases R.2.1.Abstract <;> cases R.2.1.Static == (x.Op == (42:Int)) <;> rfl
end
section
variable {l L : List zb} {m : List (Tx × Int)} {c : Tx} {mt : zd} {loc stk : List Tx} {b : Bool} {x : zH}
theorem instr_arrays(ho:49≤x.Op∧x.Op≤55):zm L c mt loc stk b x=(zaS L c mt loc stk b x).bind fun v=>some (loc,v.1,v.2):=by
 unfold zm
 rw [cf (by omega),cf (by omega),qf (show x.Op≠20 by omega),cf (by omega),cf (by omega),ct ho]
 rfl
def zxU(C:Tx):Tx:=cond (zfH (91 ::C)) (91 ::C) []
theorem zAD{C:Tx}(h:zfH (91 ::C)=true):zfH C=true:=by
 have e:zfa (91 ::C)=C:=by rw [zgt,if_pos rfl]
 unfold zfH at h ⊢
 rw [e] at h
 have hb:brk (zfa C)=false:=by
  rw [Bool.or_eq_true] at h
  rcases h with h |h
  ·have:zfa C=[73]:=by simpa using h
   rw [this];rfl
  ·exact zjI h
 rw [zl1 hb]
 exact h
theorem zry{C:Tx}(h:C.length≤1000):zjF C=some (zxU C):=by
 unfold zjF zxU
 have hl:Len C:=by show C.length≤9223372036854775807;omega
 have hl2:Len (91 ::C):=by show (91 ::C).length≤9223372036854775807;simp;omega
 rw [zg7 hl,zv9 (by simp;omega)]
 simp only [Option.bind_some,List.singleton_append]
 rw [zg7 hl2]
 cases h1:zfH (91 ::C) with
 |true=>rw [zAD h1];rfl
 |false=>cases zfH C <;> rfl
theorem zqN{C:Tx}(h:C.length≤1000):zj3 C=some (zxU C):=by
 unfold zj3 zxU
 have hl2:Len (91 ::C):=by show (91 ::C).length≤9223372036854775807;simp;omega
 rw [zv9 (by simp;omega)]
 simp only [Option.bind_some,List.singleton_append]
 rw [ze8 hl2]
 cases zfH (91 ::C) <;> rfl
theorem zwp(x:UInt8):((x.toNat:Int) == (91:Int))=(x == 91):=by
 rw [Bool.eq_iff_iff,beq_iff_eq,beq_iff_eq]
 constructor
 ·intro h;exact UInt8.toNat_inj.1 (by simpa using (Int.ofNat_inj.1 h))
 ·intro h;rw [h];rfl
theorem zsN{s:Tx}(h:Len s):zli s=some (zhT s):=by
 unfold zli zhT
 rw [ze8 h]
 cases hm:zfH s with
 |false=>rfl
 |true =>
  cases s with
  |nil =>
   exfalso
   unfold zfH at hm
   rw [show zfa (zfa [])=[] from rfl] at hm
   simp at hm
   exact zjT hm rfl
  |cons x r =>
   simp only [Option.bind_some,Bool.not_true,cond_false,Bool.true_and]
   rw [ziG]
   simp only [List.getElem?_cons_zero,Option.bind_some,zwp]
   rw [show (1:Int)=((1:Nat):Int) from rfl,zir (by simp)]
   show cond (!(x == 91)) _ _=some (cond (x == 91) _ _)
   cases x == 91 <;> rfl
theorem zsx(hs:ShL stk):zdQ L c mt loc stk b=some (zkn [78] stk b):=by
 unfold zdQ zkn
 obtain ⟨h1,h2⟩:=zd0 (b:=b) hs (e:=[78]) (by decide)
 rw [ziW hs.len]
 simp only [Option.bind_some]
 rw [zsN (ztI h1)]
 cases hq:(zb2 [78] stk b).1 == [78] with
 |true =>
  have e:(zb2 [78] stk b).1=[78]:=by simpa using hq
  rw [e];simp
 |false=>rfl
def zBg(t:Tx):Bool:=(t == [78])||(decide (1<(t.length:Int))&&brk t)
theorem zAh(t:Tx):((cond (t == [78]) (some true) ((cond (decide (1<(List.length t:Int))) ((idx t 0).bind fun v16=>some ((v16.toNat:Int) == (91:Int))) (some false)).bind fun v17=>some v17)):Option Bool)=some (zBg t):=by
 unfold zBg
 cases t == [78] with
 |true=>rfl
 |false =>
  cases t with
  |nil=>rfl
  |cons x r =>
   rw [ziG]
   simp only [List.getElem?_cons_zero,Option.bind_some,zwp]
   show ((cond (decide (1<(List.length (x ::r):Int))) (some (x == 91)) (some false)).bind fun v17=>some v17)=some (false||(decide (1<(List.length (x ::r):Int))&&(x == 91)))
   cases decide (1<(List.length (x ::r):Int)) <;> rfl
theorem zBF{t:Tx}(h:onS t):zBg t=((zhT t).2||(t == [78])):=by
 rcases h with rfl |h
 ·unfold zBg
  rw [beq_self_eq_true];simp
 ·unfold zBg zhT
  rw [h]
  cases hb:brk t with
  |false=>simp
  |true =>
   have h1:=(zoL h hb).1
   have h2:t.drop 1≠[]:=fun e=>by
    rw [e] at h1
    unfold zfH at h1
    rw [show zfa (zfa [])=[] from rfl] at h1
    simp at h1
    exact zjT h1 rfl
   have h3:1<t.length:=by
    have:0<(t.drop 1).length:=List.length_pos_iff.2 h2
    simp at this
    omega
   rw [decide_eq_true (show 1<(t.length:Int) by omega)]
   simp
def thA(L:List zb)(C:Tx):Bool:=zfH (91 ::C)&&thN L (91 ::C)
theorem zzY(C:Tx)(T:Tx→Bool)(h:zfH (91 ::C)=true→T (91 ::C)=thN L (91 ::C)):(cond (!(zxU C == [])) (some (T (zxU C))) (some false))=some (thA L C):=by
 unfold zxU thA
 cases hm:zfH (91 ::C) with
 |true =>
  rw [←h hm]
  rfl
 |false=>rfl
theorem zwz(h:zeN l L m mt loc stk b)(ho:x.Op=49∨x.Op=50∨x.Op=52∨x.Op=53)(hC:x.C.length≤10):
  ∃p r,zk L m c mt loc stk b x=some p∧zm L c mt loc stk b x=some r∧znI mt.Stack p r∧zl8 loc stk b p:=by
 have hI:=zly.1
 have hA:([91,73]:Tx).length≤25:=by decide
 have hr:=h.room
 rcases ho with h4 |h4 |h4 |h4
 ·refine ⟨(loc,(zah L [84] [[73]] stk b).1++[[91,73]],(zah L [84] [[73]] stk b).2),_,?_,?_,zex _,zeg (zbI _ _ _) h.shL h.shS (zdK _ _ _ _ _) hA fun _=>.inr ⟨hA,.inr (by decide +kernel)⟩⟩
  ·rw [zh9 (by omega)]
   unfold zax
   rw [qt h4]
   simp only [cond_true]
   rw [zfk h.made h.map (sh1 hI) h.shS]
   simp only [Option.bind_some,List.reverse_singleton]
   rw [zeE (zd2 (by decide) _ _ _ h.shS).len]
   rfl
  ·rw [instr_arrays (by omega)]
   unfold zaS
   rw [qt h4]
   simp only [cond_true]
   rw [zeh h.made (sh1 hI) h.shS,zeF [78] [84]]
   simp only [Option.bind_some,List.reverse_singleton]
   rw [zeG (zd2 (by decide) _ _ _ h.shS).len]
   rfl
 ·have hT:(zxU x.C).length≤25:=by
   unfold zxU
   cases zfH (91 ::x.C)
   ·exact Nat.zero_le _
   ·show (91 ::x.C).length≤25
    simp;omega
  refine ⟨(loc,(zah L [84] [[73]] stk (b||!thA L x.C)).1++[zxU x.C],(zah L [84] [[73]] stk (b||!thA L x.C)).2),_,?_,?_,zex _,zeg (fun e=>zbI _ _ _ (by rw [e];rfl)) h.shL h.shS (zdK _ _ _ _ _) hT fun e=>.inr ?_⟩
  ·rw [zh9 (by omega)]
   unfold zax
   rw [qf (show x.Op≠49 by omega),qt h4]
   simp only [cond_true,cond_false]
   rw [zry (by omega)]
   simp only [Option.bind_some]
   rw [znN h.made h.map hT]
   simp only [Option.bind_some]
   rw [zzY x.C (zrH L) fun hm=>zqK hm]
   simp only [Option.bind_some]
   rw [zfk h.made h.map (sh1 hI) h.shS]
   simp only [Option.bind_some,List.reverse_singleton]
   rw [zeE (zd2 (by decide) _ _ _ h.shS).len]
   rfl
  ·rw [instr_arrays (by omega)]
   unfold zaS
   rw [qf (show x.Op≠49 by omega),qt h4]
   simp only [cond_true,cond_false]
   rw [zqN (by omega)]
   simp only [Option.bind_some]
   rw [zd5 h.made (by omega)]
   simp only [Option.bind_some]
   rw [zzY x.C (thN L) fun hm=>rfl]
   simp only [Option.bind_some]
   rw [zeh h.made (sh1 hI) h.shS,zeF [78] [84]]
   simp only [Option.bind_some,List.reverse_singleton]
   rw [zeG (zd2 (by decide) _ _ _ h.shS).len]
   rfl
  ·have hth:thA L x.C=true:=by
    cases hq:thA L x.C with
    |true=>rfl
    |false=>rw [hq,zbI _ _ _ (by simp)] at e;cases e
   unfold thA at hth
   rw [Bool.and_eq_true] at hth
   unfold zxU at hT ⊢
   rw [hth.1] at hT ⊢
   exact zu8 hth.1 hT
 ·refine ⟨(loc,(zah L [84] [[73],[91,73]] stk b).1++[[73]],(zah L [84] [[73],[91,73]] stk b).2),_,?_,?_,zex _,zeg (zbI _ _ _) h.shL h.shS (zdK _ _ _ _ _) hI fun _=>.inr zly⟩
  ·rw [zh9 (by omega)]
   unfold zax
   rw [qf (show x.Op≠49 by omega),qf (show x.Op≠50 by omega),qf (show x.Op≠51 by omega),qt h4]
   simp only [cond_true,cond_false]
   rw [zfk h.made h.map (sh2 hA hI) h.shS]
   simp only [Option.bind_some]
   rw [show ([[91,73],[73]]:List Tx).reverse=[[73],[91,73]] from rfl,zeE (zd2 (by decide) _ _ _ h.shS).len]
   rfl
  ·rw [instr_arrays (by omega)]
   unfold zaS
   rw [qf (show x.Op≠49 by omega),qf (show x.Op≠50 by omega),qf (show x.Op≠51 by omega),qt h4]
   simp only [cond_true,cond_false]
   rw [zeh h.made (sh2 hA hI) h.shS,zeF [78] [84]]
   simp only [Option.bind_some]
   rw [show ([[91,73],[73]]:List Tx).reverse=[[73],[91,73]] from rfl,zeG (zd2 (by decide) _ _ _ h.shS).len]
   rfl
 ·have hl:=zjn (L:=L) [84] [[73],[73],[91,73]] stk b
  refine ⟨(loc,zah L [84] [[73],[73],[91,73]] stk b),(loc,zah L [84] [[73],[73],[91,73]] stk b),?_,?_,zeV fun _=>by show ((zah L [84] [[73],[73],[91,73]] stk b).1.length:Int)≤mt.Stack;omega,zo7 id h.shL h.shS⟩
  ·rw [zh9 (by omega)]
   unfold zax
   rw [qf (show x.Op≠49 by omega),qf (show x.Op≠50 by omega),qf (show x.Op≠51 by omega),qf (show x.Op≠52 by omega),qt h4]
   simp only [cond_true,cond_false]
   rw [zfk h.made h.map (sh3 hA hI hI) h.shS]
   rfl
  ·rw [instr_arrays (by omega)]
   unfold zaS
   rw [qf (show x.Op≠49 by omega),qf (show x.Op≠50 by omega),qf (show x.Op≠51 by omega),qf (show x.Op≠52 by omega),qt h4]
   simp only [cond_true,cond_false]
   rw [zeh h.made (sh3 hA hI hI) h.shS,zeF [78] [84]]
   rfl
theorem zAI(e:Tx)(s:List Tx)(b:Bool):(zkn e s b).2.1.length≤s.length:=zo9 e s b
theorem zBa{s:List Tx}{b:Bool}(hs:∀t∈s,onS t)(hl:∀t∈s,t.length≤25)(h:(zkn [84] s b).2.2=false):zyN (zkn [84] s b).1:=by
 unfold zkn at h ⊢
 simp only [Bool.or_eq_false_iff,Bool.not_eq_false'] at h
 have hin:=zlj h.1
 generalize (zb2 [84] s b).1=t at h hin
 have h1:=hl t hin
 simp only
 cases hq:t == [78] with
 |true =>
  have e:t=[78]:=by simpa using hq
  rw [e];exact zyu
 |false =>
  rw [hq] at h
  simp only [Bool.false_or,Bool.and_eq_true] at h
  have h2:=h.2.1
  unfold zhT at h2 ⊢
  cases hb:zfH t&&brk t with
  |false=>rw [hb] at h2;cases h2
  |true =>
   rw [Bool.and_eq_true] at hb
   refine zu8 (zoL hb.1 hb.2).1 ?_
   show (t.drop 1).length≤25
   simp;omega
theorem zxW(h:zeN l L m mt loc stk b)(ho:x.Op=51∨x.Op=54∨x.Op=55):
  ∃p r,zk L m c mt loc stk b x=some p∧zm L c mt loc stk b x=some r∧znI mt.Stack p r∧zl8 loc stk b p:=by
 have hI:=zly.1
 have hr:=h.room
 rcases ho with h4 |h4 |h4
 ·obtain ⟨g1,g2⟩:=zd0 (b:=b) h.shS (e:=[84]) (by decide)
  obtain ⟨k1,k2⟩:=zd0 (b:=b) h.shS (e:=[78]) (by decide)
  have hb:((zb2 [78] stk b).2.2||!zBg (zb2 [78] stk b).1)=((zb2 [84] stk b).2.2||!((zhT (zb2 [84] stk b).1).2||((zb2 [84] stk b).1 == [78]))):=by
   have e2:=zjS [78] [84] stk b
   rw [e2]
   refine zpj fun e=>?_
   rw [←zeM [84] [78] stk b e,zBF (h.on _ (zlj e))]
  refine ⟨(loc,(zb2 [84] stk b).2.1++[[73]],(zb2 [84] stk b).2.2||!((zhT (zb2 [84] stk b).1).2||((zb2 [84] stk b).1 == [78]))),_,?_,?_,zex _,zeg (fun e=>by rw [zg1 e];rfl) h.shL h.shS (zgX _ _ _) hI fun _=>.inr zly⟩
  ·rw [zh9 (by omega)]
   unfold zax
   rw [qf (show x.Op≠49 by omega),qf (show x.Op≠50 by omega),qt h4]
   simp only [cond_true,cond_false]
   rw [zme h.shS.len]
   simp only [Option.bind_some]
   rw [zhk (ztI g1)]
   simp only [Option.bind_some]
   rw [zeE g2.len]
   rfl
  ·rw [instr_arrays (by omega)]
   unfold zaS
   rw [qf (show x.Op≠49 by omega),qf (show x.Op≠50 by omega),qt h4]
   simp only [cond_true,cond_false]
   rw [ziW h.shS.len]
   simp only [Option.bind_some]
   rw [zAh]
   simp only [Option.bind_some]
   rw [zeG k2.len,hb,zjS [78] [84]]
   rfl
 ·have hT:=zd2 (L:=L) (e:=[84]) (by decide) [[73]] stk b h.shS
  have hP:=zdK L [84] [[73]] stk b
  have hB:b=true→(zah L [84] [[73]] stk b).2=true:=zbI _ _ _
  have hOn:∀t∈(zah L [84] [[73]] stk b).1,onS t:=fun t ht=>h.on t (hP.subset ht)
  have hO:zk L m c mt loc stk b x=some (loc,(zkn [84] (zah L [84] [[73]] stk b).1 (zah L [84] [[73]] stk b).2).2.1++[(zkn [84] (zah L [84] [[73]] stk b).1 (zah L [84] [[73]] stk b).2).1],(zkn [84] (zah L [84] [[73]] stk b).1 (zah L [84] [[73]] stk b).2).2.2):=by
   rw [zh9 (by omega)]
   unfold zax
   rw [qf (show x.Op≠49 by omega),qf (show x.Op≠50 by omega),qf (show x.Op≠51 by omega),qf (show x.Op≠52 by omega),qf (show x.Op≠53 by omega),qt h4]
   simp only [cond_true,cond_false]
   rw [zfk h.made h.map (sh1 hI) h.shS]
   simp only [Option.bind_some,List.reverse_singleton]
   rw [zt9 hT]
   simp only [Option.bind_some]
   rw [zeE (ztu hT (by decide)).2.len]
   rfl
  have hD:zm L c mt loc stk b x=some (loc,(zoq mt.Stack (zkn [78] (zah L [84] [[73]] stk b).1 (zah L [84] [[73]] stk b).2).2.1 (zkn [78] (zah L [84] [[73]] stk b).1 (zah L [84] [[73]] stk b).2).2.2 (zkn [78] (zah L [84] [[73]] stk b).1 (zah L [84] [[73]] stk b).2).1).1,(zoq mt.Stack (zkn [78] (zah L [84] [[73]] stk b).1 (zah L [84] [[73]] stk b).2).2.1 (zkn [78] (zah L [84] [[73]] stk b).1 (zah L [84] [[73]] stk b).2).2.2 (zkn [78] (zah L [84] [[73]] stk b).1 (zah L [84] [[73]] stk b).2).1).2):=by
   rw [instr_arrays (by omega)]
   unfold zaS
   rw [qf (show x.Op≠49 by omega),qf (show x.Op≠50 by omega),qf (show x.Op≠51 by omega),qf (show x.Op≠52 by omega),qf (show x.Op≠53 by omega),qt h4]
   simp only [cond_true,cond_false]
   rw [zeh h.made (sh1 hI) h.shS,zeF [78] [84]]
   simp only [Option.bind_some,List.reverse_singleton]
   rw [zsx hT]
   simp only [Option.bind_some]
   rw [zeG (ztu hT (by decide)).2.len]
   rfl
  generalize zah L [84] [[73]] stk b=q at hT hP hB hOn hO hD
  have hK:zl8 loc stk b (loc,(zkn [84] q.1 q.2).2.1++[(zkn [84] q.1 q.2).1],(zkn [84] q.1 q.2).2.2):=
   zeg (fun e=>zt4 (hB e)) h.shL h.shS ((zuC _ _ _).trans hP) (ztu hT (by decide)).1 fun e=>.inr (zBa hOn hT.2 e)
  refine ⟨_,_,hO,hD,?_,hK⟩
  have e2:=zzz [78] [84] q.1 q.2
  cases hb:(zkn [84] q.1 q.2).2.2 with
  |true=>exact zfK rfl (znC (by rw [e2];exact hb))
  |false =>
   rw [←zu3 [84] [78] q.1 q.2 hb,e2,hb]
   exact zex _
 ·have e2:=(znm (b:=b) h.on).1
  obtain ⟨g1,g2⟩:=zrA (b:=b) h.shS (e:=[84]) (by decide)
  have hP0:=zj8 [84] stk b
  have hB0:b=true→(zhr [84] stk b).2.2=true:=zl0
  have hT:=zd2 (L:=L) (e:=[84]) (by decide) [[73]] (zhr [84] stk b).2.1 (zhr [84] stk b).2.2 g2
  have hP:=(zdK L [84] [[73]] (zhr [84] stk b).2.1 (zhr [84] stk b).2.2).trans hP0
  have hB:b=true→(zah L [84] [[73]] (zhr [84] stk b).2.1 (zhr [84] stk b).2.2).2=true:=fun e=>zbI _ _ _ (hB0 e)
  have hO:zk L m c mt loc stk b x=some (loc,(zkn [84] (zah L [84] [[73]] (zhr [84] stk b).2.1 (zhr [84] stk b).2.2).1 (zah L [84] [[73]] (zhr [84] stk b).2.1 (zhr [84] stk b).2.2).2).2.1,(zkn [84] (zah L [84] [[73]] (zhr [84] stk b).2.1 (zhr [84] stk b).2.2).1 (zah L [84] [[73]] (zhr [84] stk b).2.1 (zhr [84] stk b).2.2).2).2.2):=by
   rw [zh9 (by omega)]
   unfold zax
   rw [qf (show x.Op≠49 by omega),qf (show x.Op≠50 by omega),qf (show x.Op≠51 by omega),qf (show x.Op≠52 by omega),qf (show x.Op≠53 by omega),qf (show x.Op≠54 by omega)]
   simp only [cond_true,cond_false]
   rw [zqp h.shS]
   simp only [Option.bind_some]
   rw [zfk h.made h.map (sh1 hI) g2]
   simp only [Option.bind_some,List.reverse_singleton]
   rw [zt9 hT]
   rfl
  have hD:zm L c mt loc stk b x=some (loc,(zkn [78] (zah L [84] [[73]] (zhr [84] stk b).2.1 (zhr [84] stk b).2.2).1 (zah L [84] [[73]] (zhr [84] stk b).2.1 (zhr [84] stk b).2.2).2).2.1,(zkn [78] (zah L [84] [[73]] (zhr [84] stk b).2.1 (zhr [84] stk b).2.2).1 (zah L [84] [[73]] (zhr [84] stk b).2.1 (zhr [84] stk b).2.2).2).2.2):=by
   rw [instr_arrays (by omega)]
   unfold zaS
   rw [qf (show x.Op≠49 by omega),qf (show x.Op≠50 by omega),qf (show x.Op≠51 by omega),qf (show x.Op≠52 by omega),qf (show x.Op≠53 by omega),qf (show x.Op≠54 by omega),qt h4]
   simp only [cond_true,cond_false]
   rw [zmN h.shS]
   simp only [Option.bind_some]
   rw [e2,zeh h.made (sh1 hI) g2,zeF [78] [84]]
   simp only [Option.bind_some,List.reverse_singleton]
   rw [zsx hT]
   rfl
  rw [zzz [78] [84]] at hD
  have hl:=zAI [84] (zah L [84] [[73]] (zhr [84] stk b).2.1 (zhr [84] stk b).2.2).1 (zah L [84] [[73]] (zhr [84] stk b).2.1 (zhr [84] stk b).2.2).2
  have hl2:=hP.length_le
  exact ⟨_,_,hO,hD,zeV fun _=>by omega,zeT (fun e=>zt4 (hB e)) h.shL h.shS ((zuC _ _ _).trans hP)⟩
end
section
variable {l L : List zb} {m : List (Tx × Int)} {c : Tx} {mt : zd} {loc stk : List Tx} {b : Bool} {x : zH}
theorem zxD{x:zH}(h:zla x=true):(1≤x.Op∧x.Op≤61)∧zjy x.Op x.A=true∧zsw x.Op x.C=true:=by
 unfold zla zke zd8 at h
 simp only [Bool.and_eq_true,decide_eq_true_eq] at h
 exact ⟨h.1.1.1,h.1.1.2,h.1.2⟩
def zzx(L:List zb)(m:List (Tx×Int))(c:Tx)(mt:zd)(loc stk:List Tx)(b:Bool)(x:zH):Prop:=
 ∃p r,zk L m c mt loc stk b x=some p∧zm L c mt loc stk b x=some r∧znI mt.Stack (p.1,p.2.1,cond (zeK x.Op) (p.2.2||!znh L mt p.1 p.2.1 x.A) p.2.2) r∧zl8 loc stk b p
theorem zAA(hj:zeK x.Op=false)(h:∃p r,zk L m c mt loc stk b x=some p∧zm L c mt loc stk b x=some r∧znI mt.Stack p r∧zl8 loc stk b p):zzx L m c mt loc stk b x:=by
 obtain ⟨p,r,h1,h2,h3,h4⟩:=h
 exact ⟨p,r,h1,h2,by rw [hj];exact h3,h4⟩
theorem zy4(h:zeN l L m mt loc stk b)(hk:zlW mt)(hm:zla x=true)(hc:c.length≤25):zzx L m c mt loc stk b x:=by
 obtain ⟨hO,hA,hC⟩:=zxD hm
 have h10:=zCf hm
 by_cases hj:20≤x.Op∧x.Op≤36
 ·have e:zeK x.Op=true:=bt hj
  obtain ⟨p,r,h1,h2,h3,h4⟩:=zw3 (c:=c) h hk hj
  exact ⟨p,r,h1,h2,by rw [e];exact h3,h4⟩
 have e:zeK x.Op=false:=bf hj
 refine zAA e ?_
 by_cases h1:x.Op=1∨x.Op=2
 ·exact zvy h h1
 by_cases h3:x.Op=3
 ·have:0≤x.A:=by
   unfold zjy zd8 at hA
   rw [h3] at hA
   simp at hA
   omega
  exact zxP h h3 this
 by_cases h4:x.Op=4
 ·have:0≤x.A:=by
   unfold zjy zd8 at hA
   rw [h4] at hA
   simp at hA
   omega
  exact zve h h4 this
 by_cases h5:x.Op=5
 ·exact zyh h h5
 by_cases h6:x.Op=6
 ·exact zzh h h6
 by_cases h7:x.Op=7
 ·exact zya h h7
 by_cases h8:8≤x.Op∧x.Op≤19
 ·exact zvS h h8
 by_cases h9:x.Op=37
 ·exact zzu h h9 (by omega)
 by_cases h11:38≤x.Op∧x.Op≤41
 ·exact zvu h h11 (by omega)
 by_cases h12:42≤x.Op∧x.Op≤45
 ·exact zwO h h12 (by omega) hc
 by_cases h13:x.Op=46∨x.Op=47
 ·exact zy2 h h13
 by_cases h14:x.Op=48
 ·exact zx7 h h14 hk.ret (zt2 hk.ret)
 by_cases h15:x.Op=49∨x.Op=50∨x.Op=52∨x.Op=53
 ·exact zwz h h15 h10
 by_cases h16:x.Op=51∨x.Op=54∨x.Op=55
 ·exact zxW h h16
 by_cases h17:x.Op=56∨x.Op=57
 ·refine zxK h h17 ?_ (by omega)
  have ht:zhG x.Op=true:=by
   unfold zhG
   rcases h17 with e |e <;> rw [e] <;> rfl
  unfold zsw at hC
  rw [ht] at hC
  simp only [cond_true] at hC
  unfold zoH at hC
  rw [Bool.and_eq_true] at hC
  exact hC.2
 by_cases h18:x.Op=58
 ·exact zu2 h h18
 by_cases h19:x.Op=59
 ·exact zAP h h19
 exact zzv h (by omega)
theorem zv8(n:Int):zhQ n=ziy n:=rfl
theorem zvl(h:zeN l L m mt loc stk false)(hk:zlW mt){p:List Tx×List Tx×Bool}(hp:zl8 loc stk false p)(hb:p.2.2=false)(hr:(p.2.1.length:Int)≤mt.Stack):zeN l L m mt p.1 p.2.1 false:=by
 obtain ⟨_,⟨k1,k2,k3,k4⟩,k5⟩:=hp
 obtain ⟨k6,k7⟩:=k5 hb
 have hs:=hk.stack.2
 refine ⟨h.made,h.map,h.lens,⟨by rw [k1];exact h.shL.1,k3⟩,⟨by omega,k4⟩,fun t ht=>?_,hr,fun t ht=>?_⟩
 ·rcases k6 t ht with e |e
  ·exact h.on t e
  ·exact e.2
 ·rcases k7 t ht with e |e
  ·exact h.onL t e
  ·exact .inr (h.on t e)
end
section
variable {l L : List zb} {m : List (Tx × Int)} {c : Tx} {mt : zd} {loc stk : List Tx} {b : Bool}
def zvp(L:List zb)(m:List (Tx×Int))(c:Tx)(mt:zd)(z:List Tx×List Tx×Bool×Bool×Int):Option Bool:=
 (zu (fun z=>zat c (zac.mk L m) mt z.1 z.2.1 z.2.2.1 z.2.2.2.1 z.2.2.2.2) z).bind fun o=>zU o (fun b=>zgu b.1 b.2.1 b.2.2) some
def zyp(L:List zb)(c:Tx)(mt:zd)(z:List Tx×List Tx×Bool×Bool×Int):Option Bool:=
 (zu (fun z=>zau c (zR.mk L) mt z.1 z.2.1 z.2.2.1 z.2.2.2.1 z.2.2.2.2) z).bind fun o=>zU o (fun b=>zeI b.1 b.2.1 b.2.2.1 b.2.2.2) some
theorem zwc{g g':Bool}{i i':Int}{loc' stk':List Tx}{b':Bool}(h:zat c (zac.mk L m) mt loc stk b g i=some (.inl (loc',stk',b',g',i'))):zvp L m c mt (loc,stk,b,g,i)=zvp L m c mt (loc',stk',b',g',i'):=by
 unfold zvp
 rw [zL]
 show ((zat c (zac.mk L m) mt loc stk b g i).bind _).bind _=_
 rw [h];rfl
theorem zsP{g:Bool}{i:Int}{v:Bool}(h:zat c (zac.mk L m) mt loc stk b g i=some (.inr (.inr v))):zvp L m c mt (loc,stk,b,g,i)=some v:=by
 unfold zvp
 rw [zL]
 show ((zat c (zac.mk L m) mt loc stk b g i).bind _).bind _=_
 rw [h];rfl
theorem zsy{g:Bool}{i:Int}(h:zat c (zac.mk L m) mt loc stk b g i=some (.inr (.inl (loc,stk,b)))):zvp L m c mt (loc,stk,b,g,i)=some (!b):=by
 unfold zvp
 rw [zL]
 show ((zat c (zac.mk L m) mt loc stk b g i).bind _).bind _=_
 rw [h];rfl
theorem zxG{g g':Bool}{i i':Int}{loc' stk':List Tx}{b':Bool}(h:zau c (zR.mk L) mt loc stk b g i=some (.inl (loc',stk',b',g',i'))):zyp L c mt (loc,stk,b,g,i)=zyp L c mt (loc',stk',b',g',i'):=by
 unfold zyp
 rw [zL]
 show ((zau c (zR.mk L) mt loc stk b g i).bind _).bind _=_
 rw [h];rfl
theorem zsi{g:Bool}{i:Int}(h:zau c (zR.mk L) mt loc stk b g i=some (.inr (.inl (loc,stk,b,g)))):zyp L c mt (loc,stk,b,g,i)=some (!b&&!g):=by
 unfold zyp
 rw [zL]
 show ((zau c (zR.mk L) mt loc stk b g i).bind _).bind _=_
 rw [h];rfl
theorem ztX(h:zeW l L)(hm:zdG L m)(hk:zlW mt)(hl:ShL loc)(hs:ShL stk){g:Bool}{i:Nat}(hi:i≤mt.Code.length):zvp L m c mt (loc,stk,true,g,(i:Int))=some false:=by
 by_cases hlt:i<mt.Code.length
 ·refine zsP ?_
  unfold zat
  have hx:mt.Code[i]?=some mt.Code[i]:=List.getElem?_eq_getElem hlt
  rw [zgj hx,zB,hx]
  simp only [cond_true,Option.bind_some]
  rw [zxO h hm hk hl hs]
  rfl
 ·refine zsy ?_
  unfold zat
  rw [decide_eq_false (by omega)]
  rfl
theorem zrk{g:Bool}{i:Int}:zyp L c mt (loc,stk,true,g,i)=some false:=by
 refine zsi ?_
 unfold zau
 rw [Bool.not_true,Bool.and_false]
 rfl
theorem zAo(h:zeW l L)(hk:zlW mt)(hl:ShL loc)(hs:ShL stk){g:Bool}{i:Nat}{x:zH}(hx:mt.Code[i]?=some x):
  zau c (zR.mk L) mt loc stk false g (i:Int) =
   (zcq L c mt (zgy L mt loc stk i g).1 (zgy L mt loc stk i g).2.1 (zgy L mt loc stk i g).2.2 (i:Int)).bind fun v98 =>
    (zm L c mt (zgy L mt loc stk i g).1 (zgy L mt loc stk i g).2.1 v98 x).bind fun v100=>some (.inl (v100.1,v100.2.1,v100.2.2,(!(zhQ x.Op)),(IntKind.i64.wrap ((i:Int)+1)))):=by
 unfold zau
 rw [zgj hx]
 simp only [Bool.not_false,Bool.and_true,cond_true]
 rw [zq8 hk]
 unfold zBl zgy
 have key:∀(v:zas×Bool) (b:Bool) (p q:List Tx),zcn c (zR.mk L) mt g (i:Int) v b p q =
   (zcq L c mt p q (b||!(v.2||g)) (i:Int)).bind fun v98=>(zm L c mt p q v98 x).bind fun v100=>some (.inl (v100.1,v100.2.1,v100.2.2,(!(zhQ x.Op)),(IntKind.i64.wrap ((i:Int)+1)))):=fun v b p q=>by
  unfold zcn
  rw [zB,hx]
  rfl
 cases hf:zuj mt (i:Int) with
 |none =>
  simp only [Option.bind_some,Bool.false_and,cond_false]
  unfold zbO
  simp only [cond_false]
  rw [key]
  simp
 |some y =>
  have hy:=zpa hk hf
  simp only [Option.bind_some,Bool.true_and]
  have key2:∀b:Bool,zbO c (zR.mk L) mt loc stk g (i:Int) (y,true) b=(zcq L c mt y.Locals y.Stack b (i:Int)).bind fun v98=>(zm L c mt y.Locals y.Stack v98 x).bind fun v100=>some (.inl (v100.1,v100.2.1,v100.2.2,(!(zhQ x.Op)),(IntKind.i64.wrap ((i:Int)+1)))):=fun b=>by
   unfold zbO
   simp only [cond_true]
   rw [zxr (hy.shl hk).len (hy.shs hk).len]
   simp only [Option.bind_some]
   rw [key]
   simp
  rw [zv3 h hk hl hs]
  cases g with
  |true=>simp only [cond_true,Option.bind_some,Bool.false_or,Bool.true_and];exact key2 _
  |false=>simp only [cond_false,Bool.false_and];exact key2 _
theorem zzd(hk:zlW mt)(hc:c.length≤25):∀(d i:Nat) (loc stk:List Tx) (g:Bool),d+i=mt.Code.length→zeN l L m mt loc stk false→(d=0→g=false) →
  ∃v,zvp L m c mt (loc,stk,false,g,(i:Int))=some v∧zyp L c mt (loc,stk,false,g,(i:Int))=some v:=by
 intro d
 induction d with
 |zero =>
  intro i loc stk g hd h hg
  have hg:=hg rfl
  subst hg
  refine ⟨true,?_,?_⟩
  ·refine zsy ?_
   unfold zat
   rw [decide_eq_false (by omega)]
   rfl
  ·refine zsi ?_
   unfold zau
   rw [decide_eq_false (by omega)]
   rfl
 |succ d ih =>
  intro i loc stk g hd h hg
  have hlt:i<mt.Code.length:=by omega
  have hx:mt.Code[i]?=some mt.Code[i]:=List.getElem?_eq_getElem hlt
  have hxm:=hk.ins _ (List.getElem_mem hlt)
  have h100:=hk.code.2
  generalize mt.Code[i]=x at hx hxm
  have hw:IntKind.i64.wrap ((i:Int)+1)=((i+1:Nat):Int):=zay (by omega)
  have hE:∀b,zeN l L m mt (zgy L mt loc stk i g).1 (zgy L mt loc stk i g).2.1 b:=fun b=>ztN h hk
  have hD:=zAo (c:=c) h.made hk h.shL h.shS (g:=g) hx
  have hP:zat c (zac.mk L m) mt loc stk false g (i:Int)=cond (zgy L mt loc stk i g).2.2 (some (.inr (.inr false))) ((zc5 L m c mt (zgy L mt loc stk i g).1 (zgy L mt loc stk i g).2.1 (zgy L mt loc stk i g).2.2 (i:Int)).bind fun v51=>(zk L m c mt (zgy L mt loc stk i g).1 (zgy L mt loc stk i g).2.1 v51 x).bind fun v52=>cond (zeK x.Op) ((zcF L m c mt v52.1 v52.2.1 v52.2.2 x.A).bind fun v53=>zdb mt (i:Int) x v52 v53) (zdb mt (i:Int) x v52 v52.2.2)):=by
   unfold zat
   rw [zgj hx,zB,hx]
   simp only [cond_true,Option.bind_some]
   rw [zxO h.made h.map hk h.shL h.shS]
   rfl
  generalize zgy L mt loc stk i g=E at hE hD hP
  obtain ⟨p,r,s1,s2,s3,s4⟩:=zy4 (c:=c) (hE (E.2.2||mt.Traps.any (zpb L mt E.1 i))) hk hxm hc
  rw [zAJ h.made hk (hE false).shL] at hD
  simp only [Option.bind_some] at hD
  rw [s2] at hD
  simp only [Option.bind_some] at hD
  rw [hw,zv8] at hD
  have hDn:=zxG hD
  cases hb:E.2.2 with
  |true =>
   rw [hb] at hP s4
   refine ⟨false,zsP hP,?_⟩
   have hpb:p.2.2=true:=s4.1 rfl
   have hrb:r.2.2=true:=by
    rw [←s3.1,hpb]
    cases zeK x.Op <;> rfl
   rw [hDn,hrb]
   exact zrk
  |false =>
   rw [hb] at hP s1 s4
   simp only [cond_false] at hP
   rw [zAK h.made h.map hk (hE false).shL] at hP
   simp only [Option.bind_some] at hP
   rw [s1] at hP
   simp only [Option.bind_some] at hP
   obtain ⟨k0,⟨k1,k2,k3,k4⟩,k5⟩:=s4
   have hroom:=(hE false).room
   have hst:=hk.stack.2
   have hl1:ShL p.1:=⟨by rw [k1];exact (hE false).shL.1,k3⟩
   have hs1:ShL p.2.1:=⟨by omega,k4⟩
   rw [zzW h.made h.map hk hl1 hs1] at hP
   have hP2:zat c (zac.mk L m) mt loc stk false g (i:Int)=some (.inl (p.1,p.2.1,r.2.2,!ziy x.Op,((i+1:Nat):Int))):=by
    rw [hP,←s3.1,←hw]
    unfold zdb
    cases zeK x.Op <;> rfl
   have hPn:=zwc hP2
   rw [hPn,hDn]
   cases hrb:r.2.2 with
   |true=>exact ⟨false,ztX h.made h.map hk hl1 hs1 (by omega),zrk⟩
   |false =>
    obtain ⟨e1,e2⟩:=s3.2 hrb
    simp only at e1 e2
    rw [←e1,←e2]
    have hsum:=s3.1
    rw [hrb] at hsum
    simp only [Bool.or_eq_false_iff,Bool.not_eq_false',decide_eq_true_eq] at hsum
    have hpb:p.2.2=false:=by
     have:=hsum.1
     cases hq:zeK x.Op with
     |true=>rw [hq] at this;simp only [cond_true,Bool.or_eq_false_iff] at this;exact this.1
     |false=>rw [hq] at this;exact this
    have hT:(false||mt.Traps.any (zpb L mt E.1 i))=false:=by
     cases hq:(false||mt.Traps.any (zpb L mt E.1 i)) with
     |false=>rfl
     |true=>rw [hq] at k0;rw [k0 rfl] at hpb;cases hpb
    rw [hT] at k0
    refine ih (i+1) p.1 p.2.1 (!ziy x.Op) (by omega) (zvl (hE false) hk ⟨k0,⟨k1,k2,k3,k4⟩,k5⟩ hpb hsum.2) fun h0=>?_
    obtain ⟨y,hy1,hy2⟩:=hk.last
    rw [List.getLast?_eq_getElem?] at hy1
    have:mt.Code.length-1=i:=by omega
    rw [this,hx] at hy1
    cases hy1
    rw [hy2];rfl
end
theorem zt8{R:Type}{n:Int}{body:List Tx→Option (Sum (List Tx) (Sum (List Tx) R))}
  (hb:∀z:List Tx,body z=cond (decide (((List.length z):Int)<n)) ((zis 16 z ([[84]])).bind fun v=>some (.inl v)) (some (.inr (.inl z)))):
  ∀(k:Nat) (z:List Tx),((z.length+k:Nat):Int)=n→z.length+k≤1000→zu body z=some (.inl (z++List.replicate k [84]))
 | 0,z,h,h2=>by
  rw [zL,hb,decide_eq_false (by omega)]
  simp
 |k+1,z,h,h2=>by
  rw [zL,hb,decide_eq_true (by omega),zdw (by simp;omega) (by simp;omega)]
  simp only [cond_true,Option.bind_some,Sum.elim_inl]
  rw [zt8 hb k (z++[[84]]) (by simp;omega) (by simp;omega)]
  simp [List.replicate_succ]
section
variable {l L : List zb} {m : List (Tx × Int)} {c : Tx} {f : zd} {b : Bool}
def znQ(L:List zb)(T:List Tx):Bool:=T.any fun t=>!zrH L t
theorem zwM(h:zeW l L)(hm:zdG L m){T:List Tx}(hT:ShL T):ziO T L m=some (!znQ L T):=by
 unfold ziO zbr zbU
 rw [show ((zu (fun z=>zam T L m z) 0).bind fun o=>zU o (fun b=>zbt) some)=_ from zcv (l:=T) (p:=fun t=>!zrH L t) (by have:=hT.len;omega)
  (fun i x hx=>by
   have hl:=hT.2 x (List.mem_of_getElem? hx)
   unfold zam zji zhv
   rw [zgj hx,zB,hx]
   simp only [Option.bind_some,cond_true]
   rw [znN h hm hl]
   rfl) (by unfold zam;rw [zgY];rfl)]
 rw [Option.bind_some,zg3]
 rfl
theorem zzl(h:zeW l L)(hm:zdG L m){T:List Tx}(hT:ShL T):zhF T L m=some (!T.any fun t=>!thN L t):=by
 unfold zhF zbm zbY
 rw [show ((zu (fun z=>zak T L m z) 0).bind fun o=>zU o (fun b=>zbo) some)=_ from zcv (l:=T) (p:=fun t=>!thN L t) (by have:=hT.len;omega)
  (fun i x hx=>by
   have hl:=hT.2 x (List.mem_of_getElem? hx)
   unfold zak zhO zhA
   rw [zgj hx,zB,hx]
   simp only [Option.bind_some,cond_true]
   rw [znZ h hm hl (ztI hl),zoJ]
   rfl) (by unfold zak;rw [zgY];rfl)]
 rw [Option.bind_some,zg3]
 rfl
def zu7(c:Tx)(f:zd):List Tx:=cond (!f.Static) [c] []++f.Params
def zmH(c:Tx)(f:zd):List Tx:=zu7 c f++List.replicate (f.Locals.toNat-(zu7 c f).length) [84]
theorem zsc(hk:zlW f):((zu7 c f).length:Int)=z8 f:=by
 have h6:=hk.npar
 unfold zu7 z8
 cases f.Static with
 |true=>simp
 |false =>
  rw [zkZ (by omega) (by omega)]
  simp
theorem zzI{R:Type}(hk:zlW f){body:List Tx→Option (Sum (List Tx) (Sum (List Tx) R))}
  (hb:∀z:List Tx,body z=cond (decide (((List.length z):Int)<f.Locals)) ((zis 16 z ([[84]])).bind fun v=>some (.inl v)) (some (.inr (.inl z)))):zu body (zu7 c f)=some (.inl (zmH c f)):=by
 have h1:=zsc (c:=c) hk
 have h2:=hk.locs
 exact zt8 hb _ _ (by omega) (by omega)
theorem zwY(hk:zlW f):((zmH c f).length:Int)=f.Locals:=by
 have h1:=zsc (c:=c) hk
 have h2:=hk.locs
 unfold zmH
 simp
 omega
theorem zsI(hk:zlW f)(hc:zfH c=true):∀t∈zmH c f,t.length≤25∧(t=[84]∨onS t):=by
 intro t ht
 unfold zmH zu7 at ht
 rcases List.mem_append.1 ht with h |h
 ·rcases List.mem_append.1 h with h |h
  ·have:t=c:=by
    cases hs:f.Static with
    |true=>rw [hs] at h;cases h
    |false=>rw [hs] at h;simpa using h
   rw [this]
   exact ⟨zoc hc,.inr (.inr hc)⟩
  ·have:=hk.params t h
   exact ⟨zoc this,.inr (.inr this)⟩
 ·rw [(List.mem_replicate.1 h).2]
  exact ⟨by decide,.inl rfl⟩
theorem zsX(h:zeW l L)(hm:zdG L m)(hL:zsV L)(hk:zlW f)(hc:zfH c=true):zeN l L m f (zmH c f) [] false:=by
 have h1:=zwY (c:=c) hk
 have h2:=hk.locs
 have h3:=hk.stack
 exact ⟨h,hm,hL,⟨by omega,fun t ht=>(zsI hk hc t ht).1⟩,⟨Nat.zero_le _,fun t ht=>(List.not_mem_nil ht).elim⟩,fun t ht=>(List.not_mem_nil ht).elim,by simp;omega,fun t ht=>(zsI hk hc t ht).2⟩
def zz1(L:List zb)(f:zd):Bool:=((f.Maps.any fun x=>znQ L x.Locals||znQ L x.Stack)||!((f.Ret == [86])||thN L f.Ret))||f.Params.any fun t=>!thN L t
theorem zAg(hk:zlW f)(b:Bool):zeu L c f [] [] b=some (zmH c f):=by
 have h6:=hk.npar
 unfold zeu
 have key:zci f (cond (!f.Static) [c] [])=some (zmH c f):=by
  unfold zci
  rw [zdw (by cases f.Static <;> simp <;> omega) (by cases f.Static <;> simp <;> omega)]
  simp only [Option.bind_some]
  rw [show zu (fun z=>zdz f z) (cond (!f.Static) [c] []++f.Params)=_ from zzI (c:=c) hk (body:=fun z=>zdz f z) fun z=>rfl]
  rfl
 cases hs:f.Static with
 |true=>rw [hs] at key;exact key
 |false =>
  rw [hs] at key
  simp only [Bool.not_false,cond_true] at key ⊢
  rw [zdw (by simp) (by simp)]
  exact key
theorem zz0(hk:zlW f):ShL f.Params:=⟨by have:=hk.npar;omega,fun s hs=>zoc (hk.params s hs)⟩
theorem zzp(h:zeW l L)(hm:zdG L m)(hk:zlW f):((zu (fun z=>zcz (zac.mk L m) f z.1 z.2) (false,0)).bind fun o=>zU o (fun b=>zfr c (zac.mk L m) f b) some)=zvp L m c f (zmH c f,[],zz1 L f,true,0):=by
 have h6:=hk.npar
 rw [zlU (body:=fun z=>zcz (zac.mk L m) f z.1 z.2) (l:=f.Maps) (p:=fun x=>znQ L x.Locals||znQ L x.Stack) (by have:=hk.nmaps;omega) (fun i x b hx=>by
  have hy:=hk.maps x (List.mem_of_getElem? hx)
  show zcz (zac.mk L m) f b (i:Int)=_
  unfold zcz
  rw [zgj hx,zB,hx]
  simp only [cond_true,Option.bind_some]
  rw [zwM h hm (hy.shl hk),zwM h hm (hy.shs hk)]
  cases znQ L x.Locals <;> cases znQ L x.Stack <;> rfl) (fun b=>by
  show zcz (zac.mk L m) f b (f.Maps.length:Int)=_
  unfold zcz
  rw [zgY];rfl)]
 simp only [Option.bind_some,zU]
 have j4:∀(b v:Bool),zdR c (zac.mk L m) f b v (cond (!f.Static) [c] [])=zvp L m c f (zmH c f,[],b||!v,true,0):=fun b v=>by
  unfold zdR
  rw [zdw (by cases f.Static <;> simp <;> omega) (by cases f.Static <;> simp <;> omega)]
  simp only [Option.bind_some]
  rw [show zu (fun z=>zfu f z) (cond (!f.Static) [c] []++f.Params)=_ from zzI (c:=c) hk (body:=fun z=>zfu f z) fun z=>rfl]
  rfl
 have j3:∀b:Bool,zdU c (zac.mk L m) f b=zvp L m c f (zmH c f,[],b||(f.Params.any fun t=>!thN L t),true,0):=fun b=>by
  unfold zdU
  rw [zzl h hm (zz0 hk)]
  simp only [Option.bind_some]
  have:=j4 b (!f.Params.any fun t=>!thN L t)
  rw [Bool.not_not] at this
  rw [←this]
  cases hs:f.Static with
  |true=>rfl
  |false =>
   simp only [Bool.not_false,cond_true]
   rw [zdw (by simp) (by simp)]
   rfl
 unfold zfr zz1
 have hr:=zt2 hk.ret
 rw [znZ h hm hr (ztI hr),zoJ]
 simp only [Option.bind_some]
 rw [j3,j3]
 cases f.Ret == [86] <;> simp
theorem zy0(h:zeW l L)(hk:zlW f):((zu (fun z=>zbz (zR.mk L) f z.1 z.2) (false,0)).bind fun o=>zU o (fun b=>zed c (zR.mk L) f b) some)=zyp L c f (zmH c f,[],zz1 L f,true,0):=by
 have h6:=hk.npar
 rw [zlU (body:=fun z=>zbz (zR.mk L) f z.1 z.2) (l:=f.Maps) (p:=fun x=>znQ L x.Locals||znQ L x.Stack) (by have:=hk.nmaps;omega) (fun i x b hx=>by
  have hy:=hk.maps x (List.mem_of_getElem? hx)
  have hl:=(hy.shl hk).1
  have hs:=(hy.shs hk).1
  show zbz (zR.mk L) f b (i:Int)=_
  unfold zbz
  rw [zgj hx,zB,hx]
  simp only [cond_true,Option.bind_some]
  rw [zdw (by simp;omega) (by simp;omega)]
  simp only [Option.bind_some,List.nil_append]
  rw [zdw (by omega) (by omega)]
  simp only [Option.bind_some]
  rw [zlU (body:=fun z=>zb7 (zR.mk L) (x.Locals++x.Stack) z.1 z.2) (l:=x.Locals++x.Stack) (p:=fun t=>!zrH L t) (by simp;omega) (fun j t b ht=>by
   have hm:=List.mem_of_getElem? ht
   have h25:t.length≤25:=by
    rcases List.mem_append.1 hm with e |e
    ·exact hy.loc25 t e
    ·exact hy.stk25 t e
   show zb7 (zR.mk L) (x.Locals++x.Stack) b (j:Int)=_
   unfold zb7
   rw [zgj ht,zB,ht]
   simp only [cond_true,Option.bind_some]
   rw [zd5 h (by omega)]
   unfold zrH
   cases t == [84] <;> cases t == [78] <;> cases thN L t <;> rfl) (fun b=>by
   show zb7 (zR.mk L) (x.Locals++x.Stack) b ((x.Locals++x.Stack).length:Int)=_
   unfold zb7
   rw [zgY];rfl)]
  rw [List.any_append]
  rfl) (fun b=>by
  show zbz (zR.mk L) f b (f.Maps.length:Int)=_
  unfold zbz
  rw [zgY];rfl)]
 simp only [Option.bind_some,zU]
 unfold zed
 rw [zlU (body:=fun z=>zcg (zR.mk L) f z.1 z.2) (l:=f.Params) (p:=fun t=>!thN L t) (by omega) (fun i t b ht=>by
  have h25:=(zz0 hk).2 t (List.mem_of_getElem? ht)
  show zcg (zR.mk L) f b (i:Int)=_
  unfold zcg
  rw [zgj ht,zB,ht]
  simp only [cond_true,Option.bind_some]
  rw [zd5 h (by omega)]
  rfl) (fun b=>by
  show zcg (zR.mk L) f b (f.Params.length:Int)=_
  unfold zcg
  rw [zgY];rfl)]
 simp only [Option.bind_some,zU]
 unfold zfi
 have hr:=zt2 hk.ret
 rw [zd5 h (by omega)]
 have e:((cond (f.Ret == [86]) (some true) ((some (thN L f.Ret)).bind fun v69=>some v69)):Option Bool)=some ((f.Ret == [86])||thN L f.Ret):=by cases f.Ret == [86] <;> rfl
 rw [e]
 simp only [Option.bind_some]
 rw [zAg hk]
 simp only [Option.bind_some]
 have e2:(((false||f.Maps.any fun x=>znQ L x.Locals||znQ L x.Stack)||f.Params.any fun t=>!thN L t)||!((f.Ret == [86])||thN L f.Ret))=zz1 L f:=by
  unfold zz1
  cases (f.Maps.any fun x=>znQ L x.Locals||znQ L x.Stack) <;> cases (f.Params.any fun t=>!thN L t) <;> cases ((f.Ret == [86])||thN L f.Ret) <;> rfl
 rw [e2]
 rfl
theorem zyz(h:zeW l L)(hm:zdG L m)(hL:zsV L)(hk:zlW f)(hc:zfH c=true):∃v,zvp L m c f (zmH c f,[],zz1 L f,true,0)=some v∧zyp L c f (zmH c f,[],zz1 L f,true,0)=some v:=by
 have hA:=zsX h hm hL hk hc
 cases zz1 L f with
 |true=>exact ⟨false,ztX (i:=0) h hm hk hA.shL hA.shS (Nat.zero_le _),zrk⟩
 |false=>exact zzd hk (zoc hc) f.Code.length 0 (zmH c f) [] true (by omega) hA fun e=>by have:=hk.code.1;omega
theorem zw4(h:zeW l L)(hm:zdG L m)(hL:zsV L)(c:Tx)(k:Int):∃v,zcV (some (zac.mk L m)) c k=some v∧zfs (some (zR.mk L)) c k=some v:=by
 have h26:=h.len
 unfold zcV zfs
 simp only [zzC]
 rw [zjM hm,zjQ (by omega)]
 simp only [Option.bind_some]
 rw [zoj]
 cases hc:cl L c with
 |none =>
  rw [zmG hc]
  exact ⟨false,rfl,rfl⟩
 |some x =>
  rw [zhl hc,zmW,hc]
  simp only [Option.bind_some,Bool.not_true,Bool.false_or]
  by_cases h0:k<0
  ·rw [decide_eq_true h0]
   exact ⟨false,rfl,rfl⟩
  rw [decide_eq_false h0]
  simp only [Bool.false_or,cond_false]
  by_cases h1:(x.Methods.length:Int)≤k
  ·rw [decide_eq_true h1]
   exact ⟨false,rfl,rfl⟩
  rw [decide_eq_false h1]
  obtain ⟨n,rfl⟩:∃n:Nat,k=(n:Int):=⟨k.toNat,by omega⟩
  have hn:n<x.Methods.length:=by omega
  have hf:x.Methods[n]?=some x.Methods[n]:=List.getElem?_eq_getElem hn
  have hfm:=List.getElem_mem hn
  generalize x.Methods[n]=f at hf hfm
  rw [zB,hf]
  simp only [Option.bind_some,cond_false]
  cases ha:f.Abstract with
  |true=>exact ⟨false,rfl,rfl⟩
  |false =>
   have hk:=zCq (zxh h (zcU hc).1 hfm) ha
   have hcm:=znU (zjP h (zhl hc))
   simp only [cond_false]
   rw [zzp h hm hk,zy0 h hk]
   exact zyz h hm hL hk hcm
end
theorem zBb:zkc=some true:=by kernel_rfl
section
variable {l L : List zb} {m : List (Tx × Int)}
theorem zuo(hM:zeW l L)(hm:zdG L m)(hL:zsV L){e1 e2:Int}{i:Nat}{x:zb}(hx:l[i]?=some x)(hn:x.Methods.length≤10000):
  ∀(d:Nat) (k:Int),k+(d:Int)=(x.Methods.length:Int)+1→-1≤k→zu (fun z=>zeD l (some (zac.mk L m),e1) (some (zR.mk L),e2) (i:Int) z) k=some (.inl ())
 | 0,k,h,h1=>by
  rw [zL]
  show (zeD l (some (zac.mk L m),e1) (some (zR.mk L),e2) (i:Int) k).bind _=_
  unfold zeD
  rw [zB,hx]
  simp only [Option.bind_some]
  rw [decide_eq_false (by omega)]
  rfl
 |d+1,k,h,h1=>by
  obtain ⟨v,v1,v2⟩:=zw4 hM hm hL x.Name k
  rw [zL]
  show (zeD l (some (zac.mk L m),e1) (some (zR.mk L),e2) (i:Int) k).bind _=_
  have hw:IntKind.i64.wrap (k+1)=k+1:=zkZ (by omega) (by omega)
  have e:zeD l (some (zac.mk L m),e1) (some (zR.mk L),e2) (i:Int) k=some (.inl (k+1)):=by
   unfold zeD
   rw [zB,hx]
   simp only [Option.bind_some]
   rw [decide_eq_true (by omega),v1,v2,hw]
   simp
  rw [e]
  exact zuo hM hm hL hx hn d (k+1) (by omega) (by omega)
theorem zrL(hf:∀c∈l,zm8 c):zk5 l=some true:=by
 have hc:∀c∈l,zzJ c:=fun c hc=>(hf c hc).cg
 obtain ⟨m,hm,he⟩:=zs5 hc
 unfold zk5
 rw [he,ztC hc]
 simp only [Option.bind_some]
 cases hE:(zwZ l).1 with
 |none=>simp only [Option.map_none,Option.isNone_none,Bool.or_true,cond_true]
 |some L =>
  obtain ⟨hM,hz⟩:=zx2 hE
  have hmp:=hm L hE
  have h16:=hM.few
  have hL:zsV L:=zA9 (zAF hM hf)
  rw [hz]
  simp only [Option.map_some,Option.isNone_some,beq_self_eq_true,Bool.not_true,Bool.or_self,cond_false]
  rw [show zu (fun z=>zeZ l (some (zac.mk L m),0) (some (zR.mk L),0) z) 0=some (.inl ()) from zyH (l:=l) (fun i x hx=>by
   have hi:=(List.getElem?_eq_some_iff.1 hx).1
   have hn:=(hf x (List.mem_of_getElem? hx)).methods.len
   show zeZ l _ _ (i:Int)=_
   unfold zeZ
   rw [zgj hx,zuo hM hmp hL hx hn (x.Methods.length+2) (-1) (by omega) (by omega)]
   simp only [cond_true,Option.bind_some,zU]
   unfold zjm
   rw [zay (by omega)]) (by
   show zeZ l _ _ (l.length:Int)=_
   unfold zeZ
   rw [zgY];rfl)]
  rfl
theorem zm3{l:List zb}(h:∀c∈l,zjZ c):zhR l=some true:=by
 unfold zhR
 rw [zBb,ztJ]
 simp only [Option.bind_some,Bool.not_true,cond_false]
 rw [zrL fun c hc=>(zvI h c hc).fc]
 rfl
end
theorem zpQ(l:List zb)(h:wL zjZ l):zI Tryz.prog 6 [.isl 6 (List.map zc l)] (bA true):=znz l (zm3 h.2)

end
end Go.Proofs.YtjbdfkapnffjnaaGreat
