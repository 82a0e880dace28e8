/- ClosedTurn: for every input the law returns true, and each argument reads as it read before. No further condition. Part 1 of 8. -/
import Derived.Calls
import Derived.Orders
import Derived.Deep.Quiet
import Derived.StillTail
import Derived.Laws.IdiomCopy
import Derived.Laws.AppendOwn
import Derived.Below
import Derived.KernelRfl
import Derived.Deep.AppendSrc
import Derived.Laws.IdiomStrings
import Derived.Laws.BytesArg
import Derived.Laws.Tables
import Derived.Laws.StructEq
import Derived.MapKept
import Derived.Laws.MakeOwn
import Derived.Laws.OwnMore
import Derived.Test.YthmnlfenkhmmhaaGreatProg
import Derived.Test.YthmnlfenkhmmhaaGreatRows
import Derived.ProofKit
import Derived.WalkKit
import Derived.Shelf.Sort.Plain
import Derived.OrdersHeld
import Derived.IntWalk
namespace Go.Proofs.YthmnlfenkhmmhaaGreat
noncomputable section
open List (length map)
open IntKind (i64)
open Go.Proofs.Tryz
set_option linter.unusedSimpArgs false
set_option linter.unusedVariables false
set_option linter.unusedSectionVars false
theorem Qa:type_of%@Option.bind_some:=@Option.bind_some
theorem Qb:type_of%@List.getElem?_eq_some_iff:=@List.getElem?_eq_some_iff
theorem Qc:type_of%@List.mem_of_getElem?:=@List.mem_of_getElem?
theorem Qd:type_of%@Bool.and_eq_true:=@Bool.and_eq_true
theorem Qe:type_of%@List.getElem?_eq_getElem:=@List.getElem?_eq_getElem
theorem Qf:type_of%@List.eq_nil_of_length_eq_zero:=@List.eq_nil_of_length_eq_zero
theorem Qg:type_of%@Array.getD_eq_getD_getElem?:=@Array.getD_eq_getD_getElem?
theorem Qh:type_of%@List.getElem_mem:=@List.getElem_mem
theorem Qi:type_of%@List.getD_eq_getElem?_getD:=@List.getD_eq_getElem?_getD
theorem Qj:type_of%@Nat.eq_of_beq_eq_true:=@Nat.eq_of_beq_eq_true
theorem Qk:type_of%@Nat.le_refl:=@Nat.le_refl
theorem Ql:type_of%@List.all_eq_true:=@List.all_eq_true
theorem Qm:type_of%@List.getElem?_append_left:=@List.getElem?_append_left
theorem Qn:type_of%@Bool.not_eq_true':=@Bool.not_eq_true'
theorem Qo:type_of%@Bool.or_eq_false_iff:=@Bool.or_eq_false_iff
theorem Qp:type_of%@Bool.or_eq_true:=@Bool.or_eq_true
theorem Qq:type_of%@List.mem_append:=@List.mem_append
theorem Qr:type_of%@List.mem_cons:=@List.mem_cons
theorem Qs:type_of%@List.getElem?_append_right:=@List.getElem?_append_right
theorem Qt:type_of%@Bool.not_true:=@Bool.not_true
theorem Qu:type_of%@List.length_cons:=@List.length_cons
theorem Qv:type_of%@Nat.le_of_ble_eq_true:=@Nat.le_of_ble_eq_true
theorem Qw:type_of%@List.reverse_singleton:=@List.reverse_singleton
theorem Qx:type_of%@List.append_nil:=@List.append_nil
theorem Qy:type_of%@List.any_eq_true:=@List.any_eq_true
theorem Qz:type_of%@Nat.add_mul:=@Nat.add_mul
theorem QA:type_of%@List.length_append:=@List.length_append
theorem QB:type_of%@List.any_eq_false:=@List.any_eq_false
theorem QC:type_of%@Bool.true_and:=@Bool.true_and
theorem QD:type_of%@Nat.le_trans:=@Nat.le_trans
theorem QE:type_of%@Array.getElem?_eq_getElem:=@Array.getElem?_eq_getElem
theorem QG:type_of%@Nat.mul_le_mul_right:=@Nat.mul_le_mul_right
theorem QH:type_of%@List.length_take:=@List.length_take
theorem QI:type_of%@Nat.lt_of_lt_of_le:=@Nat.lt_of_lt_of_le
theorem QJ:type_of%@List.getElem?_set_ne:=@List.getElem?_set_ne
theorem QK:type_of%@List.mem_of_find?_eq_some:=@List.mem_of_find?_eq_some
theorem QL:type_of%@Bool.not_false:=@Bool.not_false
theorem QM:type_of%@Nat.zero_add:=@Nat.zero_add
theorem QN:type_of%@Nat.lt_succ_self:=@Nat.lt_succ_self
theorem QO:type_of%@Option.map_some:=@Option.map_some
theorem QP:type_of%@List.getElem?_set_self:=@List.getElem?_set_self
theorem QQ:type_of%@List.mem_map:=@List.mem_map
theorem QR:type_of%@List.getElem_map:=@List.getElem_map
theorem QS:type_of%@List.prefix_refl:=@List.prefix_refl
theorem QT:type_of%@Bool.eq_iff_iff:=@Bool.eq_iff_iff
theorem QU:type_of%@Nat.add_assoc:=@Nat.add_assoc
theorem QV:type_of%@Bool.and_eq_true_iff:=@Bool.and_eq_true_iff
theorem QW:type_of%@Nat.zero_le:=@Nat.zero_le
theorem QX:type_of%@Bool.false_or:=@Bool.false_or
theorem QY:type_of%@Option.getD_some:=@Option.getD_some
theorem QZ:type_of%@Array.getElem?_eq_some_iff:=@Array.getElem?_eq_some_iff
theorem Q0:type_of%@Bool.or_false:=@Bool.or_false
theorem Q3:type_of%@List.any_cons:=@List.any_cons
theorem Q4:type_of%@List.mem_singleton:=@List.mem_singleton
theorem Q5:type_of%@List.findSome?_cons:=@List.findSome?_cons
theorem Q6:type_of%@Nat.add_zero:=@Nat.add_zero
theorem Q7:type_of%@List.getElem?_cons_zero:=@List.getElem?_cons_zero
theorem Q8:type_of%@Nat.eq_zero_or_pos:=@Nat.eq_zero_or_pos
theorem Q9:type_of%@Bool.not_eq_false':=@Bool.not_eq_false'
theorem Ja:type_of%@List.length_map:=@List.length_map
theorem Jb:type_of%@List.getElem_cons_zero:=@List.getElem_cons_zero
theorem Jc:type_of%@Array.getElem?_modify:=@Array.getElem?_modify
theorem Jd:type_of%@List.getElem_append_left:=@List.getElem_append_left
theorem Je:type_of%@List.length_nil:=@List.length_nil
theorem Jf:type_of%@Array.toArray_toList:=@Array.toArray_toList
theorem Jg:type_of%@Array.getElem?_append_left:=@Array.getElem?_append_left
theorem Jh:type_of%@List.exists_of_findSome?_eq_some:=@List.exists_of_findSome?_eq_some
theorem Ji:type_of%@List.length_set:=@List.length_set
theorem Jj:type_of%@List.mem_filter:=@List.mem_filter
theorem Jk:type_of%@List.getElem?_eq_none:=@List.getElem?_eq_none
theorem Jl:type_of%@List.eq_nil_iff_forall_not_mem:=@List.eq_nil_iff_forall_not_mem
theorem Jm:type_of%@List.mem_cons_of_mem:=@List.mem_cons_of_mem
theorem Jn:type_of%@Bool.false_and:=@Bool.false_and
theorem Jo:type_of%@List.mem_append_left:=@List.mem_append_left
theorem Jp:type_of%@List.nodup_cons:=@List.nodup_cons
theorem Jq:type_of%@List.map_congr_left:=@List.map_congr_left
theorem Jr:type_of%@List.takeWhile_cons:=@List.takeWhile_cons
theorem Js:type_of%@List.mem_range:=@List.mem_range
theorem Jt:type_of%@Bool.and_false:=@Bool.and_false
theorem Ju:type_of%@List.getLast?_eq_getElem?:=@List.getLast?_eq_getElem?
theorem Jv:type_of%@List.append_assoc:=@List.append_assoc
theorem Jw:type_of%@Bool.or_true:=@Bool.or_true
theorem Jx:type_of%@List.dropWhile_cons:=@List.dropWhile_cons
theorem Jy:type_of%@List.getElem?_take:=@List.getElem?_take
theorem Jz:type_of%@List.getElem?_drop:=@List.getElem?_drop
theorem JA:type_of%@Bool.false_eq_true:=@Bool.false_eq_true
theorem JB:type_of%@List.take_of_length_le:=@List.take_of_length_le
theorem JC:type_of%@List.drop_eq_nil_of_le:=@List.drop_eq_nil_of_le
theorem JD:type_of%@Option.isSome_some:=@Option.isSome_some
theorem JE:type_of%@Bool.and_eq_false_iff:=@Bool.and_eq_false_iff
theorem JF:type_of%@Int.toNat_natCast:=@Int.toNat_natCast
theorem JG:type_of%@List.mem_of_mem_take:=@List.mem_of_mem_take
theorem JH:type_of%@List.range_eq_range':=@List.range_eq_range'
theorem JI:type_of%@Nat.lt_or_ge:=@Nat.lt_or_ge
theorem JJ:type_of%@List.range'_succ:=@List.range'_succ
theorem JK:type_of%@List.drop_eq_getElem_cons:=@List.drop_eq_getElem_cons
theorem JL:type_of%@List.getElem?_eq_none_iff:=@List.getElem?_eq_none_iff
theorem JM:type_of%@List.getElem_of_mem:=@List.getElem_of_mem
theorem JN:type_of%@List.set_eq_of_length_le:=@List.set_eq_of_length_le
theorem JO:type_of%@List.getElem?_take_of_lt:=@List.getElem?_take_of_lt
theorem JP:type_of%@Bool.and_self:=@Bool.and_self
theorem JQ:type_of%@Nat.zero_lt_one:=@Nat.zero_lt_one
theorem JR:type_of%@List.nil_append:=@List.nil_append
theorem JS:type_of%@Nat.one_mul:=@Nat.one_mul
theorem JT:type_of%@List.getElem?_replicate:=@List.getElem?_replicate
theorem JU:type_of%@List.getElem?_map:=@List.getElem?_map
theorem JV:type_of%@Sum.elim_inl:=@Sum.elim_inl
theorem JW:type_of%@Array.getElem?_setIfInBounds_ne:=@Array.getElem?_setIfInBounds_ne
theorem JX:type_of%@Nat.div_lt_iff_lt_mul:=@Nat.div_lt_iff_lt_mul
theorem JY:type_of%@List.length_filter_le:=@List.length_filter_le
theorem JZ:type_of%@List.getElem_set:=@List.getElem_set
theorem J0:type_of%@List.cons_append:=@List.cons_append
theorem J1:type_of%@Array.eq_empty_of_size_eq_zero:=@Array.eq_empty_of_size_eq_zero
theorem J2:type_of%@List.all_cons:=@List.all_cons
theorem J3:type_of%@Bool.or_assoc:=@Bool.or_assoc
theorem J4:type_of%@List.map_id:=@List.map_id
theorem J5:type_of%@List.mem_of_mem_drop:=@List.mem_of_mem_drop
theorem J6:type_of%@Array.getElem?_setIfInBounds:=@Array.getElem?_setIfInBounds
theorem J7:type_of%@Nat.div_add_mod:=@Nat.div_add_mod
theorem J8:type_of%@List.map_append:=@List.map_append
theorem J9:type_of%@UInt8.toNat_inj:=@UInt8.toNat_inj
theorem Ya:type_of%@Nat.zero_mul:=@Nat.zero_mul
theorem Yb:type_of%@Nat.mul_comm:=@Nat.mul_comm
theorem Yc:type_of%@Nat.add_comm:=@Nat.add_comm
theorem Yd:type_of%@Nat.sub_zero:=@Nat.sub_zero
theorem Ye:type_of%@List.drop_zero:=@List.drop_zero
theorem Yf:type_of%@List.tail_drop:=@List.tail_drop
theorem Yg:type_of%@List.pairwise_cons:=@List.pairwise_cons
theorem Yh:type_of%@List.find?_eq_none:=@List.find?_eq_none
theorem Yi:type_of%@Bool.false_ne_true:=@Bool.false_ne_true
theorem Yj:type_of%@List.getElem_append_right:=@List.getElem_append_right
theorem Yk:type_of%@Array.mapM_eq_mapM_toList:=@Array.mapM_eq_mapM_toList
theorem Yl:type_of%@List.getLast?_eq_none_iff:=@List.getLast?_eq_none_iff
theorem Ym:type_of%@List.mem_or_eq_of_mem_set:=@List.mem_or_eq_of_mem_set
theorem Yn:type_of%@Nat.mul_one:=@Nat.mul_one
theorem Yo:type_of%@Nat.lt_trichotomy:=@Nat.lt_trichotomy
theorem Yp:type_of%@List.take_add_one:=@List.take_add_one
theorem Yq:type_of%@List.map_cons:=@List.map_cons
theorem Yr:type_of%@List.eq_of_mem_replicate:=@List.eq_of_mem_replicate
theorem Ys:type_of%@List.Perm.eq_of_pairwise:=@List.Perm.eq_of_pairwise
theorem Yt:type_of%@List.range'_zero:=@List.range'_zero
theorem Yu:type_of%@List.mem_flatMap:=@List.mem_flatMap
theorem Yv:type_of%@Option.elim_some:=@Option.elim_some
theorem Yw:type_of%@List.filter_cons_of_neg:=@List.filter_cons_of_neg
theorem Yx:type_of%@List.filter_cons_of_pos:=@List.filter_cons_of_pos
theorem Yy:type_of%@Bool.not_eq_true:=@Bool.not_eq_true
theorem Yz:type_of%@List.take_length:=@List.take_length
theorem y{α:Sort _}{a:α}:a=a:=rfl
theorem k{n m:Nat}(h:Nat.ble n m=true:=by rfl):n≤m:=Qv h
theorem w{α β:Sort _}{a:α}{b:β}:a=a/\b=b:=⟨rfl,rfl⟩
theorem t:True:=True.intro
abbrev T0:=List UInt8
abbrev T1:=List T0
abbrev T2:=List (T0×Int)
class Flo where
 N:Nat
variable [Flo]
inductive AV where
 |any
 |lit (v:Value)
 |isl (k:Nat) (els:List (List AV))
 |ipt (k:Nat) (els:List (List AV)) (i j:Nat)
 |msl (l i n:Nat)
 |mpt (l i j:Nat)
 |agg (cs:List AV)
 |tup (vs:List AV)
 |fn (f:Fn) (first caps:List AV)
 |imp (els:List (List AV))
 |mmp (l:Nat)
 |fr (a:AV)
structure Blk where
 has:Bool
 B:Nat
 o:Nat
 k:Nat
 top:Nat
 mp:Bool:=false
abbrev BM:=Nat->Option Blk
abbrev St:=List (Option (Nat×List (List AV)))
def ZV(es:Array MapEntry)(i j:Nat):Value:=match es[i]? with |some e=>(match j with | 0=>e.key |_=>e.val) |none=>undef
def fz(w:World)(a:Addr):Bool:=match w.heap[a.block]? with |some (.cells _ _ (lo,hi))=>decide (lo≤a.off)&&!(lo == hi) |_=>false
theorem Ok{w:World}{a:Addr}(h:fz w a=false):w.frozen? a=false:=by
 unfold fz at h;unfold World.frozen?;split
 .rename_i c e lo hi hq;rw [hq] at h;simp at h ⊢;intro h1;have:=h h1;omega
 .rfl
theorem zyC{w:World}{a b:Addr}{v:Value}:fz (w.setCell a v) b=fz w b:=by
 simp only [World.setCell,fz,Jc];by_cases hb:a.block=b.block
 .simp only [hb,if_true]
  cases hh:w.heap[b.block]? with
  |none=>simp
  |some x=>cases x <;> simp
 .simp [hb]
theorem zlV(b:Nat):∀(vs:List Value) (o:Nat) (w:World) (x:Addr),fz (w.setCells b o vs) x=fz w x
 | [],_,_,_=>rfl
 |v ::r,o,w,x=>by rw [World.setCells,zlV b r,zyC]
theorem I7{w:World}(c:Array Value)(t:TypeId)(i:Nat):fz (w.alloc (.cells c t)) ⟨w.heap.size,i,none⟩=false:=by
 have hh:(w.alloc (.cells c t)).heap[w.heap.size]?=some (.cells c t):=by
  show (w.heap.push _)[w.heap.size]?=_;simp
 simp only [fz,hh];simp
abbrev Am:=Nat->Nat->Prop
def Okb(A:Am)(w:World)(B o k cap:Nat):Prop:=A B k/\(Flo.N≤B->(∃q,o=q*k)/\∀off,off<cap*k->(∃v,w.cell? ⟨B,o+off,none⟩=some v)/\fz w ⟨B,o+off,none⟩=false)
def Afr(A:Am):Am:=λB k=>A B k/\Flo.N≤B
def Nlb(A:Am)(w:World)(a:Option Addr)(k cap:Nat):Prop:=cap=0∨(∃B o,a=some ⟨B,o,none⟩/\Okb A w B o k cap)∨∃B k',A B k'/\B<Flo.N
inductive VI:Am->World->AV->Value->Prop
 |any {A:Am} {w:World} (v):VI A w .any v
 |lit {A:Am} {w:World} (v):VI A w (.lit v) v
 |isl {A:Am} {w:World} (k:Nat) (els:List (List AV)) (B o cap:Nat) (vs:Nat->Nat->Value) (hA:Okb A w B o k cap) (hcap:els.length≤cap)
   (hk:∀i (h:i<els.length),els[i].length=k)
   (hc:∀i j,i<els.length->j<k->w.cell? ⟨B,o+i*k+j,none⟩=some (vs i j))
   (hv:∀i (h:i<els.length) j (h':j<els[i].length),VI A w els[i][j] (vs i j)):
   VI A w (.isl k els) (.slice (some ⟨B,o,none⟩) els.length cap)
 |inil {A:Am} {w:World} (k:Nat) (a:Option Addr) (cap:Nat) (hA:Nlb A w a k cap):VI A w (.isl k []) (.slice a 0 cap)
 |ipt {A:Am} {w:World} (k:Nat) (els:List (List AV)) (i j B o:Nat) (vs:Nat->Nat->Value) (hA:Okb A w B o k els.length)
   (hk:∀i (h:i<els.length),els[i].length=k)
   (hc:∀i j,i<els.length->j<k->w.cell? ⟨B,o+i*k+j,none⟩=some (vs i j))
   (hv:∀i (h:i<els.length) j (h':j<els[i].length),VI A w els[i][j] (vs i j)):
   VI A w (.ipt k els i j) (.pointer (some ⟨B,o+i*k+j,none⟩))
 |agg {A:Am} {w:World} (cs:List AV) (a:Array Value) (hs:a.size=cs.length) (hv:∀i (h:i<cs.length),VI A w cs[i] (a.getD i undef)):VI A w (.agg cs) (.agg a)
 |tup {A:Am} {w:World} (cs:List AV) (a:Array Value) (hs:a.size=cs.length) (hv:∀i (h:i<cs.length),VI A w cs[i] (a.getD i undef)):VI A w (.tup cs) (.tuple a)
 |fn {A:Am} {w:World} (f:Fn) (cs ds:List AV) (a b:Array Value) (hs:a.size=cs.length) (hv:∀i (h:i<cs.length),VI A w cs[i] (a.getD i undef))
   (hs':b.size=ds.length) (hv':∀i (h:i<ds.length),VI A w ds[i] (b.getD i undef)):VI A w (.fn f cs ds) (.func f a b)
 |imp {A:Am} {w:World} (els:List (List AV)) (r:Nat) (es:Array MapEntry) (clock:Nat) (hA:∃k,A r k) (hh:w.heap[r]?=some (.map es clock)) (hs:es.size=els.length) (hk:∀i (h:i<els.length),els[i].length=2)
   (hv:∀i (h:i<els.length) j (h':j<els[i].length),VI A w els[i][j] (ZV es i j)):VI A w (.imp els) (.map (some r))
 |fr {A:Am} {w:World} (av:AV) (v:Value) (h:VI (Afr A) w av v):VI A w (.fr av) v
inductive V(A:Am)(m:BM)(nb:Nat)(w:World):AV->Value->Prop
 |imm {av v} (h:VI A w av v):V A m nb w av v
 |msl (l i n:Nat) (a:Option Addr) (n' cap:Nat) (hl:l<nb)
   (h:∀b,m l=some b->n'=n/\n≤cap/\(cap=0∨(b.has=true/\b.mp=false/\a=some ⟨b.B,b.o+i*b.k,none⟩/\b.o+(i+cap)*b.k≤b.top))):V A m nb w (.msl l i n) (.slice a n' cap)
 |mpt (l i j:Nat) (a:Option Addr) (hl:l<nb) (h:∀b,m l=some b->b.has=true/\b.mp=false/\a=some ⟨b.B,b.o+i*b.k+j,none⟩):V A m nb w (.mpt l i j) (.pointer a)
 |agg (cs:List AV) (a:Array Value) (hs:a.size=cs.length) (hv:∀i (h:i<cs.length),V A m nb w cs[i] (a.getD i undef)):V A m nb w (.agg cs) (.agg a)
 |tup (cs:List AV) (a:Array Value) (hs:a.size=cs.length) (hv:∀i (h:i<cs.length),V A m nb w cs[i] (a.getD i undef)):V A m nb w (.tup cs) (.tuple a)
 |fn (f:Fn) (cs ds:List AV) (a b:Array Value) (hs:a.size=cs.length) (hv:∀i (h:i<cs.length),V A m nb w cs[i] (a.getD i undef))
   (hs':b.size=ds.length) (hv':∀i (h:i<ds.length),V A m nb w ds[i] (b.getD i undef)):V A m nb w (.fn f cs ds) (.func f a b)
 |mmp (l:Nat) (r:Option Nat) (hl:l<nb) (h:∀b,m l=some b->b.has=true/\b.mp=true/\r=some b.B):V A m nb w (.mmp l) (.map r)
def VL(A:Am)(m:BM)(nb:Nat)(w:World)(cs:List AV)(a:Array Value):Prop:=
 a.size=cs.length/\∀i (h:i<cs.length),V A m nb w cs[i] (a.getD i undef)
def VIL(A:Am)(w:World)(cs:List AV)(a:Array Value):Prop:=
 a.size=cs.length/\∀i (h:i<cs.length),VI A w cs[i] (a.getD i undef)
structure Gw(A:Am)(m:BM)(nb:Nat)(w:World)(b:Blk)(els:List (List AV)):Prop where
 low:b.B<w.heap.size
 there:b.mp=false->∀off,off<b.top->∃v,w.cell? ⟨b.B,off,none⟩=some v
 free:b.mp=false->∀off,off<b.top->fz w ⟨b.B,off,none⟩=false
 fit:b.mp=false->b.o+els.length*b.k≤b.top
 wide:∀i (h:i<els.length),els[i].length=b.k
 val:b.mp=false->∀i (h:i<els.length) j (h':j<els[i].length),∃v,w.cell? ⟨b.B,b.o+i*b.k+j,none⟩=some v/\V A m nb w els[i][j] v
 mval:b.mp=true->b.k=2/\∃es clock,w.heap[b.B]?=some (.map es clock)/\es.size=els.length/\∀i (h:i<els.length) j (h':j<els[i].length),V A m nb w els[i][j] (ZV es i j)
structure HB(A:Am)(m:BM)(nb:Nat)(w:World)(b:Blk)(els:List (List AV)):Prop where
 low:b.B<w.heap.size
 there:∀off,off<b.top->∃v,w.cell? ⟨b.B,off,none⟩=some v
 free:∀off,off<b.top->fz w ⟨b.B,off,none⟩=false
 fit:b.o+els.length*b.k≤b.top
 wide:∀i (h:i<els.length),els[i].length=b.k
 val:∀i (h:i<els.length) j (h':j<els[i].length),∃v,w.cell? ⟨b.B,b.o+i*b.k+j,none⟩=some v/\V A m nb w els[i][j] v
theorem Gw.cells{A m nb w b els}(h:Gw A m nb w b els)(hm:b.mp=false):HB A m nb w b els:=⟨h.low,h.there hm,h.free hm,h.fit hm,h.wide,h.val hm⟩
theorem HB.blk{A m nb w b els}(h:HB A m nb w b els)(hm:b.mp=false):Gw A m nb w b els:=
 ⟨h.low,λ_=>h.there,λ_=>h.free,λ_=>h.fit,h.wide,λ_=>h.val,λh1=>by rw [hm] at h1;cases h1⟩
structure R(A:Am)(m:BM)(w:World)(st:St):Prop where
 aLow:∀B k,A B k->B<w.heap.size
 aOwn:∀B k l b,A B k->m l=some b->b.has=true->b.B≠B
 aFun:∀B k k',Flo.N≤B->A B k->A B k'->k=k'
 nLe:Flo.N≤w.heap.size
 nOwn:∀l b,m l=some b->b.has=true->Flo.N≤b.B/\∃q,b.o=q*b.k
 inj:∀l l' b b',m l=some b->m l'=some b'->b.has=true->b'.has=true->b.B=b'.B->l=l'
 live:∀l b,m l=some b->∃els,st[l]?=some (some (b.k,els))
 blk:∀l k els,st[l]?=some (some (k,els))->∃b,m l=some b/\b.k=k/\(b.has=true->Gw A m st.length w b els)/\(b.has=false->els=[])
structure Xp(A:Am)(m:BM)(nb:Nat)(w:World)(A':Am)(m':BM)(nb':Nat)(w':World):Prop where
 nbLe:nb≤nb'
 size:w.heap.size≤w'.heap.size
 aSub:∀B k,A B k->A' B k
 aNew:∀B k,A' B k->A B k∨w.heap.size≤B∨∃l b,m l=some b/\b.has=true/\b.B=B
 mOld:∀l,l<nb->m' l=m l∨m' l=none
 mNew:∀l b,m' l=some b->b.has=true->w.heap.size≤b.B∨∃l0 b0,m l0=some b0/\b0.has=true/\b0.B=b.B
 heap:∀B,B<w.heap.size->(∀l b,m l=some b->b.has=true->b.B≠B)->w'.heap[B]?=w.heap[B]?
 os:w'.os=w.os
 tape:w'.tape=w.tape
 output:w'.output=w.output
theorem Xp.refl(A:Am)(m:BM)(nb:Nat)(w:World):Xp A m nb w A m nb w:=
 ⟨Qk _,Qk _,λ_ _ h=>h,λ_ _ h=>.inl h,λ_ _=>.inl rfl,λl b h h1=>.inr ⟨l,b,h,h1,rfl⟩,λ_ _ _=>rfl,rfl,rfl,rfl⟩
theorem Xp.trans{A m nb w A1 m1 nb1 w1 A2 m2 nb2 w2}(h:Xp A m nb w A1 m1 nb1 w1)(k:Xp A1 m1 nb1 w1 A2 m2 nb2 w2):Xp A m nb w A2 m2 nb2 w2 where
 nbLe:=QD h.nbLe k.nbLe
 size:=QD h.size k.size
 aSub:=λB q hB=>k.aSub B q (h.aSub B q hB)
 aNew:=λB q hB=>by
  rcases k.aNew B q hB with h1 |h1 |⟨l0,b0,h1,hh0,h2⟩
  .exact h.aNew B q h1
  .exact .inr (.inl (QD h.size h1))
  .rcases h.mNew l0 b0 h1 hh0 with h3 |⟨l1,b1,h3,hh1,h4⟩
   .exact .inr (.inl (h2 ▸ h3))
   .exact .inr (.inr ⟨l1,b1,h3,hh1,h4.trans h2⟩)
 mOld:=λl hl=>by
  rcases k.mOld l (QI hl h.nbLe) with h1 |h1
  .rw [h1];exact h.mOld l hl
  .exact .inr h1
 mNew:=λl b hb hh=>by
  rcases k.mNew l b hb hh with h1 |⟨l0,b0,h1,hh0,h2⟩
  .exact .inl (QD h.size h1)
  .rcases h.mNew l0 b0 h1 hh0 with h3 |⟨l1,b1,h3,hh1,h4⟩
   .exact .inl (h2 ▸ h3)
   .exact .inr ⟨l1,b1,h3,hh1,h4.trans h2⟩
 heap:=λB hB ho=>by
  rw [k.heap B (QI hB h.size) ?_,h.heap B hB ho];intro l b hb hh he
  rcases h.mNew l b hb hh with h1 |⟨l0,b0,h1,hh0,h2⟩
  .omega
  .exact ho l0 b0 h1 hh0 (h2.trans he)
 os:=k.os.trans h.os
 tape:=k.tape.trans h.tape
 output:=k.output.trans h.output
theorem Xp.weak{A m nb w A1 m1 nb1 w1}(h:Xp A m nb w A1 m1 nb1 w1){nb0:Nat}(h0:nb0≤nb):Xp A m nb0 w A1 m1 nb1 w1:=
 { h with nbLe:=QD h0 h.nbLe,mOld:=λl hl=>h.mOld l (QI hl h0) }
theorem Xp.trans0{A m nb w A1 m1 nb1 w1 A2 m2 nb2 w2}(h:Xp A m nb w A1 m1 nb1 w1)(k:Xp A1 m1 nb w1 A2 m2 nb2 w2):Xp A m nb w A2 m2 nb2 w2 where
 nbLe:=k.nbLe
 size:=QD h.size k.size
 aSub:=λB q hB=>k.aSub B q (h.aSub B q hB)
 aNew:=λB q hB=>by
  rcases k.aNew B q hB with h1 |h1 |⟨l0,b0,h1,hh0,h2⟩
  .exact h.aNew B q h1
  .exact .inr (.inl (QD h.size h1))
  .rcases h.mNew l0 b0 h1 hh0 with h3 |⟨l1,b1,h3,hh1,h4⟩
   .exact .inr (.inl (h2 ▸ h3))
   .exact .inr (.inr ⟨l1,b1,h3,hh1,h4.trans h2⟩)
 mOld:=λl hl=>by
  rcases k.mOld l hl with h1 |h1
  .rw [h1];exact h.mOld l hl
  .exact .inr h1
 mNew:=λl b hb hh=>by
  rcases k.mNew l b hb hh with h1 |⟨l0,b0,h1,hh0,h2⟩
  .exact .inl (QD h.size h1)
  .rcases h.mNew l0 b0 h1 hh0 with h3 |⟨l1,b1,h3,hh1,h4⟩
   .exact .inl (h2 ▸ h3)
   .exact .inr ⟨l1,b1,h3,hh1,h4.trans h2⟩
 heap:=λB hB ho=>by
  rw [k.heap B (QI hB h.size) ?_,h.heap B hB ho];intro l b hb hh he
  rcases h.mNew l b hb hh with h1 |⟨l0,b0,h1,hh0,h2⟩
  .omega
  .exact ho l0 b0 h1 hh0 (h2.trans he)
 os:=k.os.trans h.os
 tape:=k.tape.trans h.tape
 output:=k.output.trans h.output
theorem HX{w w':World}{B:Nat}(h:w'.heap[B]?=w.heap[B]?)(off:Nat):w'.cell? ⟨B,off,none⟩=w.cell? ⟨B,off,none⟩:=by
 simp only [World.cell?,h]
theorem znX{w w':World}{B:Nat}(h:w'.heap[B]?=w.heap[B]?)(off:Nat):fz w' ⟨B,off,none⟩=fz w ⟨B,off,none⟩:=by
 simp only [fz,h]
theorem Okb.mono{A A':Am}{w w':World}(hA:∀B k,A B k->A' B k)(hc:∀B k,A B k->w'.heap[B]?=w.heap[B]?){B o k cap:Nat}(h:Okb A w B o k cap):Okb A' w' B o k cap:=
 ⟨hA B k h.1,λhN=>⟨(h.2 hN).1,λoff ho=>by rw [HX (hc B k h.1),znX (hc B k h.1)];exact (h.2 hN).2 off ho⟩⟩
theorem Okb.less{A:Am}{w:World}{B o k cap n:Nat}(h:Okb A w B o k cap)(hn:n≤cap):Okb A w B o k n:=
 ⟨h.1,λhN=>⟨(h.2 hN).1,λoff ho=>(h.2 hN).2 off (QI ho (QG k hn))⟩⟩
theorem Okb.sub{A:Am}{w:World}{B o k cap lo:Nat}(h:Okb A w B o k cap)(hl:lo≤cap):Okb A w B (o+lo*k) k (cap-lo):=
 ⟨h.1,λhN=>by
  obtain ⟨⟨q,hq⟩,h2⟩:=h.2 hN;refine ⟨⟨q+lo,by rw [hq,Qz]⟩,λoff ho=>?_⟩
  have h3:=h2 (lo*k+off) (by
   have:cap*k=lo*k+(cap-lo)*k:=by rw [<-Qz];congr 1;omega
   omega)
  rwa [<-QU] at h3⟩
theorem Nlb.mono{A A':Am}{w w':World}(hA:∀B k,A B k->A' B k)(hc:∀B k,A B k->w'.heap[B]?=w.heap[B]?){a:Option Addr}{k cap:Nat}(h:Nlb A w a k cap):Nlb A' w' a k cap:=by
 rcases h with h |⟨B,o,h,h'⟩ |⟨B,k',h,h'⟩
 .exact .inl h
 .exact .inr (.inl ⟨B,o,h,h'.mono hA hc⟩)
 .exact .inr (.inr ⟨B,k',hA B k' h,h'⟩)
theorem VI.mono{A A':Am}{w w':World}(hA:∀B k,A B k->A' B k)(hc:∀B k,A B k->w'.heap[B]?=w.heap[B]?){av:AV}{v:Value}(h:VI A w av v):VI A' w' av v:=by
 induction h generalizing A' w' with
 |any v=>exact .any v
 |lit v=>exact .lit v
 |isl k els B o cap vs hB hcap hk hcell _ ih =>
  exact .isl k els B o cap vs (hB.mono hA hc) hcap hk (λi j hi hj=>by rw [HX (hc B k hB.1)];exact hcell i j hi hj) λi hi j hj=>ih i hi j hj hA hc
 |inil k a cap hN=>exact .inil k a cap (hN.mono hA hc)
 |ipt k els i j B o vs hB hk hcell _ ih =>
  exact .ipt k els i j B o vs (hB.mono hA hc) hk (λi j hi hj=>by rw [HX (hc B k hB.1)];exact hcell i j hi hj) λi hi j hj=>ih i hi j hj hA hc
 |agg cs a hs _ ih=>exact .agg cs a hs λi hi=>ih i hi hA hc
 |tup cs a hs _ ih=>exact .tup cs a hs λi hi=>ih i hi hA hc
 |fn f cs ds a b hs _ hs' _ ih ih'=>exact .fn f cs ds a b hs (λi hi=>ih i hi hA hc) hs' λi hi=>ih' i hi hA hc
 |imp els r es clock hB hh hs hk _ ih =>
  obtain ⟨k,hB⟩:=hB;exact .imp els r es clock ⟨k,hA r k hB⟩ ((hc r k hB).trans hh) hs hk λi hi j hj=>ih i hi j hj hA hc
 |fr av v _ ih=>exact .fr av v (ih (λB k h=>⟨hA B k h.1,h.2⟩) λB k h=>hc B k h.1)
theorem V.mono{A A':Am}{m m':BM}{nb nb':Nat}{w w':World}(hA:∀B k,A B k->A' B k)(hc:∀B k,A B k->w'.heap[B]?=w.heap[B]?)
  (hn:nb≤nb') (hm:∀l,l<nb->m' l=m l∨m' l=none) {av:AV} {v:Value} (h:V A m nb w av v):V A' m' nb' w' av v:=by
 induction h with
 |imm h=>exact .imm (h.mono hA hc)
 |msl l i n a n' cap hl h =>
  refine .msl l i n a n' cap (by omega) λb hb=>?_
  rcases hm l hl with h1 |h1
  .exact h b (h1 ▸ hb)
  .rw [h1] at hb;cases hb
 |mpt l i j a hl h =>
  refine .mpt l i j a (by omega) λb hb=>?_
  rcases hm l hl with h1 |h1
  .exact h b (h1 ▸ hb)
  .rw [h1] at hb;cases hb
 |agg cs a hs _ ih=>exact .agg cs a hs ih
 |tup cs a hs _ ih=>exact .tup cs a hs ih
 |fn f cs ds a b hs _ hs' _ ih ih'=>exact .fn f cs ds a b hs ih hs' ih'
 |mmp l r hl h =>
  refine .mmp l r (by omega) λb hb=>?_
  rcases hm l hl with h1 |h1
  .exact h b (h1 ▸ hb)
  .rw [h1] at hb;cases hb
theorem V.step{A A':Am}{m m':BM}{nb':Nat}{w w':World}{st:St}(hR:R A m w st)(hS:Xp A m st.length w A' m' nb' w'){av:AV}{v:Value}
  (h:V A m st.length w av v):V A' m' nb' w' av v:=
 h.mono hS.aSub (λB k hB=>hS.heap B (hR.aLow B k hB) (λl b hb hh=>hR.aOwn B k l b hB hb hh)) hS.nbLe hS.mOld
theorem VL.step{A A':Am}{m m':BM}{nb':Nat}{w w':World}{st:St}(hR:R A m w st)(hS:Xp A m st.length w A' m' nb' w'){cs:List AV}{a:Array Value}
  (h:VL A m st.length w cs a):VL A' m' nb' w' cs a:=
 ⟨h.1,λi hi=>(h.2 i hi).step hR hS⟩
theorem V.lit_inv{A m nb w}{x v:Value}(h:V A m nb w (.lit x) v):v=x:=by
 cases h with
 |imm h=>cases h;rfl
theorem VI.agg_inv{A w}{cs:List AV}{v:Value}(h:VI A w (.agg cs) v):∃a,v=.agg a/\VIL A w cs a:=by
 cases h with
 |agg cs a hs hv=>exact ⟨a,rfl,hs,hv⟩
theorem V.agg_inv{A m nb w}{cs:List AV}{v:Value}(h:V A m nb w (.agg cs) v):∃a,v=.agg a/\VL A m nb w cs a:=by
 cases h with
 |imm h=>obtain ⟨a,rfl,h1,h2⟩:=h.agg_inv;exact ⟨a,rfl,h1,λi hi=>.imm (h2 i hi)⟩
 |agg cs a hs hv=>exact ⟨a,rfl,hs,hv⟩
theorem V.tup_inv{A m nb w}{cs:List AV}{v:Value}(h:V A m nb w (.tup cs) v):∃a,v=.tuple a/\VL A m nb w cs a:=by
 cases h with
 |imm h=>cases h with
  |tup cs a hs hv=>exact ⟨a,rfl,hs,λi hi=>.imm (hv i hi)⟩
 |tup cs a hs hv=>exact ⟨a,rfl,hs,hv⟩
theorem V.fn_inv{A m nb w}{f:Fn}{cs ds:List AV}{v:Value}(h:V A m nb w (.fn f cs ds) v):∃a b,v=.func f a b/\VL A m nb w cs a/\VL A m nb w ds b:=by
 cases h with
 |imm h=>cases h with
  |fn f cs ds a b hs hv hs' hv'=>exact ⟨a,b,rfl,⟨hs,λi hi=>.imm (hv i hi)⟩,⟨hs',λi hi=>.imm (hv' i hi)⟩⟩
 |fn f cs ds a b hs hv hs' hv'=>exact ⟨a,b,rfl,⟨hs,hv⟩,⟨hs',hv'⟩⟩
theorem V.isl_inv{A m nb w}{k:Nat}{els:List (List AV)}{v:Value}(h:V A m nb w (.isl k els) v):VI A w (.isl k els) v:=by
 cases h with
 |imm h=>exact h
theorem V.ipt_inv{A m nb w}{k:Nat}{els:List (List AV)}{i j:Nat}{v:Value}(h:V A m nb w (.ipt k els i j) v):VI A w (.ipt k els i j) v:=by
 cases h with
 |imm h=>exact h
theorem V.msl_inv{A m nb w}{l i n:Nat}{v:Value}(h:V A m nb w (.msl l i n) v):
  l<nb/\∃a n' cap,v=.slice a n' cap/\∀b,m l=some b->n'=n/\n≤cap/\(cap=0∨(b.has=true/\b.mp=false/\a=some ⟨b.B,b.o+i*b.k,none⟩/\b.o+(i+cap)*b.k≤b.top)):=by
 cases h with
 |imm h=>cases h
 |msl l i n a n' cap hl h=>exact ⟨hl,a,n',cap,rfl,h⟩
theorem V.mpt_inv{A m nb w}{l i j:Nat}{v:Value}(h:V A m nb w (.mpt l i j) v):
  l<nb/\∃a,v=.pointer a/\∀b,m l=some b->b.has=true/\b.mp=false/\a=some ⟨b.B,b.o+i*b.k+j,none⟩:=by
 cases h with
 |imm h=>cases h
 |mpt l i j a hl h=>exact ⟨hl,a,rfl,h⟩
theorem V.mmp_inv{A m nb w}{l:Nat}{v:Value}(h:V A m nb w (.mmp l) v):
  l<nb/\∃r,v=.map r/\∀b,m l=some b->b.has=true/\b.mp=true/\r=some b.B:=by
 cases h with
 |imm h=>cases h
 |mmp l r hl h=>exact ⟨hl,r,rfl,h⟩
theorem V.imp_inv{A m nb w}{els:List (List AV)}{v:Value}(h:V A m nb w (.imp els) v):VI A w (.imp els) v:=by
 cases h with
 |imm h=>exact h
theorem V.fr_inv{A m nb w}{x:AV}{v:Value}(h:V A m nb w (.fr x) v):VI A w (.fr x) v:=by
 cases h with
 |imm h=>exact h
def AV.one:AV->Bool
 |.lit v=>v.oneCell'
 |.isl .. |.ipt .. |.msl .. |.mpt .. |.fn .. |.imp .. |.mmp ..=>true
 |.fr (.isl ..)=>true
 |_=>false
theorem V.one{A m nb w}{av:AV}{v:Value}(h:V A m nb w av v)(h1:av.one=true):v.oneCell'=true:=by
 cases av with
 |any=>cases h1
 |agg _=>cases h1
 |tup _=>cases h1
 |lit x=>rw [h.lit_inv];exact h1
 |isl k els=>cases h.isl_inv <;> rfl
 |ipt k els i j=>cases h.ipt_inv;rfl
 |msl l i n=>obtain ⟨_,a,n',cap,rfl,_⟩:=h.msl_inv;rfl
 |mpt l i j=>obtain ⟨_,a,rfl,_⟩:=h.mpt_inv;rfl
 |fn f cs ds=>obtain ⟨a,b,rfl,_⟩:=h.fn_inv;rfl
 |imp els=>cases h.imp_inv;rfl
 |mmp l=>obtain ⟨_,a,rfl,_⟩:=h.mmp_inv;rfl
 |fr x =>
  cases x with
  |isl k els =>
   cases h.fr_inv with
   |fr _ _ h=>cases h <;> rfl
  |_=>cases h1
structure XK(w w':World):Prop where
 size:w.heap.size≤w'.heap.size
 heap:∀B,B<w.heap.size->w'.heap[B]?=w.heap[B]?
 os:w'.os=w.os
 tape:w'.tape=w.tape
 output:w'.output=w.output
theorem XK.refl(w:World):XK w w:=⟨Qk _,λ_ _=>rfl,rfl,rfl,rfl⟩
theorem XK.trans{a b c:World}(h:XK a b)(k:XK b c):XK a c:=
 ⟨QD h.size k.size,λB hB=>(k.heap B (QI hB h.size)).trans (h.heap B hB),k.os.trans h.os,k.tape.trans h.tape,k.output.trans h.output⟩
theorem XK.alloc(w:World)(o:Obj):XK w (w.alloc o):=
 ⟨by simp,λB hB=>Go.RowKit.Below.heap_alloc w o B hB,rfl,rfl,rfl⟩
theorem XK.drew(w:World):XK w w.drew:=⟨Qk _,λ_ _=>rfl,rfl,rfl,rfl⟩
theorem Gw.keep{A A':Am}{m m':BM}{nb nb':Nat}{w w':World}{b:Blk}{els:List (List AV)}(h:Gw A m nb w b els)
  (hs:w.heap.size≤w'.heap.size) (hb:w'.heap[b.B]?=w.heap[b.B]?) (hV:∀av v,V A m nb w av v->V A' m' nb' w' av v):Gw A' m' nb' w' b els where
 low:=QI h.low hs
 there:=λhm off ho=>by rw [HX hb];exact h.there hm off ho
 free:=λhm off ho=>by rw [znX hb];exact h.free hm off ho
 fit:=h.fit
 wide:=h.wide
 val:=λhm i hi j hj=>by
  obtain ⟨v,h1,h2⟩:=h.val hm i hi j hj;exact ⟨v,by rw [HX hb];exact h1,hV _ _ h2⟩
 mval:=λhm=>by
  obtain ⟨h0,es,clock,h1,h2,h3⟩:=h.mval hm;exact ⟨h0,es,clock,hb.trans h1,h2,λi hi j hj=>hV _ _ (h3 i hi j hj)⟩
theorem Gw.rel{A A':Am}{m m':BM}{nb nb':Nat}{w:World}{b:Blk}{els els0:List (List AV)}(h:Gw A m nb w b els)(hl:els0.length=els.length)
  (hr:∀i (h:i<els0.length) (h':i<els.length),els0[i].length=els[i].length/\∀j (h1:j<els0[i].length) (h2:j<els[i].length) v,V A m nb w els[i][j] v->V A' m' nb' w els0[i][j] v):Gw A' m' nb' w b els0 where
 low:=h.low
 there:=h.there
 free:=h.free
 fit:=by rw [hl];exact h.fit
 wide:=λi hi=>by rw [(hr i hi (by omega)).1];exact h.wide _ _
 val:=λhm i hi j hj=>by
  have h1:=hr i hi (by omega);obtain ⟨v,h2,h3⟩:=h.val hm i (by omega) j (by rw [<-h1.1];exact hj);exact ⟨v,h2,h1.2 j hj (by rw [<-h1.1];exact hj) v h3⟩
 mval:=λhm=>by
  obtain ⟨h0,es,clock,h1,h2,h3⟩:=h.mval hm;refine ⟨h0,es,clock,h1,by omega,λi hi j hj=>?_⟩;have h4:=hr i hi (by omega);exact h4.2 j hj (by rw [<-h4.1];exact hj) _ (h3 i (by omega) j (by rw [<-h4.1];exact hj))
theorem R.lt{A m w st}(hR:R A m w st){l:Nat}{b:Blk}(h:m l=some b):l<st.length:=by
 obtain ⟨els,he⟩:=hR.live l b h
 rcases JI l st.length with h |h
 .exact h
 .rw [Jk h] at he;cases he
theorem R.low{A m w st}(hR:R A m w st){l:Nat}{b:Blk}(h:m l=some b)(hh:b.has=true):b.B<w.heap.size:=by
 obtain ⟨els,he⟩:=hR.live l b h;obtain ⟨b',h1,_,h3,_⟩:=hR.blk l _ els he;have:b'=b:=Option.some.inj (h1.symm.trans h);subst this;exact (h3 hh).low
theorem R.at{A m w st}(hR:R A m w st){l:Nat}{b:Blk}(h:m l=some b){k els}(he:st[l]?=some (some (k,els))):b.k=k/\(b.has=true->Gw A m st.length w b els)/\(b.has=false->els=[]):=by
 obtain ⟨b',h1,h2,h3⟩:=hR.blk l k els he;have:b'=b:=Option.some.inj (h1.symm.trans h);subst this;exact ⟨h2,h3⟩
theorem R.okb{A D:Am}{m:BM}{w:World}{st:St}(hR:R A m w st){l:Nat}{b:Blk}(h:m l=some b)(hh:b.has=true){els:List (List AV)}(hok:HB A m st.length w b els)(hD:D b.B b.k){i cap:Nat}
  (hfit:b.o+(i+cap)*b.k≤b.top):Okb D w b.B (b.o+i*b.k) b.k cap:=
 ⟨hD,λ_=>⟨by obtain ⟨q,hq⟩:=(hR.nOwn l b h hh).2;exact ⟨q+i,by rw [hq,Qz]⟩,λoff ho=>by
  have:b.o+i*b.k+off<b.top:=by rw [Qz] at hfit;omega
  exact ⟨hok.there _ this,hok.free _ this⟩⟩⟩
theorem R.okb0{A D:Am}{m:BM}{w:World}{st:St}(hR:R A m w st){l:Nat}{b:Blk}(h:m l=some b)(hh:b.has=true){els:List (List AV)}(hok:HB A m st.length w b els)(hD:D b.B b.k):Okb D w b.B b.o b.k els.length:=by
 have:=hR.okb h hh hok hD (i:=0) (cap:=els.length) (by rw [QM];exact hok.fit);simpa using this
def zGh(A:Am)(m:BM):Am:=λB q=>A B q∨∃l b,m l=some b/\b.has=true/\b.B=B/\b.k=q
theorem R.ownFun{A:Am}{m:BM}{w:World}{st:St}(hR:R A m w st)(B k k':Nat)(hN:Flo.N≤B)(h:zGh A m B k)(h':zGh A m B k'):k=k':=by
 rcases h with h |⟨l,b,h1,h2,h3,h4⟩ <;> rcases h' with h' |⟨l',b',h1',h2',h3',h4'⟩
 .exact hR.aFun B k k' hN h h'
 .exact absurd h3' (hR.aOwn B k l' b' h h1' h2')
 .exact absurd h3 (hR.aOwn B k' l b h' h1 h2)
 .have:=hR.inj l l' b b' h1 h1' h2 h2' (h3.trans h3'.symm);subst this;rw [h1] at h1';cases h1';exact h4.symm.trans h4'
theorem R.grow{A A':Am}{m:BM}{w w':World}{st:St}(hR:R A m w st)(hg:XK w w')(hA:∀B k,A B k->A' B k)
  (hA':∀B k,A' B k->A B k∨(w.heap.size≤B/\B<w'.heap.size)) (hF:∀B k k',Flo.N≤B->A' B k->A' B k'->k=k'):R A' m w' st/\Xp A m st.length w A' m st.length w':=by
 have hS:Xp A m st.length w A' m st.length w':=⟨Qk _,hg.size,hA,λB k hB=>(hA' B k hB).imp id λh=>.inl h.1,λ_ _=>.inl rfl,λl b h hh=>.inr ⟨l,b,h,hh,rfl⟩,
  λB hB _=>hg.heap B hB,hg.os,hg.tape,hg.output⟩
 refine ⟨⟨λB k hB=>?_,λB k l b hB hm hh he=>?_,hF,QD hR.nLe hg.size,hR.nOwn,hR.inj,hR.live,λl k els he=>?_⟩,hS⟩
 .rcases hA' B k hB with h |h
  .exact QI (hR.aLow B k h) hg.size
  .exact h.2
 .rcases hA' B k hB with h |h
  .exact hR.aOwn B k l b h hm hh he
  .have:=hR.low hm hh;omega
 .obtain ⟨b,h1,h2,h3,h4⟩:=hR.blk l k els he;exact ⟨b,h1,h2,λhh=>(h3 hh).keep hg.size (hg.heap _ (h3 hh).low) λav v hv=>hv.step hR hS,h4⟩
theorem R.grow'{A:Am}{m:BM}{w w':World}{st:St}(hR:R A m w st)(hg:XK w w'):R A m w' st/\Xp A m st.length w A m st.length w':=
 hR.grow hg (λ_ _ h=>h) (λ_ _ h=>.inl h) hR.aFun
def BM.put(m:BM)(l:Nat)(b:Option Blk):BM:=λx=>if x=l then b else m x
theorem R.swapG{A:Am}{m:BM}{w w':World}{st:St}(hR:R A m w st)(l:Nat)(b':Blk)(els:List (List AV))
  (hsize:w.heap.size≤w'.heap.size) (hos:w'.os=w.os) (htape:w'.tape=w.tape) (hout:w'.output=w.output)
  (hheap:∀B,B<w.heap.size->(∀b,m l=some b->b.has=true->b.B≠B)->w'.heap[B]?=w.heap[B]?)
  (hfrom:b'.has=true->w.heap.size≤b'.B∨∃b,m l=some b/\b.has=true/\b.B=b'.B)
  (hlow:b'.has=true->b'.B<w'.heap.size) (hnil:b'.has=false->els=[])
  (hln:∃q,b'.o=q*b'.k) (hthere:b'.has=true->b'.mp=false->∀off,off<b'.top->∃v,w'.cell? ⟨b'.B,off,none⟩=some v) (hfree:b'.has=true->b'.mp=false->∀off,off<b'.top->fz w' ⟨b'.B,off,none⟩=false)
  (hfit:b'.has=true->b'.mp=false->b'.o+els.length*b'.k≤b'.top) (hw:∀i (h:i<els.length),els[i].length=b'.k)
  (hv:b'.has=true->b'.mp=false->∀i (h:i<els.length) j (h':j<els[i].length),∃v,w'.cell? ⟨b'.B,b'.o+i*b'.k+j,none⟩=some v/\V A m st.length w els[i][j] v)
  (hmv:b'.has=true->b'.mp=true->b'.k=2/\∃es clock,w'.heap[b'.B]?=some (.map es clock)/\es.size=els.length/\∀i (h:i<els.length) j (h':j<els[i].length),V A m st.length w els[i][j] (ZV es i j)):
  R A ((m.put l none).put st.length (some b')) w' (st.set l none++[some (b'.k,els)])/\Xp A m st.length w A ((m.put l none).put st.length (some b')) (st.length+1) w':=by
 have hS:Xp A m st.length w A ((m.put l none).put st.length (some b')) (st.length+1) w':=by
  refine ⟨Nat.le_succ _,hsize,λ_ _ h=>h,λ_ _ h=>.inl h,λx hx=>?_,λx b h hh=>?_,λB hB ho=>hheap B hB (ho l),hos,htape,hout⟩
  .simp only [BM.put];rw [if_neg (by omega)];split
   .exact .inr rfl
   .exact .inl rfl
  .simp only [BM.put] at h;split at h
   .cases h
    rcases hfrom hh with h1 |⟨b,h1,h2,h3⟩
    .exact .inl h1
    .exact .inr ⟨l,b,h1,h2,h3⟩
   .split at h
    .cases h
    .exact .inr ⟨x,b,h,hh,rfl⟩
 have hV:∀av v,V A m st.length w av v->V A ((m.put l none).put st.length (some b')) (st.length+1) w' av v:=λav v h=>h.step hR hS
 have hlen:(st.set l none++[some (b'.k,els)]).length=st.length+1:=by simp
 have hold:∀x b,((m.put l none).put st.length (some b')) x=some b->x≠st.length->x≠l/\m x=some b:=λx b h hx=>by
  simp only [BM.put,if_neg hx] at h;split at h
  .cases h
  .exact ⟨by assumption,h⟩
 have hapart:∀x b,x≠l->m x=some b->b.has=true->b'.has=true->b.B≠b'.B:=λx b hx hb hh hh' he=>by
  rcases hfrom hh' with h1 |⟨b1,h1,h2,h3⟩
  .have:=hR.low hb hh;omega
  .exact hx (hR.inj x l b b1 hb h1 hh h2 (he.trans h3.symm))
 refine ⟨⟨λB k hB=>QI (hR.aLow B k hB) hsize,λB1 k1 x b h1 h2 hh h3=>?_,hR.aFun,QD hR.nLe hsize,λx b h2 hh=>?_,λx x' b1 b2 h1 h2 hh1 hh2 h3=>?_,λx b h=>?_,λx k1 els1 he=>?_⟩,hS⟩
 .by_cases e:x=st.length
  .subst e;simp [BM.put] at h2;subst h2
   rcases hfrom hh with h4 |⟨b1,h4,h5,h6⟩
   .have:=hR.aLow B1 k1 h1;omega
   .exact hR.aOwn B1 k1 l b1 h1 h4 h5 (h6.trans h3)
  .exact hR.aOwn B1 k1 x b h1 (hold x b h2 e).2 hh h3
 .by_cases e:x=st.length
  .subst e;simp [BM.put] at h2;subst h2;refine ⟨?_,hln⟩
   rcases hfrom hh with h4 |⟨b1,h4,h5,h6⟩
   .exact QD hR.nLe h4
   .rw [<-h6];exact (hR.nOwn l b1 h4 h5).1
  .exact hR.nOwn x b (hold x b h2 e).2 hh
 .by_cases e:x=st.length <;> by_cases e':x'=st.length
  .rw [e,e']
  .subst e;simp [BM.put] at h1;subst h1;obtain ⟨h4,h5⟩:=hold x' b2 h2 e';exact absurd h3.symm (hapart x' b2 h4 h5 hh2 hh1)
  .subst e';simp [BM.put] at h2;subst h2;obtain ⟨h4,h5⟩:=hold x b1 h1 e;exact absurd h3 (hapart x b1 h4 h5 hh1 hh2)
  .exact hR.inj x x' b1 b2 (hold x b1 h1 e).2 (hold x' b2 h2 e').2 hh1 hh2 h3
 .by_cases e:x=st.length
  .subst e;simp [BM.put] at h;subst h;exact ⟨els,by simp⟩
  .obtain ⟨h4,h5⟩:=hold x b h e;obtain ⟨els',he⟩:=hR.live x b h5;exact ⟨els',by rw [Qm (by simpa using hR.lt h5),QJ (Ne.symm h4)];exact he⟩
 .rw [hlen];by_cases e:x=st.length
  .subst e
   have he':some (b'.k,els)=some (k1,els1):=by simpa [Qs] using he
   simp at he';obtain ⟨rfl,rfl⟩:=he';refine ⟨b',by simp [BM.put],rfl,λhh=>⟨hlow hh,hthere hh,hfree hh,hfit hh,hw,λhm i hi j hj=>?_,λhm=>?_⟩,hnil⟩
   .obtain ⟨v,h1,h2⟩:=hv hh hm i hi j hj;exact ⟨v,h1,hV _ _ h2⟩
   .obtain ⟨h0,es,clock,h1,h2,h3⟩:=hmv hh hm;exact ⟨h0,es,clock,h1,h2,λi hi j hj=>hV _ _ (h3 i hi j hj)⟩
  .have hl:x<st.length:=by
    rcases JI x st.length with h |h
    .exact h
    .rw [Qs (by simpa using h),Jk (by simp;omega)] at he;cases he
   rw [Qm (by simpa using hl)] at he;by_cases e':l=x
   .subst e';rw [QP hl] at he;cases he
   .rw [QJ e'] at he;obtain ⟨b,h1,h2,h3,h4⟩:=hR.blk x k1 els1 he;refine ⟨b,by simp [BM.put,e,Ne.symm e',h1],h2,λhh=>(h3 hh).keep hsize (hheap _ (h3 hh).low λb1 h5 h6 h7=>e' (hR.inj l x b1 b h5 h1 h6 hh h7)) hV,h4⟩
theorem R.swap{A:Am}{m:BM}{w w':World}{st:St}(hR:R A m w st)(l:Nat)(b':Blk)(els:List (List AV))
  (hsize:w.heap.size≤w'.heap.size) (hos:w'.os=w.os) (htape:w'.tape=w.tape) (hout:w'.output=w.output)
  (hheap:∀B,B<w.heap.size->(∀b,m l=some b->b.has=true->b.B≠B)->w'.heap[B]?=w.heap[B]?)
  (hfrom:b'.has=true->w.heap.size≤b'.B∨∃b,m l=some b/\b.has=true/\b.B=b'.B)
  (hlow:b'.has=true->b'.B<w'.heap.size) (hnil:b'.has=false->els=[])
  (hthere:b'.has=true->∀off,off<b'.top->∃v,w'.cell? ⟨b'.B,off,none⟩=some v) (hfree:b'.has=true->∀off,off<b'.top->fz w' ⟨b'.B,off,none⟩=false)
  (hfit:b'.has=true->b'.o+els.length*b'.k≤b'.top) (hw:∀i (h:i<els.length),els[i].length=b'.k)
  (hv:b'.has=true->∀i (h:i<els.length) j (h':j<els[i].length),∃v,w'.cell? ⟨b'.B,b'.o+i*b'.k+j,none⟩=some v/\V A m st.length w els[i][j] v) (hmp:b'.mp=false:=by rfl) (hln:∃q,b'.o=q*b'.k:=by exact ⟨0,(Ya _).symm⟩):
  R A ((m.put l none).put st.length (some b')) w' (st.set l none++[some (b'.k,els)])/\Xp A m st.length w A ((m.put l none).put st.length (some b')) (st.length+1) w':=
 hR.swapG l b' els hsize hos htape hout hheap hfrom hlow hnil hln (λh _=>hthere h) (λh _=>hfree h) (λh _=>hfit h) hw (λh _=>hv h) (λ_ h=>by rw [hmp] at h;cases h)
theorem R.push{A:Am}{m:BM}{w w':World}{st:St}(hR:R A m w st)(hg:XK w w')(b':Blk)(els:List (List AV))
  (hfrom:b'.has=true->w.heap.size≤b'.B/\b'.B<w'.heap.size) (hnil:b'.has=false->els=[])
  (hthere:b'.has=true->∀off,off<b'.top->∃v,w'.cell? ⟨b'.B,off,none⟩=some v) (hfree:b'.has=true->∀off,off<b'.top->fz w' ⟨b'.B,off,none⟩=false)
  (hfit:b'.has=true->b'.o+els.length*b'.k≤b'.top) (hw:∀i (h:i<els.length),els[i].length=b'.k)
  (hv:b'.has=true->∀i (h:i<els.length) j (h':j<els[i].length),∃v,w'.cell? ⟨b'.B,b'.o+i*b'.k+j,none⟩=some v/\V A m st.length w els[i][j] v) (hmp:b'.mp=false:=by rfl) (hln:∃q,b'.o=q*b'.k:=by exact ⟨0,(Ya _).symm⟩):
  R A (m.put st.length (some b')) w' (st++[some (b'.k,els)])/\Xp A m st.length w A (m.put st.length (some b')) (st.length+1) w':=by
 have h:=hR.swap st.length b' els hg.size hg.os hg.tape hg.output (λB hB _=>hg.heap B hB) (λhh=>.inl (hfrom hh).1) (λhh=>(hfrom hh).2) hnil hthere hfree hfit hw hv hmp hln
 have e1:(m.put st.length none).put st.length (some b')=m.put st.length (some b'):=by funext x;simp only [BM.put];split <;> rfl
 have e2:st.set st.length none=st:=JN (Qk _);rw [e1,e2] at h;exact h
theorem R.pushM{A:Am}{m:BM}{w:World}{st:St}(hR:R A m w st):
  R A (m.put st.length (some ⟨true,w.heap.size,0,2,0,true⟩)) (w.alloc (.map #[] 0)) (st++[some (2,[])])/\Xp A m st.length w A (m.put st.length (some ⟨true,w.heap.size,0,2,0,true⟩)) (st.length+1) (w.alloc (.map #[] 0)):=by
 have hg:=XK.alloc w (.map #[] 0)
 have h:=hR.swapG (w':=w.alloc (.map #[] 0)) st.length ⟨true,w.heap.size,0,2,0,true⟩ [] hg.size hg.os hg.tape hg.output (λB hB _=>hg.heap B hB) (λ_=>.inl (Qk _)) (λ_=>by simp) (λh=>by cases h) ⟨0,rfl⟩
  (λ_ h=>by cases h) (λ_ h=>by cases h) (λ_ h=>by cases h) (λi hi=>by cases hi) (λ_ h=>by cases h)
  (λ_ _=>⟨rfl,#[],0,by show (w.heap.push _)[w.heap.size]?=_;simp,rfl,λi hi=>by cases hi⟩)
 have e1:(m.put st.length none).put st.length (some ⟨true,w.heap.size,0,2,0,true⟩)=m.put st.length (some ⟨true,w.heap.size,0,2,0,true⟩):=by funext x;simp only [BM.put];split <;> rfl
 have e2:st.set st.length none=st:=JN (Qk _);rw [e1,e2] at h;exact h
theorem R.setM{A:Am}{m:BM}{w:World}{st:St}(hR:R A m w st){l:Nat}{els els':List (List AV)}(hl:st[l]?=some (some (2,els))){b:Blk}(hb:m l=some b)(hh:b.has=true)(hm:b.mp=true)
  {es:Array MapEntry} {clock:Nat} (hsz:es.size=els'.length) (hk:∀i (h:i<els'.length),els'[i].length=2) (hv:∀i (h:i<els'.length) j (h':j<els'[i].length),V A m st.length w els'[i][j] (ZV es i j)):
  R A m { w with heap:=w.heap.set! b.B (.map es clock) } (st.set l (some (2,els')))/\Xp A m st.length w A m st.length { w with heap:=w.heap.set! b.B (.map es clock) }:=by
 obtain ⟨hbk,hok,_⟩:=hR.at hb hl;replace hok:=hok hh
 have hsize:(w.heap.set! b.B (.map es clock)).size=w.heap.size:=by simp
 have hother:∀B,B≠b.B->(w.heap.set! b.B (.map es clock))[B]?=w.heap[B]?:=λB hB=>by simp [J6,Ne.symm hB]
 have hself:(w.heap.set! b.B (.map es clock))[b.B]?=some (.map es clock):=by simp [J6,hok.low]
 have hS:Xp A m st.length w A m st.length { w with heap:=w.heap.set! b.B (.map es clock) }:=
  ⟨Qk _,by simp,λ_ _ h=>h,λ_ _ h=>.inl h,λ_ _=>.inl rfl,λl b h hh=>.inr ⟨l,b,h,hh,rfl⟩,
   λB _ ho=>hother B (λe=>ho l b hb hh e.symm),rfl,rfl,rfl⟩
 have hV:∀av v,V A m st.length w av v->V A m st.length { w with heap:=w.heap.set! b.B (.map es clock) } av v:=λav v h=>h.step hR hS
 have hlt:l<st.length:=hR.lt hb;refine ⟨⟨λB k hB=>by show B<(w.heap.set! b.B _).size;rw [hsize];exact hR.aLow B k hB,hR.aOwn,hR.aFun,by show Flo.N≤(w.heap.set! b.B _).size;rw [hsize];exact hR.nLe,hR.nOwn,hR.inj,λl' b' h=>?_,λl' k' els1 he=>?_⟩,hS⟩
 .obtain ⟨els1,he⟩:=hR.live l' b' h;by_cases e:l'=l
  .subst e;have:b'=b:=Option.some.inj (h.symm.trans hb);subst this;exact ⟨els',by simp [hlt,hbk]⟩
  .exact ⟨els1,by rw [QJ (Ne.symm e)];exact he⟩
 .rw [Ji];by_cases e:l'=l
  .subst e;rw [QP hlt] at he;simp at he;obtain ⟨rfl,rfl⟩:=he
   refine ⟨b,hb,hbk,λ_=>⟨by show b.B<(w.heap.set! b.B _).size;rw [hsize];exact hok.low,(λh=>by rw [hm] at h;cases h),(λh=>by rw [hm] at h;cases h),(λh=>by rw [hm] at h;cases h),(λi hi=>by rw [hbk];exact hk i hi),(λh=>by rw [hm] at h;cases h),
    λ_=>⟨hbk,es,clock,hself,hsz,λi hi j hj=>hV _ _ (hv i hi j hj)⟩⟩,λh=>by rw [hh] at h;cases h⟩
  .rw [QJ (Ne.symm e)] at he;obtain ⟨b',h1,h2,h3,h4⟩:=hR.blk l' k' els1 he;refine ⟨b',h1,h2,λhh'=>(h3 hh').keep (by show w.heap.size≤(w.heap.set! b.B _).size;rw [hsize];exact Qk _) (hother _ (λe'=>e (hR.inj l' l b' b h1 hb hh' hh e'))) hV,h4⟩
theorem OM(b:Nat):∀(vs:List Value) (o:Nat) (w:World) (k:Nat),k≠b->(w.setCells b o vs).heap[k]?=w.heap[k]?
 | [],_,_,_,_=>rfl
 |v ::r,o,w,k,h=>by rw [World.setCells,OM b r (o+1) _ k h,Go.RowKit.Below.heap_setCell _ _ _ _ (by simpa using h)]
theorem ziy(b:Nat):∀(vs:List Value) (o:Nat) (w:World),(w.setCells b o vs).heap.size=w.heap.size
 | [],_,_=>rfl
 |v ::r,o,w=>by rw [World.setCells,ziy b r];simp [World.setCell]
theorem I2(b:Nat):∀(vs:List Value) (o:Nat) (w:World),(w.setCells b o vs).os=w.os/\(w.setCells b o vs).tape=w.tape/\(w.setCells b o vs).output=w.output
 | [],_,_=>⟨rfl,rfl,rfl⟩
 |v ::r,o,w=>by rw [World.setCells];exact I2 b r (o+1) _
theorem zoD(b o:Nat)(vs:List Value)(w:World)(hh:∀j,j<vs.length->∃u,w.cell? ⟨b,o+j,none⟩=some u)(off:Nat){v:Value}(h:w.cell? ⟨b,off,none⟩=some v):
  ∃v,(w.setCells b o vs).cell? ⟨b,off,none⟩=some v:=by
 by_cases ho:o≤off/\off<o+vs.length
 .have:=World.cell?_setCells_in b vs o w (λj hj=>by obtain ⟨u,hu⟩:=hh j hj;simp [hu]) (off-o) (by omega);rw [show o+(off-o)=off by omega] at this;exact ⟨_,this⟩
 .exact ⟨v,by rw [World.cell?_setCells_out b vs o w _ (λ_ _=>by simp;omega)];exact h⟩
theorem KM{i i' k j:Nat}(h:i'<i)(hj:j<k):i'*k+j<i*k:=by
 have h1:(i'+1)*k≤i*k:=QG k h;rw [Qz,JS] at h1;omega
def UY(els:List (List AV))(i j:Nat)(cs:List AV):List (List AV):=
 match els[i]? with
 |some r=>els.set i (r.take j++cs++r.drop (j+cs.length))
 |none=>els
theorem R.store{A:Am}{m:BM}{w:World}{st:St}(hR:R A m w st){l k:Nat}{els:List (List AV)}(hl:st[l]?=some (some (k,els))){b:Blk}(hb:m l=some b)(hh:b.has=true)(hm:b.mp=false)
  (i j:Nat) (cs:List AV) (vs:List Value) (hi:i<els.length) (hj:j+cs.length≤k) (hn:vs.length=cs.length)
  (hv:∀q (h:q<cs.length),V A m st.length w cs[q] (vs.getD q undef)):
  R A m (w.setCells b.B (b.o+i*b.k+j) vs) (st.set l (some (k,UY els i j cs)))/\Xp A m st.length w A m st.length (w.setCells b.B (b.o+i*b.k+j) vs):=by
 obtain ⟨hk,hok,_⟩:=hR.at hb hl;replace hok:=(hok hh).cells hm;have hos:=I2 b.B vs (b.o+i*b.k+j) w;have hsz:=ziy b.B vs (b.o+i*b.k+j) w
 have hS:Xp A m st.length w A m st.length (w.setCells b.B (b.o+i*b.k+j) vs):=
  ⟨Qk _,by rw [hsz];exact Qk _,λ_ _ h=>h,λ_ _ h=>.inl h,λ_ _=>.inl rfl,λl b h hh=>.inr ⟨l,b,h,hh,rfl⟩,
   λB _ ho=>OM _ _ _ _ _ (λe=>ho l b hb hh e.symm),hos.1,hos.2.1,hos.2.2⟩
 have hV:∀av v,V A m st.length w av v->V A m st.length (w.setCells b.B (b.o+i*b.k+j) vs) av v:=λav v h=>h.step hR hS;have hlt:l<st.length:=hR.lt hb;have hrow:els[i]?=some els[i]:=Qe hi;have hwi:els[i].length=k:=(hok.wide i hi).trans hk;have hfit:=hok.fit
 have hin:b.o+i*b.k+j+vs.length≤b.top:=by
  have h1:(i+1)*b.k≤els.length*b.k:=QG _ hi;rw [Qz,JS] at h1;omega
 refine ⟨⟨λB k hB=>by rw [hsz];exact hR.aLow B k hB,hR.aOwn,hR.aFun,by rw [hsz];exact hR.nLe,hR.nOwn,hR.inj,λl' b' h=>?_,λl' k' els' he=>?_⟩,hS⟩
 .obtain ⟨els',he⟩:=hR.live l' b' h;by_cases e:l'=l
  .subst e;have:b'=b:=Option.some.inj (h.symm.trans hb);subst this;exact ⟨UY els i j cs,by simp [hlt,hk]⟩
  .exact ⟨els',by rw [QJ (Ne.symm e)];exact he⟩
 .rw [Ji];by_cases e:l'=l
  .subst e;rw [QP hlt] at he;simp at he;obtain ⟨rfl,rfl⟩:=he
   have hsr:UY els i j cs=els.set i (els[i].take j++cs++els[i].drop (j+cs.length)):=by simp [UY,hrow]
   have hrl:(els[i].take j++cs++els[i].drop (j+cs.length)).length=k:=by simp;omega
   refine ⟨b,hb,hk,λ_=>HB.blk ⟨by rw [hsz];exact hok.low,λoff ho=>?_,λoff ho=>?_,?_,λi' hi'=>?_,λi' hi' j' hj'=>?_⟩ hm,λh=>by rw [hh] at h;cases h⟩
   .obtain ⟨v,h1⟩:=hok.there off ho;exact zoD _ _ _ _ (λq hq=>hok.there _ (by omega)) off h1
   .rw [zlV];exact hok.free off ho
   .simpa [hsr] using hok.fit
   .simp only [hsr,JZ];split
    .rw [hrl,hk]
    .exact hok.wide i' (by simpa [hsr] using hi')
   .have hi2:i'<els.length:=by simpa [hsr] using hi'
    have hw2:=hok.wide i' hi2;by_cases e:i=i'
    .subst e
     have hj2:j'<k:=by
      have:(UY els i j cs)[i].length=k:=by simp [hsr];omega
      omega
     have hget:some ((UY els i j cs)[i][j'])=(els[i].take j++cs++els[i].drop (j+cs.length))[j']?:=by
      simp [hsr]
     by_cases h1:j'<j
     .have h9:(els[i].take j++cs++els[i].drop (j+cs.length))[j']?=els[i][j']?:=by
       rw [Jv,Qm (by simp;omega),Jy,if_pos h1]
      rw [h9,Qe (by omega:j'<els[i].length)] at hget;rw [Option.some.inj hget];obtain ⟨v,h2,h3⟩:=hok.val i hi j' (by omega);refine ⟨v,?_,hV _ _ h3⟩;rw [World.cell?_setCells_out b.B vs _ w _ (λ_ _=>.inl (by simp;omega))];exact h2
     .by_cases h2:j'<j+cs.length
      .have h9:(els[i].take j++cs++els[i].drop (j+cs.length))[j']?=cs[j'-j]?:=by
        rw [Qm (by simp;omega),Qs (by simp;omega)];congr 1;simp;omega
       rw [h9,Qe (by omega:j'-j<cs.length)] at hget;rw [Option.some.inj hget];have h3:=World.cell?_setCells_in b.B vs (b.o+i*b.k+j) w (λq hq=>by obtain ⟨u,hu⟩:=hok.there (b.o+i*b.k+j+q) (by omega);simp [hu]) (j'-j) (by omega);refine ⟨_,by rw [show b.o+i*b.k+j'=b.o+i*b.k+j+(j'-j) by omega];exact h3,?_⟩;have h4:=hv (j'-j) (by omega);rw [Qi,Qe (by omega:j'-j<vs.length)] at h4;exact hV _ _ (by simpa using h4)
      .have h9:(els[i].take j++cs++els[i].drop (j+cs.length))[j']?=els[i][j']?:=by
        rw [Qs (by simp;omega),Jz];congr 1;simp;omega
       rw [h9,Qe (by omega:j'<els[i].length)] at hget;rw [Option.some.inj hget];obtain ⟨v,h3,h4⟩:=hok.val i hi j' (by omega);refine ⟨v,?_,hV _ _ h4⟩;rw [World.cell?_setCells_out b.B vs _ w _ (λ_ _=>.inr (by simp;omega))];exact h3
    .have hget:(UY els i j cs)[i']=els[i']:=by simp [hsr,e]
     have hj2:j'<els[i'].length:=by rw [<-hget];exact hj'
     have hget2:(UY els i j cs)[i'][j']=els[i'][j']:=by simp [hsr,e]
     rw [hget2];obtain ⟨v,h3,h4⟩:=hok.val i' hi2 j' hj2;refine ⟨v,?_,hV _ _ h4⟩;rw [World.cell?_setCells_out b.B vs _ w _ (λ_ _=>?_)]
     .exact h3
     .simp
      rcases Nat.lt_or_gt_of_ne e with h5 |h5
      .right;have:=KM (k:=b.k) (j:=b.k-1) h5 (by omega);omega
      .left;have:=KM (k:=b.k) (j:=j') h5 (by omega);omega
  .rw [QJ (Ne.symm e)] at he;obtain ⟨b',h1,h2,h3,h4⟩:=hR.blk l' k' els' he;refine ⟨b',h1,h2,λhh'=>(h3 hh').keep (by rw [hsz];exact Qk _) (OM _ _ _ _ _ (λe'=>e (hR.inj l' l b' b h1 hb hh' hh e'))) hV,h4⟩
structure Rd(A:Am)(m:BM)(nb:Nat)(w:World)(B o k:Nat)(els:List (List AV)):Prop where
 wide:∀i (h:i<els.length),els[i].length=k
 val:∀i (h:i<els.length) j (h':j<els[i].length),∃v,w.cell? ⟨B,o+i*k+j,none⟩=some v/\V A m nb w els[i][j] v
theorem Rd.flat{A m nb w B o k els}(h:Rd A m nb w B o k els):∃news:List Value,news.length=els.length*k/\(∀q u,news[q]?=some u->w.cell? ⟨B,o+q,none⟩=some u) /\
  ∀i (hi:i<els.length) j (hj:j<els[i].length),V A m nb w els[i][j] (news.getD (i*k+j) undef):=by
 have key:∀q,q<els.length*k->∃i j,∃(hi:i<els.length) (hj:j<els[i].length),q=i*k+j:=λq hq=>by
  have hk:0<k:=by
   rcases Q8 k with h |h
   .subst h;omega
   .exact h
  have hi:q / k<els.length:=by rw [JX hk];exact hq
  exact ⟨q / k,q % k,hi,by rw [h.wide _ hi];exact Nat.mod_lt _ hk,by rw [Yb];exact (J7 q k).symm⟩
 refine ⟨(List.range (els.length*k)).map λq=>(w.cell? ⟨B,o+q,none⟩).getD undef,by simp,λq u hu=>?_,λi hi j hj=>?_⟩
 .have hq:q<els.length*k:=by
   rcases JI q (els.length*k) with h |h
   .exact h
   .rw [Jk (by simpa using h)] at hu;cases hu
  obtain ⟨i,j,hi,hj,rfl⟩:=key q hq;obtain ⟨v,h1,_⟩:=h.val i hi j hj;simp [hq,<-QU,h1] at hu;rw [<-hu,<-QU];exact h1
 .obtain ⟨v,h1,h2⟩:=h.val i hi j hj
  have hq:i*k+j<els.length*k:=by
   have:=KM (k:=k) (j:=j) hi (by rw [<-h.wide i hi];exact hj);exact this
  have:((List.range (els.length*k)).map λq=>(w.cell? ⟨B,o+q,none⟩).getD undef).getD (i*k+j) undef=v:=by
   simp [hq,<-QU,h1]
  rw [this];exact h2
theorem Rd.sub{A m nb w B o k els}(h:Rd A m nb w B o k els)(i n:Nat):Rd A m nb w B (o+i*k) k ((els.drop i).take n):=by
 refine ⟨λq hq=>?_,λq hq j hj=>?_⟩
 .simp at hq ⊢;exact h.wide _ (by omega)
 .have hq':=hq;simp at hq'
  have e:((els.drop i).take n)[q]=els[i+q]'(by omega):=by simp
  have hj':j<(els[i+q]'(by omega)).length:=by rw [<-e];exact hj
  obtain ⟨v,h1,h2⟩:=h.val (i+q) (by omega) j hj';refine ⟨v,?_,?_⟩
  .rw [<-h1];congr 2;rw [Qz];omega
  .have e2:((els.drop i).take n)[q][j]=(els[i+q]'(by omega))[j]:=by simp
   rw [e2];exact h2
theorem HB.rd{A m nb w b els}(h:HB A m nb w b els):Rd A m nb w b.B b.o b.k els:=⟨h.wide,h.val⟩
inductive TK where
 |int (k:IntKind) |bool |str |slc (e:TypeId) |agg (fs:List (Nat×Nat)) |arr (n e:Nat) |ptr (e:TypeId) |other |bad
structure TI where
 k:TK
 size:Nat
 bytes:Nat
 zero:Value
def ZR(P:Program):TypeDesc->TK
 |.int k=>.int k
 |.bool=>.bool
 |.string=>.str
 |.slice e=>.slc e
 |.struct fs =>
  match fs.toList.mapM (λf=>(P.info? f.type).map λi=>(f.offset,i.size)) with
  |some pl=>.agg pl
  |none=>.bad
 |.array n e=>.arr n e
 |.pointer e=>.ptr e
 |_=>.other
def Xf(P:Program)(t:TypeId):Option TI:=
 match P.underlying t,P.info? t with
 |some d,some i =>
  match i.zero with
  |some z=>if z.cells.size=i.size then some ⟨ZR P d,i.size,i.bytes,z⟩ else none
  |none=>none
 |_,_=>none
theorem XY{P t ti}(h:Xf P t=some ti):∃d i,P.underlying t=some d/\P.info? t=some i/\i.zero=some ti.zero/\i.size=ti.size/\i.bytes=ti.bytes/\ZR P d=ti.k/\ti.zero.cells.size=ti.size:=by
 unfold Xf at h;split at h
 .rename_i d i hd hi;split at h
  .rename_i z hz;split at h
   .rename_i hs;cases h;exact ⟨d,i,hd,hi,hz,rfl,rfl,rfl,hs⟩
   .cases h
  .cases h
 .cases h
theorem UI{P d e}(h:ZR P d=.slc e):d=.slice e:=by
 cases d <;> simp only [ZR] at h
 case slice=>cases h;rfl
 case struct=>split at h <;> cases h
 all_goals cases h
theorem zD8{P d fs}(h:ZR P d=.agg fs):∃f,d=.struct f/\f.toList.mapM (λf=>(P.info? f.type).map λi=>(f.offset,i.size))=some fs:=by
 cases d <;> simp only [ZR] at h
 case struct =>
  split at h
  .rename_i pl hp;cases h;exact ⟨_,rfl,hp⟩
  .cases h
 all_goals cases h
theorem Dv{P d}(h:ZR P d=.str):d=.string:=by
 cases d <;> simp only [ZR] at h
 case string=>rfl
 case struct=>split at h <;> cases h
 all_goals cases h
theorem zyb{P d k}(h:ZR P d=.int k):d=.int k:=by
 cases d <;> simp only [ZR] at h
 case int=>cases h;rfl
 case struct=>split at h <;> cases h
 all_goals cases h
theorem zBG{P d}(h:ZR P d=.bool):d=.bool:=by
 cases d <;> simp only [ZR] at h
 case bool=>rfl
 case struct=>split at h <;> cases h
 all_goals cases h
def TK.isAgg:TK->Option Bool
 |.agg _ |.arr ..=>some true
 |.bad=>none
 |_=>some false
theorem zpP{P t ti b}(w:World)(h:Xf P t=some ti)(ho:ti.k.isAgg=some b):(isAgg t).run P w=.ok b w:=by
 obtain ⟨d,i,hd,_,_,_,_,hk,_⟩:=XY h;simp only [isAgg,Sem.run_bind,run_underlying hd,Result.andThen_ok];rw [<-hk] at ho;cases d <;> simp only [ZR] at ho
 case struct=>split at ho <;> cases ho;rfl
 all_goals (cases ho;rfl)
theorem GJ{P t ti}(w:World)(h:Xf P t=some ti):(sizeOf t).run P w=.ok ti.size w:=by
 obtain ⟨d,i,_,hi,_,hs,_,_⟩:=XY h;simp [sizeOf,typeInfo,hi,hs]
theorem zmn{P t ti}(w:World)(h:Xf P t=some ti):(zeroValue t).run P w=.ok ti.zero w:=by
 obtain ⟨d,i,_,hi,hz,hs,_,_⟩:=XY h;simp [zeroValue,typeInfo,hi,hz]
def Ub(st:St)(k:Nat):AV->Option (List (List AV))
 |.isl k' els=>if k'=k then some els else none
 |.msl l i n =>
  match st[l]? with
  |some (some (k',els))=>if k'=k/\i+n≤els.length then some ((els.drop i).take n) else none
  |_=>none
 |.lit (.slice none 0 0)=>some []
 |_=>none
def DB(st:St)(k:Nat):AV->Option (List (List AV)×St)
 |.msl l i n =>
  match st[l]? with
  |some (some (k',els))=>if k'=k/\i+n≤els.length then some ((els.drop i).take n,st.set l none) else none
  |_=>none
 |.lit (.slice none 0 0)=>some ([],st)
 |_=>none
theorem zqp{A m w st k av els v}(hR:R A m w st)(h:Ub st k av=some els)(hv:V A m st.length w av v):
  (els=[]/\∃a cap,v=.slice a 0 cap)∨∃B o cap,v=.slice (some ⟨B,o,none⟩) els.length cap/\els.length≤cap/\Rd A m st.length w B o k els:=by
 cases av with
 |isl k' e =>
  simp only [Ub] at h;split at h
  .rename_i hk;cases h;subst hk
   cases hv.isl_inv with
   |isl _ _ B o cap vs hA hcap hk hc hv' =>
    refine .inr ⟨B,o,cap,rfl,hcap,hk,λi hi j hj=>⟨_,hc i j hi (by rw [<-hk i hi];exact hj),.imm (hv' i hi j hj)⟩⟩
   |inil _ a cap _=>exact .inl ⟨rfl,_,_,rfl⟩
  .cases h
 |msl l i n =>
  simp only [Ub] at h;split at h
  .rename_i k' e he;split at h
   .rename_i hk;cases h;obtain ⟨rfl,hin⟩:=hk;obtain ⟨hl,a,n',cap,rfl,hb⟩:=hv.msl_inv;obtain ⟨b,h1,h2,h3,h4⟩:=hR.blk l _ e he;obtain ⟨rfl,h5,h6⟩:=hb b h1
    have hlen:((e.drop i).take n').length=n':=by simp;omega
    rcases h6 with rfl |⟨h6,hm6,rfl,h7⟩
    .exact .inl ⟨Qf (by omega),a,0,by rw [show n'=0 by omega]⟩
    .subst h2;exact .inr ⟨b.B,_,cap,by rw [hlen],by omega,((h3 h6).cells hm6).rd.sub i n'⟩
   .cases h
  .cases h
 |lit x =>
  simp only [Ub] at h;split at h
  .rename_i heq;cases heq
  .rename_i heq;cases heq
  .rename_i heq;cases heq;cases h;rw [hv.lit_inv];exact .inl ⟨rfl,none,0,rfl⟩
  .cases h
 |_=>simp [Ub] at h
def Kj(els:List (List AV)):Bool:=els.all λr=>r.all AV.one
structure zGA(A:Am)(m:BM)(nb:Nat)(w:World)(P:Program)(k:Nat)(tx:TypeId)(x:Value)(new:List (List AV)):Prop where
 wide:∀i (h:i<new.length),new[i].length=k
 src:∃news,Src P k tx x new.length news w/\∀i (hi:i<new.length) j (hj:j<new[i].length),V A m nb w new[i][j] (news.getD (i*k+j) undef)
theorem zqU{l r:List Value}{q:Nat}(h:q<l.length):(l++r).getD q undef=l.getD q undef:=by
 simp [Qi,Qm h]
theorem zp8{l r:List Value}{q:Nat}:(l++r).getD (l.length+q) undef=r.getD q undef:=by
 simp [Qi,Qs]
theorem zqz{P:Program}{A m w st}(hR:R A m w st){t tx ty e:TypeId}{ti:TI}{te:TI}(ht:Xf P t=some ti)(hte:ti.k=.slc e)(he:Xf P e=some te)(hsz:0<te.size)
  {s:AV} {sv x:Value} (hs:V A m st.length w s sv) {old new:List (List AV)} {st1:St} (hb:DB st te.size s=some (old,st1)) (hx:zGA A m st.length w P te.size tx x new)
  (hfits:(old.length+new.length)*te.bytes≤140737488355328) (h63:old.length+new.length≤9223372036854775807):
  ∃v w' m',(Builtin.append_ #[t,tx] ty #[sv,x]).run P w=.ok v w'/\R A m' w' (st1++[some (te.size,old++new)]) /\
   Xp A m st.length w A m' (st1++[some (te.size,old++new)]).length w'/\V A m' (st1++[some (te.size,old++new)]).length w' (.msl st.length 0 (old.length+new.length)) v:=by
 obtain ⟨d,i0,hd,hi0,_,_,_,hdk,_⟩:=XY ht;rw [hte] at hdk;have hd':=UI hdk;subst hd';obtain ⟨d2,i,_,hi,hz,hsize,hbytes,_,hzs⟩:=XY he;obtain ⟨news,hsrc,hval⟩:=hx.src;rw [<-hsize] at hsrc;have hnl:=hsrc.newsLen;rw [hsize] at hnl
 have hwide:∀q (h:q<(old++new).length),(∀i (h:i<old.length),old[i].length=te.size)->(old++new)[q].length=te.size:=λq hq ho=>by
  rw [List.getElem_append];split
  .exact ho _ _
  .exact hx.wide _ _
 have grow:∀(l:Nat) (sn sc:Nat) (base:Option Addr) (olds:List Value),st1=st.set l none->sn=old.length->(∀b,m l=some b->True) ->
   (∀i (h:i<old.length),old[i].length=te.size)->olds.length=old.length*te.size ->
   (∀i (hi:i<old.length) j (hj:j<old[i].length),V A m st.length w old[i][j] (olds.getD (i*te.size+j) undef)) ->
   (Builtin.firstCells i.size sn (.slice base sn sc)).run P w.drew=.ok olds.toArray w.drew->sc<sn+new.length ->
   ∃v w' m',(Builtin.append_ #[t,tx] ty #[.slice base sn sc,x]).run P w=.ok v w'/\R A m' w' (st1++[some (te.size,old++new)]) /\
   Xp A m st.length w A m' (st1++[some (te.size,old++new)]).length w'/\V A m' (st1++[some (te.size,old++new)]).length w' (.msl st.length 0 (old.length+new.length)) v:=by
  intro l sn sc base olds hst1 hsn _ how hol hov hfc hlt;have hr:=run_append_grow_src (P:=P) w t tx ty e i te.zero hd hi hz base sn sc olds hfc x new.length news hsrc hlt (by omega) (growslice_fits hlt (by rw [hbytes,hsn];exact hfits));refine ⟨_,_,(m.put l none).put st.length (some ⟨true,w.heap.size,0,te.size,grownCap w (sn+new.length) sc e*te.size,false⟩),hr,?_⟩;subst hst1;have hcap:=grownCap_ge w (sn+new.length) sc e
  have hcl:((olds++news).toArray++Builtin.zeroCells te.zero.cells (grownCap w (sn+new.length) sc e-(sn+new.length))).size=grownCap w (sn+new.length) sc e*te.size:=by
   simp only [Array.size_append,List.size_toArray,QA,size_zeroCells,hzs,hol,hnl,<-Qz];congr 1;omega
  have hcell:∀off,off<grownCap w (sn+new.length) sc e*te.size->(w.drew.alloc (.cells ((olds++news).toArray++Builtin.zeroCells te.zero.cells (grownCap w (sn+new.length) sc e-(sn+new.length))) e)).cell? ⟨w.heap.size,off,none⟩ =
    ((olds++news).toArray++Builtin.zeroCells te.zero.cells (grownCap w (sn+new.length) sc e-(sn+new.length)))[off]?:=λoff _=>by
   have:=World.cell?_alloc_new w.drew ((olds++news).toArray++Builtin.zeroCells te.zero.cells (grownCap w (sn+new.length) sc e-(sn+new.length))) e off;exact this
  have hg:XK w (w.drew.alloc (.cells ((olds++news).toArray++Builtin.zeroCells te.zero.cells (grownCap w (sn+new.length) sc e-(sn+new.length))) e)):=(XK.drew w).trans (XK.alloc _ _)
  have h:=hR.swap l ⟨true,w.heap.size,0,te.size,grownCap w (sn+new.length) sc e*te.size,false⟩ (old++new) hg.size hg.os hg.tape hg.output (λB hB _=>hg.heap B hB)
   (λ_=>.inl (Qk _)) (λ_=>by show w.heap.size<(w.drew.alloc _).heap.size;rw [World.size_alloc];exact QN _) (λh=>by cases h)
   (λ_ off ho=>by rw [hcell off ho,QE (by rw [hcl];exact ho)];exact ⟨_,rfl⟩)
   (λ_ off _=>I7 (w:=w.drew) _ e off)
   (λ_=>by simp only [QA];rw [QM];exact QG _ (by omega))
   (λq hq=>hwide q hq how)
   (λ_ q hq j hj=>by
    have hj':j<te.size:=by rw [hwide q hq how] at hj;exact hj
    have hqlt:q*te.size+j<grownCap w (sn+new.length) sc e*te.size:=by
     refine QI (KM (i:=old.length+new.length) (by simpa using hq) hj') (QG _ (by omega))
    have hon:q*te.size+j<(olds++news).length:=by
     simp only [QA,hol,hnl,<-Qz];exact KM (by simpa using hq) hj'
    refine ⟨(olds++news).getD (q*te.size+j) undef,?_,?_⟩
    .simp only [QM];rw [hcell _ hqlt,Jg (by simpa using hon)];simp only [List.getElem?_toArray,Qi,Qe hon,QY]
    .by_cases hqo:q<old.length
     .have e1:(old++new)[q][j]=old[q][j]'(by rw [how q hqo];exact hj'):=by simp [Jd hqo]
      rw [e1,zqU (by rw [hol];exact KM hqo hj')];exact hov q hqo j _
     .have hq2:q-old.length<new.length:=by simp at hq;omega
      have e1:(old++new)[q][j]=(new[q-old.length])[j]'(by rw [hx.wide _ hq2];exact hj'):=by simp [Yj (Nat.le_of_not_lt hqo)]
      rw [e1]
      have e2:q*te.size+j=olds.length+((q-old.length)*te.size+j):=by
       rw [hol]
       have:q=old.length+(q-old.length):=by omega
       rw [this,Qz];simp;omega
      rw [e2,zp8]
      exact hval _ hq2 j _)
  have hlen:(st.set l none++[some (te.size,old++new)]).length=st.length+1:=by simp
  rw [hlen];refine ⟨h.1,h.2,.msl _ _ _ _ _ _ (QN _) λb hb'=>?_⟩;simp [BM.put] at hb';subst hb';exact ⟨by omega,by omega,.inr ⟨rfl,rfl,by simp,by simp⟩⟩
 cases s with
 |msl l i' n =>
  simp only [DB] at hb;split at hb
  .rename_i k' els hl;split at hb
   .rename_i hk;obtain ⟨rfl,hin⟩:=hk;cases hb;obtain ⟨hl',a,n',cap,rfl,hbk⟩:=hs.msl_inv;obtain ⟨b,h1,h2,h3,h4⟩:=hR.blk l _ els hl;obtain ⟨rfl,h5,h6⟩:=hbk b h1
    have holen:((els.drop i').take n').length=n':=by simp;omega
    rcases h6 with rfl |⟨h6,hm6,rfl,h7⟩
    .have h0:(els.drop i').take n'=[]:=Qf (by omega);by_cases hne:new.length=0
     · 
      have hnews:news=[]:=Qf (by rw [hnl,hne];simp)
      have hn0:n'=0:=by omega
      subst hn0
      have hr:(Builtin.append_ #[t,tx] ty #[.slice a 0 0,x]).run P w=.ok (.slice a 0 0) w:=by
       subst hnews;have hl:=hsrc.len w;have hc:=hsrc.cells;rw [hne] at hl hc
       rcases hsrc.kind with ⟨e',hk⟩ |hk <;> cases a <;>
        simp [Builtin.append_,run_underlying hd,run_underlying hk,sizeOf,typeInfo,hi,hl,hc,storeCells]
      have hnew:new=[]:=Qf hne;subst hnew
      have h:=hR.swap l ⟨false,0,0,te.size,0,false⟩ [] (Qk _) rfl rfl rfl (λ_ _ _=>rfl) (λh=>by cases h) (λh=>by cases h) (λ_=>rfl)
       (λh=>by cases h) (λh=>by cases h) (λh=>by cases h) (λq hq=>by cases hq) (λh=>by cases h)
      refine ⟨_,_,(m.put l none).put st.length (some ⟨false,0,0,te.size,0,false⟩),hr,?_⟩;rw [h0]
      have hlen:(st.set l none++[some (te.size,([]++[]:List (List AV)))]).length=st.length+1:=by simp
      rw [hlen];refine ⟨h.1,h.2,.msl _ _ _ _ _ _ (QN _) λb hb'=>?_⟩;exact ⟨rfl,by simp,.inl rfl⟩
     .refine grow l n' 0 a [] rfl holen.symm (λ_ _=>trivial) (λq hq=>by omega) (by rw [h0];simp) (λq hq=>by omega) ?_ (by omega);rw [show n'=0 by omega];cases a <;> simp [Builtin.firstCells,loadCells,loadCellsFrom]
    .have hok:=(h3 h6).cells hm6
     have hrd:Rd A m st.length w b.B (b.o+i'*b.k) te.size ((els.drop i').take n'):=by rw [<-h2];exact hok.rd.sub i' n'
     by_cases hroom:n'+new.length≤cap
     .have hfit:b.o+i'*b.k+n'*te.size+news.length≤b.top:=by
       rw [hnl,h2]
       have:i'*te.size+(n'*te.size+new.length*te.size)≤(i'+cap)*te.size:=by
        rw [<-Qz,<-Qz];exact QG _ (by omega)
       rw [h2] at h7;omega
      have hr:=run_append_room_src (P:=P) w t tx ty e i hd hi b.B (b.o+i'*b.k) n' cap x new.length news hsrc hroom
       (λj hj=>by obtain ⟨u,hu⟩:=hok.there (b.o+i'*b.k+n'*i.size+j) (by rw [hsize];omega);simp [hu])
       (λj hj=>Ok (hok.free _ (by rw [hsize];omega)))
      rw [hsize] at hr;refine ⟨_,_,(m.put l none).put st.length (some ⟨true,b.B,b.o+i'*b.k,te.size,b.top,false⟩),hr,?_⟩;have hos:=I2 b.B news (b.o+i'*b.k+n'*te.size) w;have hsz:=ziy b.B news (b.o+i'*b.k+n'*te.size) w;have hthere:∀j,j<news.length->∃u,w.cell? ⟨b.B,b.o+i'*b.k+n'*te.size+j,none⟩=some u:=λj hj=>hok.there _ (by omega)
      have h:=hR.swap l ⟨true,b.B,b.o+i'*b.k,te.size,b.top,false⟩ ((els.drop i').take n'++new) (by rw [hsz];exact Qk _) hos.1 hos.2.1 hos.2.2
       (λB _ ho=>OM _ _ _ _ _ (λhe'=>ho b h1 h6 he'.symm)) (λ_=>.inr ⟨b,h1,h6,rfl⟩) (λ_=>by rw [hsz];exact hok.low) (λh=>by cases h)
       (λ_ off ho=>by obtain ⟨v,hv⟩:=hok.there off ho;exact zoD _ _ _ _ hthere off hv)
       (λ_ off ho=>by rw [zlV];exact hok.free off ho)
       (λ_=>by simp only [QA,holen,Qz];rw [<-hnl];omega)
       (λq hq=>hwide q hq hrd.wide)
       (λ_ q hq j hj=>by
        have hj':j<te.size:=by rw [hwide q hq hrd.wide] at hj;exact hj
        by_cases hqo:q<((els.drop i').take n').length
        .have e1:((els.drop i').take n'++new)[q][j]=((els.drop i').take n')[q][j]'(by rw [hrd.wide q hqo];exact hj'):=by
          simp only [Jd hqo]
         rw [e1];obtain ⟨v,h8,h9⟩:=hrd.val q hqo j _;refine ⟨v,?_,h9⟩;have:=KM (i':=q) (i:=n') (k:=te.size) (j:=j) (by omega) hj';rw [World.cell?_setCells_out b.B news _ w _ (λ_ _=>.inl (by simp;omega))];exact h8
        .have hq2:q-((els.drop i').take n').length<new.length:=by simp only [QA] at hq;omega
         have e1:((els.drop i').take n'++new)[q][j]=(new[q-((els.drop i').take n').length])[j]'(by rw [hx.wide _ hq2];exact hj'):=by
          simp only [Yj (Nat.le_of_not_lt hqo)]
         rw [e1]
         have hlt:(q-((els.drop i').take n').length)*te.size+j<news.length:=by rw [hnl];exact KM hq2 hj'
         have h8:=World.cell?_setCells_in b.B news (b.o+i'*b.k+n'*te.size) w (λj hj=>by obtain ⟨u,hu⟩:=hthere j hj;simp [hu]) _ hlt;refine ⟨_,?_,hval _ hq2 j _⟩;rw [Qi,Qe hlt,QY,<-h8];congr 2;show b.o+i'*b.k+q*te.size+j=_;rw [holen]
         have:q*te.size=n'*te.size+(q-n')*te.size:=by rw [<-Qz];congr 1;omega
         omega) (hln:=by
         obtain ⟨q,hq⟩:=(hR.nOwn l b h1 h6).2;refine ⟨q+i',?_⟩;show b.o+i'*b.k=(q+i')*te.size
         rw [<-h2,Qz,hq])
      have hlen:(st.set l none++[some (te.size,(els.drop i').take n'++new)]).length=st.length+1:=by simp
      rw [hlen];refine ⟨h.1,h.2,.msl _ _ _ _ _ _ (QN _) λb' hb'=>?_⟩;simp [BM.put] at hb';subst hb';refine ⟨by omega,by omega,.inr ⟨rfl,rfl,by simp,?_⟩⟩;show b.o+i'*b.k+(0+cap)*te.size≤b.top;rw [QM,h2];rw [h2,Qz] at h7;omega
     .obtain ⟨olds,ho1,ho2,ho3⟩:=hrd.flat;refine grow l n' cap (some ⟨b.B,b.o+i'*b.k,none⟩) olds rfl holen.symm (λ_ _=>trivial) hrd.wide ho1 ho3 ?_ (by omega);refine run_firstCells_some w.drew i.size n' ⟨b.B,b.o+i'*b.k,none⟩ n' cap olds (by rw [ho1,holen,hsize]) λj v hj=>?_
      have hadd:(⟨b.B,b.o+i'*b.k,none⟩:Addr).add j=⟨b.B,b.o+i'*b.k+j,none⟩:=by unfold Addr.add;split <;> simp_all
      rw [hadd];simpa using ho2 j v hj
   .cases hb
  .cases hb
 |lit y =>
  have hy:y=.slice none 0 0/\old=[]/\st1=st:=by
   simp only [DB] at hb;split at hb
   .rename_i heq;cases heq
   .rename_i heq;cases heq;cases hb;exact ⟨rfl,rfl,rfl⟩
   .cases hb
  obtain ⟨rfl,rfl,rfl⟩:=hy;have hsv:=hs.lit_inv;subst hsv;by_cases hne:new.length=0
  .have hnews:news=[]:=Qf (by rw [hnl,hne];simp)
   have hr:(Builtin.append_ #[t,tx] ty #[.slice none 0 0,x]).run P w=.ok (.slice none 0 0) w:=by
    subst hnews;have hl:=hsrc.len w;have hc:=hsrc.cells;rw [hne] at hl hc
    rcases hsrc.kind with ⟨e',hk⟩ |hk <;>
     simp [Builtin.append_,run_underlying hd,run_underlying hk,sizeOf,typeInfo,hi,hl,hc]
   have hnew:new=[]:=Qf hne;subst hnew
   have h:=hR.push (XK.refl w) ⟨false,0,0,te.size,0,false⟩ [] (λh=>by cases h) (λ_=>rfl)
    (λh=>by cases h) (λh=>by cases h) (λh=>by cases h) (λq hq=>by cases hq) (λh=>by cases h)
   refine ⟨_,_,m.put st1.length (some ⟨false,0,0,te.size,0,false⟩),hr,?_⟩
   have hlen:(st1++[some (te.size,([]++[]:List (List AV)))]).length=st1.length+1:=by simp
   rw [hlen];exact ⟨h.1,h.2,.msl _ _ _ _ _ _ (QN _) λb hb'=>⟨rfl,by simp,.inl rfl⟩⟩
  .refine grow st1.length 0 0 none [] (JN (Qk _)).symm rfl (λ_ _=>trivial) (λq hq=>by simp at hq) (by simp) (λq hq=>by simp at hq) ?_ (by omega);simp [Builtin.firstCells]
 |_=>simp [DB] at hb
abbrev Ev:=List (Nat×AV)
def look:Ev->Nat->Option AV
 | [],_=>none
 |(k,v)::r,t=>if k=t then some v else look r t
def ev(env:Ev):Operand->Option AV
 |.tmp t=>look env t
 |.const v=>some (.lit v)
 |.func f=>some (.fn (.func f) [] [])
 |.global _=>none
structure Env(A:Am)(m:BM)(nb:Nat)(w:World)(n:Nat)(env:Ev)(a:Act):Prop where
 size:a.tmps.size=n
 val:∀t v,look env t=some v->t<n/\V A m nb w v (a.tmps.getD t undef)
 defers:a.defers=[]
theorem zV{A m nb w n env a x v}(h:Env A m nb w n env a)(hx:ev env x=some v):V A m nb w v (a.eval x):=by
 cases x with
 |tmp t=>exact (h.val t v hx).2
 |const c=>cases hx;exact .imm (.lit c)
 |func f =>
  cases hx;exact .imm (.fn _ _ _ _ _ rfl (λi hi=>by cases hi) rfl (λi hi=>by cases hi))
 |global g=>cases hx
theorem Env.step{A A' m m' nb' w w' st n env a}(h:Env A m st.length w n env a)(hR:R A m w st)(hS:Xp A m st.length w A' m' nb' w'):Env A' m' nb' w' n env a:=
 ⟨h.size,λt v ht=>⟨(h.val t v ht).1,(h.val t v ht).2.step hR hS⟩,h.defers⟩
theorem Env.put{A m nb w n env a d av v}(h:Env A m nb w n env a)(hd:d<n)(hv:V A m nb w av v):Env A m nb w n ((d,av)::env) (a.put (some d) v):=by
 refine ⟨by simp [Act.put,h.size],λt u ht=>?_,h.defers⟩;simp only [look] at ht;split at ht
 .rename_i e;subst e;cases ht;refine ⟨hd,?_⟩
  have:(a.put (some d) v).tmps.getD d undef=v:=by simp [Act.put,h.size,hd]
  rw [this];exact hv
 .rename_i e;obtain ⟨h1,h2⟩:=h.val t u ht;refine ⟨h1,?_⟩
  have:(a.put (some d) v).tmps.getD t undef=a.tmps.getD t undef:=by simp [Act.put,JW e]
  rw [this];exact h2
theorem Env.none{A m nb w n env a v}(h:Env A m nb w n env a):Env A m nb w n env (a.put none v):=h
theorem Env.less{A m nb w n env env' a}(h:Env A m nb w n env a)(hs:∀t v,look env' t=some v->look env t=some v):Env A m nb w n env' a:=
 ⟨h.size,λt v ht=>h.val t v (hs t v ht),h.defers⟩
def UZ:AV->Option (List AV)
 |.agg cs=>if cs.all AV.one then some cs else none
 |.any |.tup _=>none
 |.lit v=>if v.oneCell' then some [.lit v] else none
 |.fr x=>if (AV.fr x).one then some [.fr x] else none
 |x=>some [x]
theorem zj3{A m nb w av cs v}(h:UZ av=some cs)(hv:V A m nb w av v):VL A m nb w cs v.cells/\(∀u∈v.cells,u.oneCell'=true):=by
 have one1:∀u:Value,u.oneCell'=true->u.cells=#[u]:=λu hu=>by cases u <;> first |rfl |cases hu
 have mk1:∀x u,V A m nb w x u->x.one=true->VL A m nb w [x] u.cells/\(∀y∈u.cells,y.oneCell'=true):=λx u hxu h1=>by
  have ho:=hxu.one h1;rw [one1 u ho];refine ⟨⟨rfl,λi hi=>?_⟩,λy hy=>by simp at hy;rw [hy];exact ho⟩
  have:i=0:=by simp at hi;exact hi
  subst this;exact hxu
 cases av with
 |any=>cases h
 |tup _=>cases h
 |lit x =>
  simp only [UZ] at h;split at h
  .rename_i h1;cases h;exact mk1 _ _ hv (by simpa [AV.one] using h1)
  .cases h
 |agg ds =>
  simp only [UZ] at h;split at h
  .rename_i h1;cases h;obtain ⟨a,rfl,hs,ha⟩:=hv.agg_inv;refine ⟨⟨hs,ha⟩,λu hu=>?_⟩;obtain ⟨i,hi,rfl⟩:=Array.mem_iff_getElem.1 hu
   have hi':i<cs.length:=by rw [<-hs];exact hi
   have:=(ha i hi').one (by rw [Ql] at h1;exact h1 _ (Qh hi'))
   have e:(Value.agg a).cells[i]=a.getD i undef:=by
    have hi2:i<a.size:=hi;simp [Value.cells,Qg,hi2]
   rw [e];exact this
  .cases h
 |isl _ _=>cases h;exact mk1 _ _ hv rfl
 |ipt _ _ _ _=>cases h;exact mk1 _ _ hv rfl
 |msl _ _ _=>cases h;exact mk1 _ _ hv rfl
 |mpt _ _ _=>cases h;exact mk1 _ _ hv rfl
 |fn _ _ _=>cases h;exact mk1 _ _ hv rfl
 |imp _=>cases h;exact mk1 _ _ hv rfl
 |mmp _=>cases h;exact mk1 _ _ hv rfl
 |fr x =>
  simp only [UZ] at h;split at h
  .rename_i h1;cases h;exact mk1 _ _ hv h1
  .cases h
def Gv(st:St):AV->Option (List AV×Nat)
 |.mpt l i j =>
  match st[l]? with
  |some (some (_,els))=>(els[i]?).map (·,j)
  |_=>none
 |.ipt _ els i j=>(els[i]?).map (·,j)
 |_=>none
theorem zsh{A m w st av r j v}(hR:R A m w st)(h:Gv st av=some (r,j))(hv:V A m st.length w av v):
  ∃B o,v=.pointer (some ⟨B,o+j,none⟩)/\∀q (hq:q<r.length),∃u,w.cell? ⟨B,o+q,none⟩=some u/\V A m st.length w r[q] u:=by
 cases av with
 |mpt l i j' =>
  simp only [Gv] at h;split at h
  .rename_i k els he
   cases hi:els[i]? with
   |none=>rw [hi] at h;cases h
   |some r' =>
    rw [hi] at h;cases h;obtain ⟨hl,a,rfl,hb⟩:=hv.mpt_inv;obtain ⟨b,h1,h2,h3,h4⟩:=hR.blk l k els he;obtain ⟨hh,hmh,rfl⟩:=hb b h1;obtain ⟨hi1,hi2⟩:=Qb.1 hi;refine ⟨b.B,b.o+i*b.k,rfl,λq hq=>?_⟩;subst hi2;exact ((h3 hh).cells hmh).val i hi1 q hq
  .cases h
 |ipt k els i j' =>
  simp only [Gv] at h
  cases hi:els[i]? with
  |none=>rw [hi] at h;cases h
  |some r' =>
   rw [hi] at h;cases h;obtain ⟨hi1,hi2⟩:=Qb.1 hi
   cases hv.ipt_inv with
   |ipt _ _ _ _ B o vs hA hk hc hv' =>
    refine ⟨B,o+i*k,rfl,λq hq=>?_⟩;subst hi2;exact ⟨vs i q,hc i q hi1 (by rw [<-hk i hi1];exact hq),.imm (hv' i hi1 q hq)⟩
 |_=>simp [Gv] at h
def Ht(P:Program)(A:Am)(m:BM)(w:World)(st:St)(r:Result Next)(av:AV)(st':St):Prop:=
 ∃nx v w' m',r=.ok nx w'/\(nx=.value v∨(nx=.skip/\v=undef))/\R A m' w' st'/\Xp A m st.length w A m' st'.length w'/\V A m' st'.length w' av v
theorem zvr{P A m w st av v}(hR:R A m w st)(hv:V A m st.length w av v):Ht P A m w st (.ok (.value v) w) av st:=
 ⟨_,v,w,m,rfl,.inl rfl,hR,Xp.refl _ _ _ _,hv⟩
def Dq(st:St)(ti:TI)(p:AV):Option AV:=
 match Gv st p,ti.k.isAgg with
 |some (r,j),some true=>if j+ti.size≤r.length then some (.agg ((r.drop j).take ti.size)) else none
 |some (r,j),some false=>r[j]?
 |_,_=>none
theorem Ha(B o n:Nat):(⟨B,o,none⟩:Addr).add n=⟨B,o+n,none⟩:=by unfold Addr.add;split <;> simp_all
theorem ztQ{P:Program}{A:Am}{m:BM}{w:World}{st:St}{t:TypeId}{ti:TI}{v:AV}{B o:Nat}{r:List AV}{j:Nat}(ht:Xf P t=some ti)
  (hrow:∀q (hq:q<r.length),∃u,w.cell? ⟨B,o+q,none⟩=some u/\V A m st.length w r[q] u)
  (h:(match ti.k.isAgg with |some true=>if j+ti.size≤r.length then some (.agg ((r.drop j).take ti.size)) else none |some false=>r[j]? |none=>none)=some v):
  ∃u,(loadVar t ⟨B,o+j,none⟩).run P w=.ok u w/\V A m st.length w v u:=by
 cases ha:ti.k.isAgg with
 |none=>rw [ha] at h;cases h
 |some b =>
  have hia:=zpP w ht ha;have hso:=GJ w ht;rw [ha] at h
  cases b with
  |false =>
   simp only at h;obtain ⟨hj,rfl⟩:=Qb.1 h;obtain ⟨u,h1,h2⟩:=hrow j hj;exact ⟨u,by simp [loadVar,hia,h1],h2⟩
  |true =>
   simp only at h;split at h
   .rename_i hle;cases h
    have hcell:∀q,q<ti.size->∃u,w.cell? ⟨B,o+j+q,none⟩=some u:=λq hq=>by
     obtain ⟨u,h1,_⟩:=hrow (j+q) (by omega);exact ⟨u,by rw [QU];exact h1⟩
    have hl:=run_loadCells (P:=P) w ⟨B,o+j,none⟩ ti.size (λq=>(w.cell? ⟨B,o+j+q,none⟩).getD undef) (λq hq=>by
     rw [Ha];obtain ⟨u,h1⟩:=hcell q hq;rw [h1];rfl)
    refine ⟨.agg ((List.range ti.size).map λq=>(w.cell? ⟨B,o+j+q,none⟩).getD undef).toArray,by simp [loadVar,hia,hso,hl],.agg _ _ (by simp;omega) λi hi=>?_⟩
    have hi':i<ti.size:=by simp at hi;omega
    obtain ⟨u,h1,h2⟩:=hrow (j+i) (by omega)
    have e1:((r.drop j).take ti.size)[i]=r[j+i]'(by omega):=by simp
    rw [e1]
    have e2:(((List.range ti.size).map λq=>(w.cell? ⟨B,o+j+q,none⟩).getD undef).toArray).getD i undef=u:=by
     simp [hi'];rw [QU,h1];rfl
    rw [e2];exact h2
   .cases h
theorem zAU{P:Program}{A:Am}{m:BM}{w:World}{st:St}{t:TypeId}{ti:TI}{p av:AV}{v:Value}(hR:R A m w st)(ht:Xf P t=some ti)(hp:V A m st.length w p v)(h:Dq st ti p=some av):
  ∃u,(Instr.loadAt t v).run P w=.ok u w/\V A m st.length w av u:=by
 unfold Dq at h
 cases hr:Gv st p with
 |none=>rw [hr] at h;cases h
 |some rj =>
  obtain ⟨r,j⟩:=rj;obtain ⟨B,o,rfl,hrow⟩:=zsh hR hr hp
  have h':(match ti.k.isAgg with |some true=>if j+ti.size≤r.length then some (.agg ((r.drop j).take ti.size)) else none |some false=>r[j]? |none=>none)=some av:=by
   rw [hr] at h
   revert h
   cases ti.k.isAgg with
   |none=>intro h;cases h
   |some b=>cases b <;> (intro h;exact h)
  obtain ⟨u,h1,h2⟩:=ztQ (P:=P) ht hrow h';exact ⟨u,by simp [Instr.loadAt,Instr.sureAddr,h1],h2⟩
def B5(st:St)(ti:TI)(p x:AV):Option St:=
 match p,UZ x with
 |.mpt l i j,some cs =>
  match st[l]? with
  |some (some (k,els))=>if i<els.length/\j+cs.length≤k/\cs.length=ti.size then some (st.set l (some (k,UY els i j cs))) else none
  |_=>none
 |_,_=>none
theorem zCZ{P A m w st t ti p x pv xv st'}(hR:R A m w st)(ht:Xf P t=some ti)(hp:V A m st.length w p pv)(hx:V A m st.length w x xv)(h:B5 st ti p x=some st'):
  ∃w',(Instr.storeAt t pv xv).run P w=.ok () w'/\R A m w' st'/\Xp A m st.length w A m st'.length w':=by
 unfold B5 at h;split at h
 .rename_i l i j cs hcs;split at h
  .rename_i k els he;split at h
   .rename_i hc;obtain ⟨hi,hj,hsz⟩:=hc;cases h;obtain ⟨hvl,hone⟩:=zj3 hcs hx;obtain ⟨hl,a,rfl,hb⟩:=hp.mpt_inv;obtain ⟨b,h1,h2,h3,h4⟩:=hR.blk l k els he;obtain ⟨hh,hmh,rfl⟩:=hb b h1;have hok:=(h3 hh).cells hmh
    have hvsl:xv.cells.toList.length=cs.length:=by simpa using hvl.1
    have hst:=hR.store he h1 hh hmh i j cs xv.cells.toList hi hj hvsl (λq hq=>by
     have:=hvl.2 q hq
     rwa [show xv.cells.toList.getD q undef=xv.cells.getD q undef by simp [Qi,Qg]])
    have hfit:=hok.fit
    have hin:b.o+i*b.k+j+cs.length≤b.top:=by
     have h5:(i+1)*b.k≤els.length*b.k:=QG _ hi;rw [Qz,JS] at h5;omega
    have hrun:=run_storeCells_cells (P:=P) b.B (b.o+i*b.k+j) xv.cells.toList 0 w
     (λq hq=>by obtain ⟨u,hu⟩:=hok.there (b.o+i*b.k+j+0+q) (by omega);simp only [hu];rfl)
     (λq hq=>Ok (hok.free _ (by omega))) (λu hu=>hone u (by simpa using hu))
    simp only [Q6] at hrun;refine ⟨_,?_,hst.1,by simpa using hst.2⟩;have hso:=GJ w ht
    have hsz':xv.cells.size=ti.size:=by rw [<-hsz];exact hvl.1
    simp [Instr.storeAt,Instr.sureAddr,storeVar,hso,hsz',hrun]
   .cases h
  .cases h
 .cases h
theorem zxW{A m w st}(hR:R A m w st)(e:TypeId)(c:Array Value)(cs:List AV)(hv:VL A m st.length w cs c):
  R A (m.put st.length (some ⟨true,w.heap.size,0,cs.length,cs.length,false⟩)) (w.alloc (.cells c e)) (st++[some (cs.length,[cs])]) /\
   Xp A m st.length w A (m.put st.length (some ⟨true,w.heap.size,0,cs.length,cs.length,false⟩)) (st++[some (cs.length,[cs])]).length (w.alloc (.cells c e)) /\
   V A (m.put st.length (some ⟨true,w.heap.size,0,cs.length,cs.length,false⟩)) (st++[some (cs.length,[cs])]).length (w.alloc (.cells c e)) (.mpt st.length 0 0) (.pointer (some ⟨w.heap.size,0,none⟩)):=by
 have hcell:∀off,off<cs.length->(w.alloc (.cells c e)).cell? ⟨w.heap.size,off,none⟩=some (c.getD off undef):=λoff ho=>by
  have:=World.cell?_alloc_new w c e off;rw [this,QE (by rw [hv.1];exact ho)];simp [Qg,hv.1,ho]
 have h:=hR.push (XK.alloc w (.cells c e)) ⟨true,w.heap.size,0,cs.length,cs.length,false⟩ [cs] (λ_=>⟨Qk _,by simp⟩) (λh=>by cases h)
  (λ_ off ho=>⟨_,hcell off ho⟩) (λ_ off _=>I7 (w:=w) c e off) (λ_=>by simp) (λi hi=>by simp)
  (λ_ i hi j hj=>by
   have:i=0:=by simp at hi;exact hi
   subst this
   exact ⟨_,by simpa using hcell j hj,hv.2 j hj⟩)
 have hlen:(st++[some (cs.length,[cs])]).length=st.length+1:=by simp
 rw [hlen];refine ⟨h.1,h.2,.mpt _ _ _ _ (QN _) λb hb=>?_⟩;simp [BM.put] at hb;subst hb;exact ⟨rfl,by simp⟩
def X7(z:Value):List AV:=z.cells.toList.map .lit
theorem zl8(A m nb w)(z:Value):VL A m nb w (X7 z) z.cells:=
 ⟨by simp [X7],λi hi=>by
  have hi':i<z.cells.size:=by simpa [X7] using hi
  have:z.cells.getD i undef=z.cells[i]:=by simp [Qg,hi']
  rw [this]
  have:(X7 z)[i]=.lit z.cells[i]:=by simp [X7]
  rw [this]
  exact .imm (.lit _)⟩
theorem zCV{P A m w st t ti}(hR:R A m w st)(ht:Xf P t=some ti):
  ∃w' m',(Instr.alloc t true (.tuple #[])).run P w=.ok (.pointer (some ⟨w.heap.size,0,none⟩)) w'/\R A m' w' (st++[some (ti.size,[X7 ti.zero])]) /\
   Xp A m st.length w A m' (st++[some (ti.size,[X7 ti.zero])]).length w'/\V A m' (st++[some (ti.size,[X7 ti.zero])]).length w' (.mpt st.length 0 0) (.pointer (some ⟨w.heap.size,0,none⟩)):=by
 obtain ⟨_,_,_,_,_,_,_,_,hzs⟩:=XY ht
 have hl:(X7 ti.zero).length=ti.size:=by simp [X7,hzs]
 have h:=zxW hR t ti.zero.cells (X7 ti.zero) (zl8 _ _ _ _ _);rw [hl] at h;exact ⟨_,_,by simp [Instr.alloc,zmn w ht,newVar,newRow],h⟩
theorem zGd{P A m w st t x xv cs}(hR:R A m w st)(hx:V A m st.length w x xv)(hcs:UZ x=some cs):
  ∃w' m',(Instr.box t xv).run P w=.ok (.pointer (some ⟨w.heap.size,0,none⟩)) w'/\R A m' w' (st++[some (cs.length,[cs])]) /\
   Xp A m st.length w A m' (st++[some (cs.length,[cs])]).length w'/\V A m' (st++[some (cs.length,[cs])]).length w' (.mpt st.length 0 0) (.pointer (some ⟨w.heap.size,0,none⟩)):=
 ⟨_,_,by simp [Instr.box,newVar,newRow],zxW hR t xv.cells cs (zj3 hcs hx).1⟩
def zw1(ti:TI)(p:AV)(f:Nat):Option AV:=
 match ti.k with
 |.agg fs =>
  match fs[f]? with
  |some (off,sz)=>if sz=0 then none else
   match p with
   |.mpt l i j=>some (.mpt l i (j+off))
   |.ipt k els i j=>some (.ipt k els i (j+off))
   |_=>none
  |none=>none
 |_=>none
def Hv(st:St):AV->Bool
 |.mpt l _ _=>match st[l]? with |some (some _)=>true |_=>false
 |.ipt ..=>true
 |.fn (.func _) _ _=>true
 |_=>false
theorem zuJ{A m w st l i j v}(hR:R A m w st)(h:Hv st (.mpt l i j)=true)(hv:V A m st.length w (.mpt l i j) v):∃b,m l=some b/\b.has=true/\b.mp=false/\v=.pointer (some ⟨b.B,b.o+i*b.k+j,none⟩):=by
 simp only [Hv] at h;split at h
 .rename_i x he;obtain ⟨k,els⟩:=x;obtain ⟨hl,a,rfl,hb⟩:=hv.mpt_inv;obtain ⟨b,h1,h2,h3,h4⟩:=hR.blk l k els he;obtain ⟨hh,hmh,rfl⟩:=hb b h1;exact ⟨b,h1,hh,hmh,rfl⟩
 .cases h
theorem zxG{α β:Type}{f:α->Option β}:∀{l:List α} {r:List β},l.mapM f=some r->∀(i:Nat) (y:β),r[i]?=some y->∃x:α,l[i]?=some x/\f x=some y
 | [],r,h,i,y,hy=>by simp at h;subst h;cases hy
 |x ::l,r,h,i,y,hy=>by
  simp only [List.mapM_cons,Option.bind_eq_bind,Option.pure_def] at h
  cases hf:f x with
  |none=>simp [hf] at h
  |some b =>
   cases hr:l.mapM f with
   |none=>simp [hf,hr] at h
   |some r' =>
    simp [hf,hr] at h;subst h
    cases i with
    |zero=>simp at hy;subst hy;exact ⟨x,rfl,hf⟩
    |succ i=>simp at hy;obtain ⟨x',h1,h2⟩:=zxG hr i y hy;exact ⟨x',by simpa using h1,h2⟩
theorem zCX{P A m w st t ti p pv f av}(hR:R A m w st)(ht:Xf P t=some ti)(hp:V A m st.length w p pv)(hal:Hv st p=true)(h:zw1 ti p f=some av):
  ∃u,(Instr.fieldAt t pv f).run P w=.ok u w/\V A m st.length w av u:=by
 unfold zw1 at h;split at h
 .rename_i fs hk;split at h
  .rename_i off sz hf;split at h
   .cases h
   .rename_i hsz;obtain ⟨d,i0,hd,_,_,_,_,hdk,_⟩:=XY ht;rw [hk] at hdk;obtain ⟨flds,rfl,hm⟩:=zD8 hdk;obtain ⟨fld,h1,h2⟩:=zxG hm f _ hf
    have h1':flds[f]?=some fld:=by simpa using h1
    cases hi:P.info? fld.type with
    |none=>rw [hi] at h2;cases h2
    |some fi =>
     rw [hi] at h2;simp at h2;obtain ⟨h3,h4⟩:=h2
     have run:∀B o,(Instr.fieldAt t (.pointer (some ⟨B,o,none⟩)) f).run P w=.ok (.pointer (some ⟨B,o+off,none⟩)) w:=λB o=>by
      have hz:¬(fi.size=0):=by rw [h4];exact hsz
      simp [Instr.fieldAt,run_underlying hd,h1',Instr.sureAddr,fieldPlace,sizeOf,typeInfo,hi,hz,h3,Ha]
     split at h
     .rename_i l i j;cases h;obtain ⟨b,h5,h6,h6m,rfl⟩:=zuJ hR hal hp;refine ⟨_,run _ _,.mpt _ _ _ _ (hR.lt h5) λb' hb'=>?_⟩;have:b'=b:=Option.some.inj (hb'.symm.trans h5);subst this;exact ⟨h6,h6m,by simp [QU]⟩
     .rename_i k els i j;cases h
      cases hp.ipt_inv with
      |ipt _ _ _ _ B o vs hA hk hc hv' =>
       refine ⟨_,run _ _,.imm ?_⟩;rw [QU (o+i*k)];exact .ipt k els i (j+off) B o vs hA hk hc hv'
     .cases h
  .cases h
 .cases h
def Du(st:St)(sz:Nat)(x:AV)(i:Int):Option AV:=
 match x with
 |.isl k els=>if k=sz/\0≤i/\i<els.length then some (.ipt k els i.toNat 0) else none
 |.msl l o n =>
  match st[l]? with
  |some (some (k,_))=>if k=sz/\0≤i/\i<n then some (.mpt l (o+i.toNat) 0) else none
  |_=>none
 |_=>none
theorem zCY{P A m w st t e ti te x xv k i av}(hR:R A m w st)(ht:Xf P t=some ti)(hte:ti.k=.slc e)(he:Xf P e=some te)(hx:V A m st.length w x xv)(h:Du st te.size x i=some av):
  ∃u,(Instr.indexAt t xv (.int k i)).run P w=.ok u w/\V A m st.length w av u:=by
 obtain ⟨d,i0,hd,_,_,_,_,hdk,_⟩:=XY ht;rw [hte] at hdk;have:=UI hdk;subst this;have hso:=GJ w he
 have run:∀(B o n c:Nat),0≤i->i<(n:Int)->(Instr.indexAt t (.slice (some ⟨B,o,none⟩) n c) (.int k i)).run P w=.ok (.pointer (some ⟨B,o+i.toNat*te.size,none⟩)) w:=λB o n c h1 h2=>by
  simp [Instr.indexAt,asIntOf,run_underlying hd,h1,h2,hso,Ha]
 cases x with
 |isl k' els =>
  simp only [Du] at h;split at h
  .rename_i hc;obtain ⟨rfl,h1,h2⟩:=hc;cases h
   cases hx.isl_inv with
   |isl _ _ B o cap vs hA hcap hk hcell hv' =>
    exact ⟨_,run B o _ cap h1 h2,.imm (.ipt te.size els i.toNat 0 B o vs (hA.less hcap) hk hcell hv')⟩
   |inil _ a cap _=>simp at h2;omega
  .cases h
 |msl l o n =>
  simp only [Du] at h;split at h
  .rename_i k' els he';split at h
   .rename_i hc;obtain ⟨rfl,h1,h2⟩:=hc;cases h;obtain ⟨hl,a,n',cap,rfl,hb⟩:=hx.msl_inv;obtain ⟨b,h3,h4,h5,h6⟩:=hR.blk l _ els he';obtain ⟨rfl,h7,h8⟩:=hb b h3
    rcases h8 with rfl |⟨h8,hm8,rfl,h9⟩
    .omega
    .refine ⟨_,run _ _ _ cap h1 h2,.mpt _ _ _ _ hl λb' hb'=>?_⟩;have:b'=b:=Option.some.inj (hb'.symm.trans h3);subst this;refine ⟨h8,hm8,?_⟩;rw [h4,Qz];simp [QU]
   .cases h
  .cases h
 |_=>simp [Du] at h
def Wq(st:St)(sz:Nat)(x:AV)(lo hi:Nat):Option AV:=
 match x with
 |.isl k els=>if k=sz/\lo≤hi/\hi≤els.length then some (.isl k ((els.drop lo).take (hi-lo))) else none
 |.msl l o n =>
  match st[l]? with
  |some (some (k,_))=>if k=sz/\lo≤hi/\hi≤n then some (.msl l (o+lo) (hi-lo)) else none
  |_=>none
 |.lit (.slice none 0 0)=>if lo=0/\hi=0 then some (.lit (.slice none 0 0)) else none
 |_=>none
def UD:AV->Option Nat
 |.isl _ els=>some els.length
 |.msl _ _ n=>some n
 |.lit (.slice none 0 0)=>some 0
 |.lit (.string s)=>some s.size
 |_=>none
theorem zpR{P:Program}{w:World}{t e:TypeId}{ti te:TI}{a:Option Addr}{n cap lo hi:Nat}(ht:Xf P t=some ti)(hte:ti.k=.slc e)(he:Xf P e=some te)(h1:lo≤hi)(h2:hi≤cap)(ol oh:Option Value)
  (hlo:ol=some (.int .i64 lo)∨(ol=none/\lo=0)) (hhi:oh=some (.int .i64 hi)∨(oh=none/\hi=n)):
  (Instr.sliceAt t (.slice a n cap) ol oh none).run P w=.ok (.slice (if cap=lo then a else a.map (·.add (lo*te.size))) (hi-lo) (cap-lo)) w:=by
 obtain ⟨d,i0,hd,_,_,_,_,hdk,_⟩:=XY ht;rw [hte] at hdk;have:=UI hdk;subst this;have hso:=GJ w he
 rcases hlo with rfl |⟨rfl,rfl⟩ <;> rcases hhi with rfl |⟨rfl,rfl⟩ <;>
  simp [Instr.sliceAt,Instr.slice,run_underlying hd,Instr.sliceBounds,Instr.sliceBound,asIntOf,hso,h1,h2]
theorem zGe{P A m w st t e ti te x xv lo hi av}(hR:R A m w st)(ht:Xf P t=some ti)(hte:ti.k=.slc e)(he:Xf P e=some te)(hx:V A m st.length w x xv)
  (h:Wq st te.size x lo hi=some av) (ol oh:Option Value) (hlo:ol=some (.int .i64 lo)∨(ol=none/\lo=0)) (hhi:oh=some (.int .i64 hi)∨(oh=none/\UD x=some hi)):
  ∃u,(Instr.sliceAt t xv ol oh none).run P w=.ok u w/\V A m st.length w av u:=by
 cases x with
 |isl k els =>
  simp only [Wq] at h;split at h
  .rename_i hc;obtain ⟨rfl,h1,h2⟩:=hc;cases h
   have hl:((els.drop lo).take (hi-lo)).length=hi-lo:=by simp;omega
   cases hx.isl_inv with
   |isl _ _ B o cap vs hA hcap hk hcell hv' =>
    refine ⟨_,zpR ht hte he h1 (by omega) ol oh hlo (hhi.imp id λ⟨h3,h4⟩=>⟨h3,by simp [UD] at h4;omega⟩),.imm ?_⟩;by_cases hcl:cap=lo
    .have:hi-lo=0:=by omega
     rw [if_pos hcl,this];exact .inil _ _ _ (.inl (by omega))
    .rw [if_neg hcl]
     have:=VI.isl (A:=A) (w:=w) te.size ((els.drop lo).take (hi-lo)) B (o+lo*te.size) (cap-lo) (λi j=>vs (lo+i) j) (hA.sub (by omega)) (by omega)
      (λi hi'=>by rw [hl] at hi';simp;exact hk _ (by omega))
      (λi j hi' hj=>by
       rw [hl] at hi';rw [<-hcell (lo+i) j (by omega) hj]
       congr 2;rw [Qz];omega)
      (λi hi' j hj=>by
       have hi2:=hi';rw [hl] at hi2
       have e1:((els.drop lo).take (hi-lo))[i]=els[lo+i]'(by omega):=by simp
       have e2:((els.drop lo).take (hi-lo))[i][j]=(els[lo+i]'(by omega))[j]'(by rw [<-e1];exact hj):=by simp
       rw [e2]
       exact hv' _ _ _ _)
     rw [hl] at this;simpa [Ha] using this
   |inil _ a cap hN =>
    refine ⟨_,zpR ht hte he h1 (by simp at h2;omega) ol oh hlo (hhi.imp id λ⟨h3,h4⟩=>⟨h3,by simp [UD] at h4;omega⟩),.imm ?_⟩
    have e0:hi-lo=0:=by simp at h2;omega
    rw [e0];simp only [List.take_zero]
    have e1:lo=0:=by simp at h2;omega
    subst e1;refine .inil _ _ _ ?_
    have e2:(if cap=0 then a else a.map (·.add (0*te.size)))=a:=by
     split
     .rfl
     .cases a <;> simp [Addr.add]
    rw [e2];exact hN
  .cases h
 |msl l o n =>
  simp only [Wq] at h;split at h
  .rename_i k els he';split at h
   .rename_i hc;obtain ⟨rfl,h1,h2⟩:=hc;cases h;obtain ⟨hl,a,n',cap,rfl,hb⟩:=hx.msl_inv;obtain ⟨b,h3,h4,h5,h6⟩:=hR.blk l _ els he';obtain ⟨rfl,h7,h8⟩:=hb b h3;refine ⟨_,zpR ht hte he h1 (by omega) ol oh hlo (hhi.imp id λ⟨h9,h10⟩=>⟨h9,by simp [UD] at h10;omega⟩),.msl _ _ _ _ _ _ hl λb' hb'=>?_⟩;have:b'=b:=Option.some.inj (hb'.symm.trans h3);subst this;refine ⟨rfl,by omega,?_⟩;by_cases hcl:cap=lo
    .exact .inl (by omega)
    .rcases h8 with rfl |⟨h8,hm8,rfl,h9⟩
     .exact .inl (by omega)
     .refine .inr ⟨h8,hm8,?_,?_⟩
      .rw [if_neg hcl];simp [Ha,h4,Qz,QU]
      .rw [show o+lo+(cap-lo)=o+cap by omega];exact h9
   .cases h
  .cases h
 |lit v =>
  unfold Wq at h;split at h
  .rename_i h1;cases h1
  .rename_i h1;cases h1
  .rename_i h1;cases h1;split at h
   .rename_i hc;obtain ⟨rfl,rfl⟩:=hc;cases h;rw [hx.lit_inv];exact ⟨_,zpR (n:=0) (cap:=0) ht hte he (Qk _) (Qk _) ol oh hlo (hhi.imp id λ⟨h3,_⟩=>⟨h3,rfl⟩),.imm (.lit _)⟩
   .cases h
  .cases h
 |_=>simp [Wq] at h
theorem zxS{P:Program}{A:Am}{m:BM}{nb:Nat}{w:World}{t ty:TypeId}{ti:TI}{x:AV}{xv:Value}{n:Nat}(ht:Xf P t=some ti)(hk:(∃e,ti.k=.slc e)∨ti.k=.str)(hx:V A m nb w x xv)(h:UD x=some n)
  (hlive:∀l i n,x=.msl l i n->∃b,m l=some b) (hkind:(∃s,x=.lit (.string s))↔ti.k=.str):(Builtin.len_ #[t] ty #[xv]).run P w=.ok (goInt n) w:=by
 obtain ⟨d,i0,hd,_,_,_,_,hdk,_⟩:=XY ht
 have slc:(∃e,ti.k=.slc e)->∀a c,(Builtin.len_ #[t] ty #[.slice a n c]).run P w=.ok (goInt n) w:=λ⟨e,he⟩ a c=>by
  rw [he] at hdk;have:=UI hdk;subst this;simp [Builtin.len_,run_underlying hd]
 cases x with
 |isl k els =>
  have hs:=hk.resolve_right λh=>by have:=hkind.2 h;obtain ⟨s,hs⟩:=this;cases hs
  simp [UD] at h;subst h
  cases hx.isl_inv with
  |isl _ _ B o cap vs hA hcap hk hcell hv'=>exact slc hs _ _
  |inil _ a cap _=>exact slc hs _ _
 |msl l i n' =>
  have hs:=hk.resolve_right λh=>by have:=hkind.2 h;obtain ⟨s,hs⟩:=this;cases hs
  simp [UD] at h;subst h;obtain ⟨hl,a,n2,cap,rfl,hb⟩:=hx.msl_inv;obtain ⟨b,h1⟩:=hlive l i n' rfl;obtain ⟨rfl,_⟩:=hb b h1;exact slc hs a cap
 |lit v =>
  have:=hx.lit_inv;subst this;simp only [UD] at h;split at h
  .rename_i heq;cases heq
  .rename_i heq;cases heq
  .rename_i heq;cases heq;cases h
   have hs:=hk.resolve_right λh=>by have:=hkind.2 h;obtain ⟨s,hs⟩:=this;cases hs
   exact slc hs _ _
  .rename_i s heq;cases heq;cases h;have hs:=hkind.1 ⟨s,rfl⟩;rw [hs] at hdk;have:=Dv hdk;subst this;simp [Builtin.len_,run_underlying hd]
  .cases h
 |_=>simp [UD] at h
def KT:BinOp->Int->Int->Option Bool
 |.eql,a,b=>some (a == b)
 |.neq,a,b=>some (a != b)
 |.lss,a,b=>some (a<b)
 |.leq,a,b=>some (a≤b)
 |.gtr,a,b=>some (a > b)
 |.geq,a,b=>some (a ≥ b)
 |_,_,_=>none
def arI(k:IntKind):BinOp->Int->Int->Option Int
 |.add,a,b=>some (k.wrap (a+b))
 |.sub,a,b=>some (k.wrap (a-b))
 |.mul,a,b=>some (k.wrap (a*b))
 |.quo,a,b=>if b=0 then none else some (k.wrap (a.tdiv b))
 |.rem,a,b=>if b=0 then none else some (a.tmod b)
 |.and,a,b=>some (k.wrap (BitVec.ofInt k.bits a &&& BitVec.ofInt k.bits b).toNat)
 |.or,a,b=>some (k.wrap (BitVec.ofInt k.bits a |||BitVec.ofInt k.bits b).toNat)
 |.xor,a,b=>some (k.wrap (BitVec.ofInt k.bits a ^^^ BitVec.ofInt k.bits b).toNat)
 |_,_,_=>none
def shI(k:IntKind):BinOp->Int->Int->Option Int
 |.shl,a,b=>if b<0 then none else some (k.wrap (a*2 ^ (min b.toNat k.bits)))
 |.shr,a,b=>if b<0 then none else some (a.fdiv (2 ^ (min b.toNat k.bits)))
 |_,_,_=>none
def zHf:BinOp->List UInt8->List UInt8->Option AV
 |.eql,a,b=>some (.lit (.bool (a == b)))
 |.neq,a,b=>some (.lit (.bool (!(a == b))))
 |.lss,a,b=>some (.lit (.bool (Op.bytesLess a b)))
 |.add,a,b=>if a.length+b.length≤9223372036854775807 then some (.lit (.string ⟨⟨a++b⟩⟩)) else none
 |_,_,_=>none
def Up(tk:TK)(op:BinOp):AV->AV->Option AV
 |.lit (.int k a),.lit (.int k' b) =>
  match shI k op a b with
  |some r=>some (.lit (.int k r))
  |none=>if k=k' then
    match KT op a b with
    |some r=>some (.lit (.bool r))
    |none=>(arI k op a b).map λr=>.lit (.int k r)
   else none
 |.lit (.string a),.lit (.string b)=>zHf op a.data.toList b.data.toList
 |.lit (.bool a),.lit (.bool b) =>
  match tk,op with
  |.bool,.eql=>some (.lit (.bool (a == b)))
  |.bool,.neq=>some (.lit (.bool (!(a == b))))
  |_,_=>none
 |_,_=>none
theorem zrC{P:Program}(op:BinOp)(t:TypeId)(x y:Operand)(a b:Value)(w:World)(h:(∃k n,a=.int k n)∨(∃s,a=.string s)∨(∃s,a=.bool s)):
  (eqGuard op t x y a b).run P w=.ok () w:=by
 unfold eqGuard
 rcases h with ⟨k,n,rfl⟩ |⟨s,rfl⟩ |⟨s,rfl⟩ <;> simp
theorem zsj{P:Program}{w:World}{t:TypeId}(hd:P.underlying t=some .bool)(p q:Bool):(Op.equal t (.bool p) (.bool q)).run P w=.ok (p == q) w:=by
 have key:∀d,(Op.equalIn (d+1) t (.bool p) (.bool q)).run P w=.ok (p == q) w:=λd=>by
  rw [Op.equalIn];simp [run_underlying hd]
 exact key 9999
theorem zzO{P:Program}{A m nb w}{t:TypeId}{ti:TI}{op:BinOp}{x y:Operand}{av bv r:AV}{a b:Value}(ht:Xf P t=some ti)(ha:V A m nb w av a)(hb:V A m nb w bv b)
  (h:Up ti.k op av bv=some r):∃v,(do eqGuard op t x y a b;binOp op t a b:Sem Value).run P w=.ok v w/\V A m nb w r v:=by
 obtain ⟨d,i0,hd,_,_,_,_,hdk,_⟩:=XY ht;unfold Up at h;split at h
 .rename_i k n k' n';have ea:=ha.lit_inv;have eb:=hb.lit_inv;subst ea;subst eb;have hg:=zrC (P:=P) op t x y (.int k n) (.int k' n') w (.inl ⟨k,n,rfl⟩);split at h
  .rename_i q hq;cases h;refine ⟨_,?_,.imm (.lit _)⟩
   cases op <;> simp only [shI] at hq <;> try cases hq
   all_goals
    split at hq
    .cases hq
    .rename_i hn;cases hq;simp [hg,binOp,Op.shift,hn]
  .rename_i hq;split at h
   .rename_i hkk;subst hkk;split at h
    .rename_i q hq2;cases h;refine ⟨_,?_,.imm (.lit _)⟩;cases op <;> simp only [KT] at hq2 <;> cases hq2 <;> simp [hg,binOp,Op.intCmp]
    .rename_i hq2
     cases hr:arI k op n n' with
     |none=>rw [hr] at h;cases h
     |some q =>
      rw [hr] at h;cases h;refine ⟨_,?_,.imm (.lit _)⟩
      cases op <;> simp only [arI] at hr <;> try cases hr
      case quo =>
       split at hr
       .cases hr
       .rename_i hn;cases hr;simp [hg,binOp,Op.intDiv,hn]
      case rem =>
       split at hr
       .cases hr
       .rename_i hn;cases hr;simp [hg,binOp,Op.intDiv,hn]
      all_goals simp [hg,binOp,Op.intArith,Op.intBits]
   .cases h
 .rename_i s u;have ea:=ha.lit_inv;have eb:=hb.lit_inv;subst ea;subst eb;have hg:=zrC (P:=P) op t x y (.string s) (.string u) w (.inr (.inl ⟨s,rfl⟩));have e1:∀s:ByteArray,s.toList=s.data.toList:=λs=>ByteArray.toList_eq s
  cases op <;> simp only [zHf] at h <;> try cases h
  case add =>
   split at h
   .rename_i hle;cases h;refine ⟨_,?_,.imm (.lit _)⟩
    have hs:¬((s.size:Int)+(u.size:Int) > IntKind.i64.max):=by
     have e2:s.size=s.data.toList.length:=by simp
     have e3:u.size=u.data.toList.length:=by simp
     have e4:IntKind.i64.max=9223372036854775807:=by decide
     rw [e4,e2,e3];omega
    have e5:s++u=⟨⟨s.data.toList++u.data.toList⟩⟩:=by
     apply ByteArray.ext;simp
    simp only [hg,binOp,Op.stringOp,Sem.run_bind,Result.andThen_ok];rw [<-e5];simp;rw [show IntKind.i64.max=9223372036854775807 by decide] at hs;omega
   .cases h
  all_goals (refine ⟨_,?_,.imm (.lit _)⟩;simp [hg,binOp,Op.stringOp,e1])
 .rename_i p q;have ea:=ha.lit_inv;have eb:=hb.lit_inv;subst ea;subst eb;have hg:=zrC (P:=P) op t x y (.bool p) (.bool q) w (.inr (.inr ⟨p,rfl⟩));split at h
  .rename_i htk;rw [htk] at hdk;have:=zBG hdk;subst this;cases h;refine ⟨_,?_,.imm (.lit _)⟩;simp [hg,binOp,zsj hd]
  .rename_i htk;rw [htk] at hdk;have:=zBG hdk;subst this;cases h;refine ⟨_,?_,.imm (.lit _)⟩;simp [hg,binOp,zsj hd]
  .cases h
 .cases h
def aun:UnOp->AV->Option AV
 |.neg,.lit (.int k n)=>some (.lit (.int k (k.wrap (0-n))))
 |.xor,.lit (.int k n)=>some (.lit (.int k (k.wrap (BitVec.ofInt k.bits (if k.signed then -1 else k.max) ^^^ BitVec.ofInt k.bits n).toNat)))
 |.not,.lit (.bool b)=>some (.lit (.bool !b))
 |_,_=>none
theorem zDy{P:Program}{A m nb w}{op:UnOp}{av r:AV}{a:Value}(ha:V A m nb w av a)(h:aun op av=some r):∃v,(Op.unary op a).run P w=.ok v w/\V A m nb w r v:=by
 unfold aun at h
 split at h <;> first |(cases h;have:=ha.lit_inv;subst this;exact ⟨_,by simp [Op.unary,Op.intArith,Op.intBits],.imm (.lit _)⟩) |cases h
def Zg(b:UInt8):List AV:=[.lit (.int .u8 b.toNat)]
def zwL:List AV->Option UInt8
 | [.lit (.int .u8 n)]=>if ((UInt8.ofNat n.toNat).toNat:Int)=n then some (UInt8.ofNat n.toNat) else none
 |_=>none
def Io:List (List AV)->Option (List UInt8)
 | []=>some []
 |r ::l=>match zwL r,Io l with |some b,some bs=>some (b ::bs) |_,_=>none
theorem zwM{r b}(h:zwL r=some b):r=Zg b:=by
 unfold zwL at h;split at h
 .rename_i n;split at h
  .rename_i e;cases h;simp only [Zg,e]
  .cases h
 .cases h
theorem zro:∀{l:List (List AV)} {bs:List UInt8},Io l=some bs->l=bs.map Zg
 | [],bs,h=>by cases h;rfl
 |r ::l,bs,h=>by
  simp only [Io] at h;split at h
  .rename_i b bs' h1 h2;cases h;rw [zwM h1,zro h2];rfl
  .cases h
def E8(st:St)(ks kd:TK)(ke:TK)(x:AV):Option (AV×St):=
 match kd,x with
 |.int k,.lit (.int _ n)=>some (.lit (.int k (k.wrap n)),st)
 |.str,.lit (.string s)=>match ks with |.str=>some (.lit (.string s),st) |_=>none
 |.str,x =>
  match ks,ke with
  |.slc _,.int .u8 =>
   match Ub st 1 x with
   |some els=>(Io els).map λbs=>(.lit (.string ⟨⟨bs⟩⟩),st)
   |none=>none
  |_,_=>none
 |.slc _,.lit (.string s) =>
  match ks,ke with
  |.str,.int .u8=>some (.msl st.length 0 s.data.toList.length,st++[some (1,s.data.toList.map Zg)])
  |_,_=>none
 |_,_=>none
theorem V.bytes{A m nb w b v}(h:V A m nb w (.lit (.int .u8 (b:UInt8).toNat)) v):v=.int .u8 b.toNat:=h.lit_inv
theorem zys{P:Program}{A m w st}{s d e:TypeId}{is id ie:TI}{x av:AV}{xv:Value}{st'}(hR:R A m w st)(hs:Xf P s=some is)(hd:Xf P d=some id)
  (hke:(∃e',is.k=.slc e'/\e'=e)∨(∃e',id.k=.slc e'/\e'=e)∨((∀e',is.k≠.slc e')/\∀e',id.k≠.slc e')) (he:Xf P e=some ie)
  (hx:V A m st.length w x xv) (h:E8 st is.k id.k ie.k x=some (av,st')):
  ∃v w' m',(convert s d xv).run P w=.ok v w'/\R A m' w' st'/\Xp A m st.length w A m' st'.length w'/\V A m' st'.length w' av v:=by
 obtain ⟨ds,_,hds,_,_,_,_,hdsk,_⟩:=XY hs;obtain ⟨dd,_,hdd,_,_,_,_,hddk,_⟩:=XY hd;obtain ⟨de,_,hde,_,_,_,_,hdek,_⟩:=XY he;unfold E8 at h;split at h
 .rename_i k k' n hk;cases h;rw [hk] at hddk;have:=zyb hddk;subst this;have:=hx.lit_inv;subst this;exact ⟨_,w,m,by simp [convert,run_underlying hds,run_underlying hdd,Conv.intToInt],hR,Xp.refl _ _ _ _,.imm (.lit _)⟩
 .rename_i u hk;split at h
  .rename_i hk2;cases h;rw [hk] at hddk;rw [hk2] at hdsk;have:=Dv hddk;subst this;have:=Dv hdsk;subst this;have:=hx.lit_inv;subst this;exact ⟨_,w,m,by simp [convert,run_underlying hds,run_underlying hdd],hR,Xp.refl _ _ _ _,.imm (.lit _)⟩
  .cases h
 .rename_i hk hns;split at h
  .rename_i e' hk2 hk3;split at h
   .rename_i els hrows
    cases hb:Io els with
    |none=>rw [hb] at h;cases h
    |some bs =>
     rw [hb] at h;simp at h;obtain ⟨rfl,rfl⟩:=h;rw [hk] at hddk;rw [hk2] at hdsk;rw [hk3] at hdek;have:=Dv hddk;subst this;have:=UI hdsk;subst this;have:=zyb hdek;subst this
     have hee:e'=e:=by
      rcases hke with ⟨e2,h1,h2⟩ |⟨e2,h1,h2⟩ |⟨h1,_⟩
      .rw [hk2] at h1;cases h1;exact h2
      .rw [hk] at h1;cases h1
      .exact absurd hk2 (h1 e')
     subst hee;have hels:=zro hb;subst hels
     rcases zqp hR hrows hx with ⟨h0,a,cap,rfl⟩ |⟨B,o,cap,rfl,hcap,hrd⟩
     .have hbs:bs=[]:=by simpa using h0
      subst hbs;refine ⟨.string ⟨⟨[]⟩⟩,w,m,?_,hR,Xp.refl _ _ _ _,.imm (.lit _)⟩
      cases a with
      |none=>rw [run_convert_bytes_nil w s e' hds hde 0 cap d hdd];rfl
      |some a=>exact run_convert_bytes_back w s d e' a cap [] hds hde hdd (λj hj=>by simp at hj)
     .refine ⟨.string ⟨⟨bs⟩⟩,w,m,?_,hR,Xp.refl _ _ _ _,.imm (.lit _)⟩
      have hl:(bs.map Zg).length=bs.length:=by simp
      rw [hl];refine run_convert_bytes_back w s d e' ⟨B,o,none⟩ cap bs hds hde hdd (λj hj=>?_);obtain ⟨v,h1,h2⟩:=hrd.val j (by simpa using hj) 0 (by simp [Zg]);rw [Ha]
      have h3:(List.map Zg bs)[j]'(by simpa using hj)=Zg bs[j]:=by simp
      simp only [h3,Zg] at h2;simp only [Jb] at h2;rw [V.bytes h2] at h1;simpa using h1
   .cases h
  .cases h
 .rename_i e' u hk;split at h
  .rename_i hk2 hk3;cases h;rw [hk] at hddk;rw [hk2] at hdsk;rw [hk3] at hdek;have:=UI hddk;subst this;have:=Dv hdsk;subst this;have:=zyb hdek;subst this
   have hee:e'=e:=by
    rcases hke with ⟨e2,h1,h2⟩ |⟨e2,h1,h2⟩ |⟨_,h1⟩
    .rw [hk2] at h1;cases h1
    .rw [hk] at h1;cases h1;exact h2
    .exact absurd hk (h1 e')
   subst hee;have:=hx.lit_inv;subst this;have hr:=run_bytes_of_string (P:=P) w s d e' u hds hdd hde
   have hsz:u.size=u.data.toList.length:=by simp
   have hge:=grownCap_ge w u.size 0 e'
   have hbl:(bytesRow u (grownCap w u.size 0 e')).size=grownCap w u.size 0 e':=by
    have h9:u.data.size=u.size:=rfl;simp [bytesRow];omega
   have hcell:∀off,off<grownCap w u.size 0 e'->∃v,(w.drew.alloc (.cells (bytesRow u (grownCap w u.size 0 e')) e' ((bytesRow u (grownCap w u.size 0 e')).size,(bytesRow u (grownCap w u.size 0 e')).size+1))).cell? ⟨w.heap.size,off,none⟩=some v/\(bytesRow u (grownCap w u.size 0 e'))[off]?=some v:=λoff ho=>by
    have:=World.cell?_alloc_mark w.drew (bytesRow u (grownCap w u.size 0 e')) e' ((bytesRow u (grownCap w u.size 0 e')).size,(bytesRow u (grownCap w u.size 0 e')).size+1) off;rw [QE (by rw [hbl];exact ho)] at this;exact ⟨_,this,QE (by rw [hbl];exact ho)⟩
   have hg:XK w (w.drew.alloc (.cells (bytesRow u (grownCap w u.size 0 e')) e' ((bytesRow u (grownCap w u.size 0 e')).size,(bytesRow u (grownCap w u.size 0 e')).size+1))):=(XK.drew w).trans (XK.alloc _ _)
   have hp:=hR.push hg ⟨true,w.heap.size,0,1,grownCap w u.size 0 e',false⟩ (u.data.toList.map Zg)
    (λ_=>⟨Qk _,by show w.heap.size<(w.drew.alloc _).heap.size;rw [World.size_alloc];exact QN _⟩) (λh=>by cases h)
    (λ_ off ho=>by obtain ⟨v,h1,_⟩:=hcell off ho;exact ⟨v,h1⟩)
    (λ_ off ho=>by
     have hh:(w.drew.alloc (.cells (bytesRow u (grownCap w u.size 0 e')) e' ((bytesRow u (grownCap w u.size 0 e')).size,(bytesRow u (grownCap w u.size 0 e')).size+1))).heap[w.heap.size]?=some (.cells (bytesRow u (grownCap w u.size 0 e')) e' ((bytesRow u (grownCap w u.size 0 e')).size,(bytesRow u (grownCap w u.size 0 e')).size+1)):=by
      show (w.heap.push _)[w.heap.size]?=_;simp
     have ho':off<(bytesRow u (grownCap w u.size 0 e')).size:=by rw [hbl];exact ho
     simp only [fz,hh]
     have:decide ((bytesRow u (grownCap w u.size 0 e')).size≤off)=false:=by simpa using ho'
     rw [this];rfl)
    (λ_=>by simp;have:u.data.size=u.size:=rfl;omega) (λi hi=>by simp [Zg])
    (λ_ i hi j hj=>by
     have hi':i<u.data.toList.length:=by simpa using hi
     have h3:(List.map Zg u.data.toList)[i]=Zg u.data.toList[i]:=by simp
     have hj0:j=0:=by simp [h3,Zg] at hj;exact hj
     subst hj0;obtain ⟨v,h1,h2⟩:=hcell i (by omega);refine ⟨v,by simpa using h1,?_⟩
     have hv:v=.int .u8 u.data.toList[i].toNat:=by
      have h8:i<u.data.size:=by simpa using hi'
      have h9:i<u.size:=h8;simp [bytesRow,Array.getElem?_append,h9] at h2;rw [<-h2];simp
     simp only [h3,Zg,Jb,hv]
     exact .imm (.lit _))
   have hlen:(st++[some (1,u.data.toList.map Zg)]).length=st.length+1:=by simp
   rw [hlen];refine ⟨_,_,_,hr,hp.1,hp.2,.msl _ _ _ _ _ _ (QN _) λb hb=>?_⟩;simp [BM.put] at hb;subst hb;exact ⟨hsz,by omega,.inr ⟨rfl,by simp,by simp⟩⟩
  .cases h
 .cases h
inductive EK where
 |int |bool |str
def zGB:TK->Option EK
 |.int _=>some .int
 |.bool=>some .bool
 |.str=>some .str
 |_=>none
def zGC(P:Program):List Field->Option (List (Nat×EK))
 | []=>some []
 |f ::r =>
  if f.name ≠ "_" then
   match Xf P f.type,zGC P r with
   |some ti,some l=>(zGB ti.k).map λk=>(f.offset,k)::l
   |_,_=>none
  else none
def zDK(P:Program)(t:TypeId):Option (List (Nat×EK)):=
 match P.underlying t with
 |some (.struct fs)=>if P.stoodInHeld t=false/\P.eqGuardType P.depth t=false then zGC P fs.toList else none
 |_=>none
def BG:EK->AV->AV->Option Bool
 |.int,.lit (.int k a),.lit (.int k' b)=>if k=k' then some (a == b) else none
 |.bool,.lit (.bool a),.lit (.bool b)=>some (a == b)
 |.str,.lit (.string a),.lit (.string b)=>some (a.data.toList == b.data.toList)
 |_,_,_=>none
def WK(cs ds:List AV):List (Nat×EK)->Option Bool
 | []=>some true
 |(o,k)::r =>
  match cs[o]?,ds[o]?,WK cs ds r with
  |some a,some b,some q=>(BG k a b).map λp=>p&&q
  |_,_,_=>none
def aeq(P:Program)(t:TypeId)(op:BinOp):AV->AV->Option AV
 |.agg cs,.agg ds =>
  match zDK P t with
  |some l=>match op with
   |.eql=>(WK cs ds l).map λb=>.lit (.bool b)
   |.neq=>(WK cs ds l).map λb=>.lit (.bool (!b))
   |_=>none
  |none=>none
 |_,_=>none
theorem zEb{A m nb}{w:World}{cs:List AV}{xs:Array Value}(hx:VL A m nb w cs xs){o:Nat}{a:AV}(h:cs[o]?=some a):∃v,xs[o]?=some v/\V A m nb w a v:=by
 obtain ⟨h1,h2⟩:=Qb.1 h;have h3:=hx.2 o h1;rw [h2] at h3
 have h4:o<xs.size:=by rw [hx.1];exact h1
 refine ⟨xs[o],by simp [h4],?_⟩;simpa [Qg,h4] using h3
theorem zGX{P:Program}{A m nb}{w:World}{t:TypeId}{ti:TI}{k:EK}{a b:AV}{x y:Value}{p:Bool}(ht:Xf P t=some ti)(hk:zGB ti.k=some k)(ha:V A m nb w a x)(hb:V A m nb w b y)(h:BG k a b=some p)(d:Nat):
  (Op.equalIn (d+1) t x y).run P w=.ok p w/\ti.k.isAgg=some false:=by
 obtain ⟨dd,i0,hd,_,_,_,_,hdk,_⟩:=XY ht;unfold zGB at hk;split at hk <;> cases hk
 .rename_i kk hkk;refine ⟨?_,by rw [hkk];rfl⟩;unfold BG at h;split at h
  .split at h
   .rename_i he;subst he;cases h;rw [ha.lit_inv,hb.lit_inv];rw [hkk] at hdk
    have:∃k3,dd=.int k3:=by cases dd <;> simp [ZR] at hdk <;> first |exact ⟨_,rfl⟩ |(split at hdk <;> cases hdk)
    obtain ⟨k3,rfl⟩:=this;exact run_equalIn_int w d t _ k3 _ _ hd
   .cases h
  .contradiction
  .contradiction
  .cases h
 .rename_i hkk;refine ⟨?_,by rw [hkk];rfl⟩;unfold BG at h;split at h
  .contradiction
  .cases h;rw [ha.lit_inv,hb.lit_inv];rw [hkk] at hdk
   have:dd=.bool:=by cases dd <;> simp [ZR] at hdk <;> first |rfl |(split at hdk <;> cases hdk)
   subst this;exact run_equalIn_bool' w d t _ _ hd
  .contradiction
  .cases h
 .rename_i hkk;refine ⟨?_,by rw [hkk];rfl⟩;unfold BG at h;split at h
  .contradiction
  .contradiction
  .cases h;rw [ha.lit_inv,hb.lit_inv];rw [hkk] at hdk
   have:dd=.string:=by cases dd <;> simp [ZR] at hdk <;> first |rfl |(split at hdk <;> cases hdk)
   subst this;have:=run_equalIn_string (P:=P) w d t;rw [this _ _ hd,ByteArray.toList_eq,ByteArray.toList_eq]
  .cases h
theorem zs6{P:Program}{A m nb}{w:World}{cs ds:List AV}{xs ys:Array Value}(hx:VL A m nb w cs xs)(hy:VL A m nb w ds ys)(d:Nat):∀{fs:List Field} {l:List (Nat×EK)} {b:Bool},zGC P fs=some l->WK cs ds l=some b->(Op.eqFields (d+1) xs ys fs).run P w=.ok b w
 | [],l,b,h,h2=>by cases h;cases h2;simp [Op.eqFields]
 |f ::fs,l,b,h,h2=>by
  unfold zGC at h;split at h
  .rename_i hn;split at h
   .rename_i ti l' ht hl'
    cases hk:zGB ti.k with
    |none=>rw [hk] at h;cases h
    |some k =>
     rw [hk] at h;cases h;unfold WK at h2;split at h2
     .rename_i a b' q ha hb hq
      cases hp:BG k a b' with
      |none=>rw [hp] at h2;cases h2
      |some p =>
       rw [hp] at h2;cases h2;obtain ⟨x,hx1,hx2⟩:=zEb hx ha;obtain ⟨y,hy1,hy2⟩:=zEb hy hb;obtain ⟨h3,h4⟩:=zGX ht hk hx2 hy2 hp d;have hia:=zpP w ht h4;have ih:=zs6 hx hy d hl' hq
       have px:(part f.type xs f.offset).run P w=.ok x w:=by simp [part,hia,hx1]
       have py:(part f.type ys f.offset).run P w=.ok y w:=by simp [part,hia,hy1]
       unfold Op.eqFields;rw [if_pos hn];simp only [Sem.run_bind,px,py,h3,Result.andThen_ok,Sem.run_ite]
       cases p with
       |true=>simpa using ih
       |false=>simp
     .cases h2
   .cases h
  .cases h
theorem zzz{P:Program}{A m nb w}{t:TypeId}{op:BinOp}{x y:Operand}{av bv r:AV}{a b:Value}(ha:V A m nb w av a)(hb:V A m nb w bv b)(h:aeq P t op av bv=some r):
  ∃v,(do eqGuard op t x y a b;binOp op t a b:Sem Value).run P w=.ok v w/\V A m nb w r v:=by
 unfold aeq at h;split at h
 .rename_i cs ds;split at h
  .rename_i l hl;obtain ⟨xs,rfl,hx⟩:=ha.agg_inv;obtain ⟨ys,rfl,hy⟩:=hb.agg_inv;unfold zDK at hl;split at hl
   .rename_i fs hfs;split at hl
    .rename_i hc
     have hfo:P.fieldsOf t=fs:=by unfold Program.fieldsOf;rw [hfs]
     have hg:(eqGuard op t x y (.agg xs) (.agg ys)).run P w=.ok () w:=run_eqGuard_agg w op t x y xs ys hc.2
     have key:∀p,WK cs ds l=some p->(Op.equalIn 10000 t (.agg xs) (.agg ys)).run P w=.ok p w:=λp hp=>by
      rw [run_equalIn_agg w 9999 t xs ys (by rw [hfo];exact hfs) hc.1,hfo];exact zs6 hx hy 9998 hl hp
     cases hp:WK cs ds l with
     |none=>rw [hp] at h;cases op <;> cases h
     |some p =>
      rw [hp] at h;cases op <;> cases h
      .exact ⟨.bool p,by simp only [Sem.run_bind,hg,Result.andThen_ok,run_eql_struct,key p hp],.imm (.lit _)⟩
      .exact ⟨.bool (!p),by simp only [Sem.run_bind,hg,Result.andThen_ok,run_neq_struct,key p hp],.imm (.lit _)⟩
    .cases hl
   .cases hl
  .cases h
 .cases h
theorem zrz(off:Nat):∀(l:List Value) (j0:Nat) (arr:Array Value),
  ((l.zipIdx j0).foldl (λcs (x:Value×Nat)=>cs.setIfInBounds (off+x.2) x.1) arr).size=arr.size /\
  ∀q,q<arr.size->((l.zipIdx j0).foldl (λcs (x:Value×Nat)=>cs.setIfInBounds (off+x.2) x.1) arr).getD q undef =
   if off+j0≤q/\q<off+j0+l.length then l.getD (q-(off+j0)) undef else arr.getD q undef
 | [],j0,arr=>⟨rfl,λq hq=>by simp;omega⟩
 |v ::l,j0,arr=>by
  obtain ⟨h1,h2⟩:=zrz off l (j0+1) (arr.setIfInBounds (off+j0) v);simp only [List.zipIdx_cons,List.foldl_cons];refine ⟨by rw [h1];simp,λq hq=>?_⟩;rw [h2 q (by simpa using hq)];by_cases h3:off+(j0+1)≤q/\q<off+(j0+1)+l.length
  .rw [if_pos h3,if_pos (by simp;omega)]
   have e:q-(off+j0)=(q-(off+(j0+1)))+1:=by omega
   rw [e];simp [Qi]
  .rw [if_neg h3];by_cases h4:q=off+j0
   .subst h4;rw [if_pos (by simp)];simp [hq]
   .rw [if_neg (by simp;omega)];simp only [Qg];rw [JW (Ne.symm h4)]
def Wt(pl:List (Nat×Nat)):List AV->List (Nat×AV)->Option (List AV)
 |cs,[]=>some cs
 |cs,(i,x)::r =>
  match pl[i]?,UZ x with
  |some (off,size),some xs=>if xs.length=size/\off+size≤cs.length then Wt pl (cs.take off++xs++cs.drop (off+size)) r else none
  |_,_=>none
theorem zE6{cs xs:List AV}{off q:Nat}(h:off+xs.length≤cs.length):
  (cs.take off++xs++cs.drop (off+xs.length))[q]?=if off≤q/\q<off+xs.length then xs[q-off]? else cs[q]?:=by
 have hl:(cs.take off).length=off:=by simp;omega
 by_cases h1:q<off
 .rw [if_neg (by omega),Jv,Qm (by omega),Jy,if_pos h1]
 .by_cases h2:q<off+xs.length
  .rw [if_pos (by omega),Qm (by simp;omega),Qs (by omega),hl]
  .rw [if_neg (by omega),Qs (by simp;omega),Jz];congr 1;simp;omega
theorem VL.get{A m nb w cs a}(h:VL A m nb w cs a){q:Nat}{x:AV}(hx:cs[q]?=some x):V A m nb w x (a.getD q undef):=by
 obtain ⟨hq,rfl⟩:=Qb.1 hx;exact h.2 q hq
theorem VL.of{A m nb w}{cs:List AV}{a:Array Value}(hs:a.size=cs.length)(h:∀q x,cs[q]?=some x->V A m nb w x (a.getD q undef)):VL A m nb w cs a:=
 ⟨hs,λi hi=>h i _ (Qe hi)⟩
theorem zp7{A m nb w}{pl:List (Nat×Nat)}{place:Nat->Option (Nat×Nat)}(hpl:∀i y,pl[i]?=some y->place i=some y):
  ∀(parts:List (Nat×AV)) (vs:List (Nat×Value)) (cs:List AV) (a:Array Value) (r:List AV),parts.length=vs.length ->
   (∀i (h:i<parts.length) (h':i<vs.length),vs[i].1=parts[i].1/\V A m nb w parts[i].2 vs[i].2)->VL A m nb w cs a->Wt pl cs parts=some r ->
   ∃b,Instr.fill place a vs=some b/\VL A m nb w r b
 | [],[],cs,a,r,_,_,hv,h=>by cases h;exact ⟨a,rfl,hv⟩
 |(i,x)::parts,(i',v)::vs,cs,a,r,hl,hp,hv,h=>by
  obtain ⟨h1,h2⟩:=hp 0 (by simp) (by simp);simp at h1 h2;subst h1;simp only [Wt] at h;split at h
  .rename_i off size xs hoff hxs;split at h
   .rename_i hc;obtain ⟨rfl,hfit⟩:=hc;obtain ⟨hvx,_⟩:=zj3 hxs h2;obtain ⟨f1,f2⟩:=zrz off v.cells.toList 0 a
    have hvs:v.cells.toList.length=xs.length:=by simpa using hvx.1
    have hfa:v.cells.zipIdx.foldl (λcs (x:Value×Nat)=>cs.setIfInBounds (off+x.2) x.1) a=(v.cells.toList.zipIdx 0).foldl (λcs (x:Value×Nat)=>cs.setIfInBounds (off+x.2) x.1) a:=by
     rw [<-Array.foldl_toList];simp
    have ih:=zp7 hpl parts vs (cs.take off++xs++cs.drop (off+xs.length)) _ r (by simpa using hl)
     (λj hj hj'=>hp (j+1) (by simp;omega) (by simp;omega))
     (VL.of (a:=(v.cells.toList.zipIdx 0).foldl (λcs (x:Value×Nat)=>cs.setIfInBounds (off+x.2) x.1) a) (by rw [f1,hv.1];simp;omega) λq y hq=>by
      rw [zE6 hfit] at hq
      have hqa:q<a.size:=by
       rw [hv.1];split at hq
       .omega
       .exact (Qb.1 hq).1
      rw [f2 q hqa];simp only [Q6];split at hq
      .rename_i hc;rw [if_pos (by rw [hvs];exact hc)];have:=hvx.get hq
       rwa [show v.cells.toList.getD (q-off) undef=v.cells.getD (q-off) undef by simp [Qi,Qg]]
      .rename_i hc;rw [if_neg (by rw [hvs];exact hc)]
       exact hv.get hq) h
    obtain ⟨b,hb1,hb2⟩:=ih;refine ⟨b,?_,hb2⟩;simp only [Instr.fill,hpl _ _ hoff];rw [if_neg]
    .rw [hfa];exact hb1
    .have e1:v.cells.size=xs.length:=hvx.1;simp [e1];rw [hv.1];omega
   .cases h
  .cases h
 | [],_ :: _,_,_,_,hl,_,_,_=>by simp at hl
 |_ :: _,[],_,_,_,hl,_,_,_=>by simp at hl
def HH(env:Ev):List (Nat×Operand)->Option (List (Nat×AV))
 | []=>some []
 |(i,x)::r=>match ev env x,HH env r with |some v,some l=>some ((i,v)::l) |_,_=>none
theorem zlU{A m nb w n env a}(h:Env A m nb w n env a):∀{ps:List (Nat×Operand)} {l:List (Nat×AV)},HH env ps=some l ->
  l.length=(ps.map λp=>(p.1,a.eval p.2)).length/\∀i (h1:i<l.length) (h2:i<(ps.map λp=>(p.1,a.eval p.2)).length),(ps.map λp=>(p.1,a.eval p.2))[i].1=l[i].1/\V A m nb w l[i].2 (ps.map λp=>(p.1,a.eval p.2))[i].2
 | [],l,hl=>by cases hl;exact ⟨rfl,λi h1=>by simp at h1⟩
 |(i,x)::ps,l,hl=>by
  simp only [HH] at hl;split at hl
  .rename_i v l' hv hl';cases hl;obtain ⟨h1,h2⟩:=zlU h hl';refine ⟨by simpa using h1,λj hj hj'=>?_⟩
   cases j with
   |zero=>exact ⟨rfl,zV h hv⟩
   |succ j=>exact h2 j (by simpa using hj) (by simpa using hj')
  .cases hl
def Dz(env:Ev):List Operand->Option (List AV)
 | []=>some []
 |x ::r=>match ev env x,Dz env r with |some v,some l=>some (v ::l) |_,_=>none
theorem I8{A m nb w n env a}(h:Env A m nb w n env a):∀{ps:List Operand} {l:List AV},Dz env ps=some l->VL A m nb w l (ps.map a.eval).toArray
 | [],l,hl=>by cases hl;exact ⟨rfl,λi h1=>by cases h1⟩
 |x ::ps,l,hl=>by
  simp only [Dz] at hl;split at hl
  .rename_i v l' hv hl';cases hl;have ih:=I8 h hl';refine ⟨by simpa using ih.1,λj hj=>?_⟩
   cases j with
   |zero=>simpa using zV h hv
   |succ j=>simpa using ih.2 j (by simpa using hj)
  .cases hl
theorem zyY{P:Program}{w:World}{flds:Array Field}{pl:List (Nat×Nat)}(h:flds.toList.mapM (λf=>(P.info? f.type).map λi=>(f.offset,i.size))=some pl):
  (flds.mapM λf=>do pure (f.offset,<-sizeOf f.type):Sem (Array (Nat×Nat))).run P w=.ok pl.toArray w:=by
 have:=run_places (P:=P) w flds.toList pl h;simp [Yk,this]
theorem zxR{P:Program}{A m nb w n env a}{t:TypeId}{ti:TI}{ps:Array (Nat×Operand)}{parts:List (Nat×AV)}{pl:List (Nat×Nat)}{r:List AV}(hE:Env A m nb w n env a)(ht:Xf P t=some ti)
  (hpl:ti.k=.agg pl∨(∃n e te,ti.k=.arr n e/\Xf P e=some te/\pl=(List.range n).map λi=>(i*te.size,te.size))) (hp:HH env ps.toList=some parts) (h:Wt pl (X7 ti.zero) parts=some r):
  ∃v,(Instr.build t (ps.map λ(i,x)=>(i,a.eval x))).run P w=.ok v w/\V A m nb w (.agg r) v:=by
 obtain ⟨d,i0,hd,_,_,_,_,hdk,hzs⟩:=XY ht;have hz:=zmn w ht;obtain ⟨e1,e2⟩:=zlU hE hp
 have hm:(ps.map λ(i,x)=>(i,a.eval x)).toList=ps.toList.map λp=>(p.1,a.eval p.2):=by simp
 have hm':(ps.toList.map λp=>(p.1,a.eval p.2))=(ps.map λ(i,x)=>(i,a.eval x)).toList:=hm.symm
 rcases hpl with hk |⟨cnt,e,te,hk,he,rfl⟩
 .rw [hk] at hdk;obtain ⟨flds,rfl,hmm⟩:=zD8 hdk;obtain ⟨b,hb,hv⟩:=zp7 (place:=(pl.toArray[·]?)) (λi y hy=>by simpa using hy) parts _ _ ti.zero.cells r e1 e2 (zl8 A m nb w ti.zero) h;have hpr:=zyY (P:=P) (w:=w) hmm;refine ⟨.agg b,?_,.agg _ _ hv.1 hv.2⟩;rw [<-hm] at hb;simp only [Instr.build,Sem.run_bind,hz,Result.andThen_ok,run_underlying hd];simp only [hpr,Result.andThen_ok,hb,Sem.run_pure]
 .rw [hk] at hdk
  have:d=.array cnt e:=by
   cases d <;> simp only [ZR] at hdk
   case array=>cases hdk;rfl
   case struct=>split at hdk <;> cases hdk
   all_goals cases hdk
  subst this;have hso:=GJ w he
  obtain ⟨b,hb,hv⟩:=zp7 (place:=λi=>some (i*te.size,te.size)) (λi y hy=>by
   simp [JU,List.getElem?_range] at hy;obtain ⟨j,h1,h2⟩:=hy;obtain ⟨h3,rfl⟩:=Qb.1 h1
   rw [<-h2];simp) parts _ _ ti.zero.cells r e1 e2 (zl8 A m nb w ti.zero) h
  refine ⟨.agg b,?_,.agg _ _ hv.1 hv.2⟩;rw [<-hm] at hb;simp only [Instr.build,Sem.run_bind,hz,Result.andThen_ok,run_underlying hd];simp only [hso,Result.andThen_ok,hb,Sem.run_pure]
def BO(size:Nat):List (List AV)->List (Nat×AV)->Option (List (List AV))
 |rows,[]=>some rows
 |rows,(i,x)::r =>
  match UZ x with
  |some xs=>if xs.length=size/\i<rows.length then BO size (rows.set i xs) r else none
  |none=>none
def zEf(A:Am)(m:BM)(nb:Nat)(w:World)(size:Nat)(rows:List (List AV))(a:Array Value):Prop:=
 a.size=rows.length*size/\(∀i (h:i<rows.length),rows[i].length=size)/\∀i (h:i<rows.length) j (h':j<rows[i].length),V A m nb w rows[i][j] (a.getD (i*size+j) undef)
theorem zry{A m nb w}{size:Nat}:
  ∀(parts:List (Nat×AV)) (vs:List (Nat×Value)) (rows:List (List AV)) (a:Array Value) (r:List (List AV)),parts.length=vs.length ->
   (∀i (h:i<parts.length) (h':i<vs.length),vs[i].1=parts[i].1/\V A m nb w parts[i].2 vs[i].2)->zEf A m nb w size rows a->BO size rows parts=some r ->
   ∃b,Instr.fill (λi=>some (i*size,size)) a vs=some b/\zEf A m nb w size r b/\r.length=rows.length
 | [],[],cs,a,r,_,_,hv,h=>by cases h;exact ⟨a,rfl,hv,rfl⟩
 |(i,x)::parts,(i',v)::vs,rows,a,r,hl,hp,hv,h=>by
  obtain ⟨h1,h2⟩:=hp 0 (by simp) (by simp);simp at h1 h2;subst h1;simp only [BO] at h;split at h
  .rename_i xs hxs;split at h
   .rename_i hc;obtain ⟨hxl,hfit⟩:=hc;obtain ⟨hvx,_⟩:=zj3 hxs h2;obtain ⟨f1,f2⟩:=zrz (i'*size) v.cells.toList 0 a
    have hvs:v.cells.toList.length=size:=by rw [<-hxl];simpa using hvx.1
    have hfa:v.cells.zipIdx.foldl (λcs (x:Value×Nat)=>cs.setIfInBounds (i'*size+x.2) x.1) a=(v.cells.toList.zipIdx 0).foldl (λcs (x:Value×Nat)=>cs.setIfInBounds (i'*size+x.2) x.1) a:=by
     rw [<-Array.foldl_toList];simp
    have hend:i'*size+size≤a.size:=by
     rw [hv.1];have h5:(i'+1)*size≤rows.length*size:=QG _ hfit;rw [Qz,JS] at h5;exact h5
    have ih:=zry parts vs (rows.set i' xs) ((v.cells.toList.zipIdx 0).foldl (λcs (x:Value×Nat)=>cs.setIfInBounds (i'*size+x.2) x.1) a) r (by simpa using hl)
     (λj hj hj'=>hp (j+1) (by simp;omega) (by simp;omega))
     ⟨by rw [f1,hv.1];simp,λq hq=>by
      simp only [JZ];split
      .exact hxl
      .exact hv.2.1 q (by simpa using hq),λq hq j hj=>by
      have hq':q<rows.length:=by simpa using hq
      have hj':j<size:=by
       have:((rows.set i' xs)[q]).length=size:=by
        simp only [JZ];split
        .exact hxl
        .exact hv.2.1 q hq'
       omega
      have hqa:q*size+j<a.size:=by rw [hv.1];exact KM hq' hj'
      rw [f2 _ hqa];simp only [Q6];by_cases e:i'=q
      .subst e;rw [if_pos (by rw [hvs];omega)]
       have e3:(rows.set i' xs)[i'][j]=xs[j]'(by omega):=by simp
       rw [e3];have:=hvx.2 j (by omega)
       rwa [show v.cells.toList.getD (i'*size+j-i'*size) undef=v.cells.getD j undef by simp [Qi,Qg]]
      .rw [if_neg]
       .have e3:(rows.set i' xs)[q][j]=rows[q][j]'(by rw [hv.2.1 q hq'];exact hj'):=by simp [e]
        rw [e3];exact hv.2.2 q hq' j _
       .rw [hvs]
        rcases Nat.lt_or_gt_of_ne e with h5 |h5
        .have:=KM (i':=i') (i:=q) (k:=size) (j:=size-1) h5 (by omega);omega
        .have:=KM (i':=q) (i:=i') (k:=size) (j:=j) h5 hj'
         omega⟩ h
    obtain ⟨b,hb1,hb2,hb3⟩:=ih;refine ⟨b,?_,hb2,by rw [hb3];simp⟩;simp only [Instr.fill];rw [if_neg]
    .rw [hfa];exact hb1
    .have e1:v.cells.size=size:=by rw [<-hvs];simp
     simp [e1];omega
   .cases h
  .cases h
 | [],_ :: _,_,_,_,hl,_,_,_=>by simp at hl
 |_ :: _,[],_,_,_,hl,_,_,_=>by simp at hl
theorem zt6{P:Program}{A m w st n env a}{t e:TypeId}{ti te:TI}{len:Nat}{ps:Array (Nat×Operand)}{parts:List (Nat×AV)}{r:List (List AV)}(hR:R A m w st)(hE:Env A m st.length w n env a)
  (ht:Xf P t=some ti) (hte:ti.k=.slc e) (he:Xf P e=some te) (hsz:0<te.size) (hmax:len*te.size≤16777216) (hp:HH env ps.toList=some parts)
  (h:BO te.size (List.replicate len (X7 te.zero)) parts=some r):
  ∃v w' m',(Instr.buildSlice t len (ps.map λ(i,x)=>(i,a.eval x))).run P w=.ok v w'/\R A m' w' (st++[some (te.size,r)]) /\
   Xp A m st.length w A m' (st++[some (te.size,r)]).length w'/\V A m' (st++[some (te.size,r)]).length w' (.msl st.length 0 len) v:=by
 obtain ⟨d,i0,hd,_,_,_,_,hdk,_⟩:=XY ht;obtain ⟨_,_,_,_,_,_,_,_,hzs⟩:=XY he;rw [hte] at hdk;have:=UI hdk;subst this;have hso:=GJ w he;have hz:=zmn w he;obtain ⟨e1,e2⟩:=zlU hE hp
 have hm:(ps.map λ(i,x)=>(i,a.eval x)).toList=ps.toList.map λp=>(p.1,a.eval p.2):=by simp
 have hzl:(X7 te.zero).length=te.size:=by simp [X7,hzs]
 have hstart:zEf A m st.length w te.size (List.replicate len (X7 te.zero)) ((Array.range (len*te.size)).map (te.zero.cells[· % te.zero.cells.size]!)):=by
  refine ⟨by simp,λi hi=>by simp [hzl],λi hi j hj=>?_⟩
  have hi':i<len:=by simpa using hi
  have hj':j<te.size:=by simpa [hzl] using hj
  have hq:i*te.size+j<len*te.size:=KM hi' hj'
  have hmod:(i*te.size+j) % te.size=j:=by rw [Yc,Nat.add_mul_mod_self_right,Nat.mod_eq_of_lt hj']
  have e3:(List.replicate len (X7 te.zero))[i][j]=(X7 te.zero)[j]'(by rw [hzl];exact hj'):=by simp
  rw [e3];have h4:=(zl8 A m st.length w te.zero).2 j (by rw [hzl];exact hj')
  have e5:((Array.range (len*te.size)).map (te.zero.cells[· % te.zero.cells.size]!)).getD (i*te.size+j) undef=te.zero.cells.getD j undef:=by
   have hjz:j<te.zero.cells.size:=by rw [hzs];exact hj'
   simp [Qg,hq,hzs,hmod];rw [getElem!_pos te.zero.cells j hjz,getElem?_pos te.zero.cells j hjz];rfl
  rw [e5];exact h4
 obtain ⟨b,hb,hv,hrl⟩:=zry parts _ _ _ r e1 e2 hstart h
 have hrl':r.length=len:=by rw [hrl];simp
 rw [<-hm] at hb
 have hcell:∀off,off<len*te.size->(w.alloc (.cells b e)).cell? ⟨w.heap.size,off,none⟩=some (b.getD off undef):=λoff ho=>by
  have:=World.cell?_alloc_new w b e off;rw [this,QE (by rw [hv.1,hrl'];exact ho)]
  have ho2:off<b.size:=by rw [hv.1,hrl'];exact ho
  simp [Qg,ho2]
 have hpu:=hR.push (XK.alloc w (.cells b e)) ⟨true,w.heap.size,0,te.size,len*te.size,false⟩ r (λ_=>⟨Qk _,by simp⟩) (λh=>by cases h)
  (λ_ off ho=>⟨_,hcell off ho⟩) (λ_ off _=>I7 (w:=w) b e off) (λ_=>by simp [hrl']) hv.2.1
  (λ_ i hi j hj=>by
   have hj':j<te.size:=by rw [<-hv.2.1 i hi];exact hj
   exact ⟨_,by simpa using hcell _ (KM (hrl' ▸ hi) hj'),hv.2.2 i hi j hj⟩)
 have hlen:(st++[some (te.size,r)]).length=st.length+1:=by simp
 rw [hlen];refine ⟨.slice (some ⟨w.heap.size,0,none⟩) len len,_,_,?_,hpu.1,hpu.2,.msl _ _ _ _ _ _ (QN _) λb' hb'=>?_⟩
 .have h16:¬(len*te.size > 2 ^ 24):=by simpa using hmax
  by_cases h0:len*te.size=0
  .have hl0:len=0:=by
    rcases Nat.mul_eq_zero.1 h0 with h |h
    .exact h
    .omega
   subst hl0
   have e0:∀(f:Nat->Value),(Array.range (0*te.size)).map f=#[]:=λf=>by simp
   rw [e0] at hb;simp only [Instr.buildSlice,Sem.run_bind,run_underlying hd,Result.andThen_ok,hso,h16,if_false];simp only [h0,if_true,Sem.run_pure,Sem.run_bind,Result.andThen_ok];rw [show (Array.range 0).map (λ(x:Nat)=>(#[]:Array Value)[x % (#[]:Array Value).size]!)=#[] by simp];rw [hm] at hb ⊢;simp only [hb];simp [newRow]
  .simp only [Instr.buildSlice,Sem.run_bind,run_underlying hd,Result.andThen_ok,hso,h16,if_false];simp only [h0,if_false,Sem.run_bind,Sem.run_pure,Result.andThen_ok,hz,hb];simp [newRow]
 .simp [BM.put] at hb';subst hb';exact ⟨rfl,Qk _,.inr ⟨rfl,by simp,by simp⟩⟩
def afv(P:Program)(t:TypeId)(f:Nat)(x:AV):Option AV:=
 match P.underlying t,x with
 |some (.struct flds),.agg cs =>
  match flds[f]? with
  |some fld =>
   match Xf P fld.type with
   |some ti=>(match ti.k.isAgg with |some true=>if fld.offset+ti.size≤cs.length then some (.agg ((cs.drop fld.offset).take ti.size)) else none |some false=>cs[fld.offset]? |none=>none)
   |none=>none
  |none=>none
 |_,_=>none
theorem zAS{P:Program}{A m nb}{w:World}{t:TypeId}{f:Nat}{x av:AV}{v:Value}(hx:V A m nb w x v)(h:afv P t f x=some av):∃u,(Instr.field t v f).run P w=.ok u w/\V A m nb w av u:=by
 unfold afv at h;split at h
 case h_2=>cases h
 rename_i flds cs hu;split at h
 case h_2=>cases h
 rename_i fld hf;split at h
 case h_2=>cases h
 rename_i ti ht;obtain ⟨a,rfl,hsz,hv⟩:=hx.agg_inv
 cases ha:ti.k.isAgg with
 |none=>rw [ha] at h;cases h
 |some b =>
  have hia:=zpP w ht ha;have hso:=GJ w ht;rw [ha] at h
  cases b with
  |false =>
   simp only at h;obtain ⟨hj,rfl⟩:=Qb.1 h
   have hj':fld.offset<a.size:=by rw [hsz];exact hj
   refine ⟨a.getD fld.offset undef,?_,hv _ hj⟩;simp [Instr.field,run_underlying hu,hf,part,asAgg,hia,hj',Qg,Result.andThen]
  |true =>
   simp only at h;split at h
   .rename_i hle;cases h;refine ⟨.agg (a.extract fld.offset (fld.offset+ti.size)),?_,.agg _ _ (by simp;omega) λi hi=>?_⟩
    .simp [Instr.field,run_underlying hu,hf,part,asAgg,hia,hso,Result.andThen]
    .have hi':i<ti.size:=by simp at hi;omega
     have h1:=hv (fld.offset+i) (by omega)
     have e1:((cs.drop fld.offset).take ti.size)[i]=cs[fld.offset+i]'(by omega):=by simp
     have e2:(a.extract fld.offset (fld.offset+ti.size)).getD i undef=a.getD (fld.offset+i) undef:=by
      simp only [Qg,Array.getElem?_extract];rw [if_pos (by omega)]
     rw [e1,e2];exact h1
   .cases h
def zGT(te:TI)(cs:List AV)(n:Nat)(i:Int):Option AV:=
 if 0≤i/\i<n then (match te.k.isAgg with |some true=>if i.toNat*te.size+te.size≤cs.length then some (.agg ((cs.drop (i.toNat*te.size)).take te.size)) else none |some false=>cs[i.toNat*te.size]? |none=>none) else none
theorem zAT{P:Program}{A m nb}{w:World}{t e:TypeId}{ti te:TI}{n:Nat}{cs:List AV}{k:IntKind}{i:Int}{av:AV}{v:Value}(ht:Xf P t=some ti)(hk:ti.k=.arr n e)(he:Xf P e=some te)(hx:V A m nb w (.agg cs) v)(h:zGT te cs n i=some av):
  ∃u,(Instr.index t v (.int k i)).run P w=.ok u w/\V A m nb w av u:=by
 unfold zGT at h;split at h
 case isFalse=>cases h
 rename_i hi0;obtain ⟨d,i0,hd,_,_,_,_,hdk,_⟩:=XY ht;rw [hk] at hdk
 have hda:d=.array n e:=by
  cases d <;> simp only [ZR] at hdk
  case array=>cases hdk;rfl
  case struct=>split at hdk <;> cases hdk
  all_goals cases hdk
 subst hda;obtain ⟨a,rfl,hsz,hv⟩:=hx.agg_inv;have hso:=GJ w he
 cases ha:te.k.isAgg with
 |none=>rw [ha] at h;cases h
 |some b =>
  have hia:=zpP w he ha;rw [ha] at h
  cases b with
  |false =>
   simp only at h;obtain ⟨hj,rfl⟩:=Qb.1 h
   have hj':i.toNat*te.size<a.size:=by rw [hsz];exact hj
   refine ⟨a.getD (i.toNat*te.size) undef,?_,hv _ hj⟩;simp [Instr.index,asIntOf,run_underlying hd,hi0.1,hi0.2,part,hia,hso,hj',Qg,Result.andThen]
  |true =>
   simp only at h;split at h
   .rename_i hle;cases h;refine ⟨.agg (a.extract (i.toNat*te.size) (i.toNat*te.size+te.size)),?_,.agg _ _ (by simp;omega) λq hq=>?_⟩
    .simp [Instr.index,asIntOf,run_underlying hd,hi0.1,hi0.2,part,hia,hso,Result.andThen]
    .have hi':q<te.size:=by simp at hq;omega
     have h1:=hv (i.toNat*te.size+q) (by omega)
     have e1:((cs.drop (i.toNat*te.size)).take te.size)[q]=cs[i.toNat*te.size+q]'(by omega):=by simp
     have e2:(a.extract (i.toNat*te.size) (i.toNat*te.size+te.size)).getD q undef=a.getD (i.toNat*te.size+q) undef:=by
      simp only [Qg,Array.getElem?_extract];rw [if_pos (by omega)]
     rw [e1,e2];exact h1
   .cases h
def Gy(P:Program)(t:TypeId):Option TypeId:=
 match P.underlying t with
 |some (.map k e)=>match P.underlying k with |some .string=>some e |_=>none
 |_=>none
theorem zvh{P:Program}{t e:TypeId}(h:Gy P t=some e):∃k,P.underlying t=some (.map k e)/\P.underlying k=some .string:=by
 unfold Gy at h;split at h
 .rename_i k e' hu;split at h
  .rename_i hk;cases h;exact ⟨k,hu,hk⟩
  .cases h
 .cases h
def Z9(k:List UInt8):List (List AV)->Nat->Option (Option (Nat×AV))
 | [],_=>some none
 | [.lit (.string s),v]::r,i=>match decide (k=s.data.toList) with |true=>some (some (i,v)) |false=>Z9 k r (i+1)
 |_ :: _,_=>none
def zGI(k:ByteArray)(v:AV)(els:List (List AV)):Option (List (List AV)):=
 match Z9 k.data.toList els 0 with
 |some (some (i,_))=>some (els.set i [.lit (.string k),v])
 |some none=>some (els++[[.lit (.string k),v]])
 |none=>none
def BD:Value->AV
 |.agg a=>.agg (a.toList.map .lit)
 |v=>.lit v
theorem zGz{A m nb}{w:World}(z:Value):V A m nb w (BD z) z:=by
 cases z with
 |agg a =>
  refine .imm (.agg _ _ (by simp) λi hi=>?_)
  have hi':i<a.size:=by simpa using hi
  have e:(List.map AV.lit a.toList)[i]=.lit (a.getD i undef):=by simp [Qg,hi']
  rw [e];exact .lit _
 |_=>exact .imm (.lit _)
def Ws(st:St):AV->Option (List (List AV))
 |.imp els=>some els
 |.mmp l=>match st[l]? with |some (some (2,els))=>some els |_=>none
 |.lit (.map none)=>some []
 |_=>none
theorem zDG(a b:ByteArray):(a == b)=decide (a.data.toList=b.data.toList):=by
 cases h:decide (a.data.toList=b.data.toList) with
 |true =>
  have h1:=of_decide_eq_true h;refine (MapKept.bytes_beq a b).2 ?_;obtain ⟨⟨x⟩⟩:=a;obtain ⟨⟨y⟩⟩:=b;have:x=y:=h1;rw [this]
 |false =>
  have h1:=of_decide_eq_false h
  cases hb:a == b with
  |false=>rfl
  |true=>exact absurd (by rw [(MapKept.bytes_beq a b).1 hb]) h1
theorem zz7{e:MapEntry}{l:List MapEntry}{i j:Nat}:ZV ⟨e ::l⟩ (i+1) j=ZV ⟨l⟩ i j:=by
 unfold ZV
 have:(⟨e ::l⟩:Array MapEntry)[i+1]?=(⟨l⟩:Array MapEntry)[i]?:=by simp
 rw [this]
theorem zwv{k:List UInt8}{row:List AV}{els:List (List AV)}{i:Nat}{r:Option (Nat×AV)}(h:Z9 k (row ::els) i=some r):∃s v,row=[.lit (.string s),v]:=by
 unfold Z9 at h;split at h
 .rename_i heq;cases heq
 .rename_i heq;cases heq;exact ⟨_,_,rfl⟩
 .cases h
theorem zyR{k:List UInt8}{s:ByteArray}{v:AV}{els:List (List AV)}{i:Nat}:Z9 k ([.lit (.string s),v]::els) i=(match decide (k=s.data.toList) with |true=>some (some (i,v)) |false=>Z9 k els (i+1)):=rfl
theorem IG{A m nb}{w:World}(k:ByteArray){es:Array MapEntry}:∀{els:List (List AV)} {l:List MapEntry} {i0:Nat} {r:Option (Nat×AV)},
    l.length=els.length->(∀i (h:i<els.length) j (h':j<els[i].length),V A m nb w els[i][j] (ZV ⟨l⟩ i j))->(∀i (h:i<els.length),els[i].length=2)->Z9 k.data.toList els i0=some r ->
    (match r with
     |none=>Instr.findNow .string (.string k) l i0=some none
     |some (i,v)=>∃u s,Instr.findNow .string (.string k) l i0=some (some (i,u))/\V A m nb w v u/\i0≤i/\els[i-i0]?=some [.lit (.string s),v]/\s.data.toList=k.data.toList/\∃e,l[i-i0]?=some e/\e.key=.string k)
  | [],l,i0,r,hl,hv,hk,h=>by
    unfold Z9 at h;cases h;have:l=[]:=Qf hl;subst this;rfl
  |row ::els,[],i0,r,hl,hv,hk,h=>by cases hl
  |row ::els,e ::l,i0,r,hl,hv,hk,h=>by
    have tail:∀i (h:i<els.length) j (h':j<els[i].length),V A m nb w els[i][j] (ZV ⟨l⟩ i j):=λi hi j hj=>by
      have h1:=hv (i+1) (by simp;omega) j hj;rw [zz7] at h1;exact h1
    obtain ⟨s,v,rfl⟩:=zwv h;rw [zyR] at h;have h0:=hv 0 (by simp) 0 (by simp);have h1:=hv 0 (by simp) 1 (by simp);have hkey:e.key=.string s:=h0.lit_inv;have hval:V A m nb w v e.val:=h1
    have hnow:Instr.sameNow .string (.string k) e.key=some (k == s):=by rw [hkey];rfl
    split at h
    · rename_i hd;have hd:=of_decide_eq_true hd;cases h;refine ⟨e.val,s,?_,hval,Qk _,by simp,hd.symm,e,by simp,?_⟩
      · unfold Instr.findNow;rw [hnow,zDG,decide_eq_true hd]
      · rw [hkey];congr 1;obtain ⟨⟨x⟩⟩:=k;obtain ⟨⟨y⟩⟩:=s;have:x=y:=hd;rw [this]
    · rename_i hd;have hd:=of_decide_eq_false hd
      have hstep:Instr.findNow .string (.string k) (e ::l) i0=Instr.findNow .string (.string k) l (i0+1):=by
        rw [Instr.findNow,hnow,zDG,decide_eq_false hd]
      have ih:=IG k (es:=es) (els:=els) (l:=l) (by simpa using hl) tail (λi hi=>hk (i+1) (by simp;omega)) h
      cases r with
      |none=>rw [hstep];exact ih
      |some p =>
        obtain ⟨i,v'⟩:=p;obtain ⟨u,s',h2,h3,h4,h5,h6,e',h7,h8⟩:=ih;refine ⟨u,s',by rw [hstep];exact h2,h3,by omega,?_,h6,e',?_,h8⟩
        · rw [show i-i0=(i-(i0+1))+1 by omega];simpa using h5
        · rw [show i-i0=(i-(i0+1))+1 by omega];simpa using h7
theorem zwx{A m w st}(hR:R A m w st){x:AV}{v:Value}{els:List (List AV)}(h:Ws st x=some els)(hv:V A m st.length w x v):
  (els=[]/\v=.map none)∨∃r es clock,v=.map (some r)/\w.heap[r]?=some (.map es clock)/\es.size=els.length/\(∀i (h:i<els.length),els[i].length=2)/\∀i (h:i<els.length) j (h':j<els[i].length),V A m st.length w els[i][j] (ZV es i j):=by
 unfold Ws at h;split at h
 .cases h
  cases hv.imp_inv with
  |imp _ r es clock hA hh hs hk hv2=>exact .inr ⟨r,es,clock,rfl,hh,hs,hk,λi hi j hj=>.imm (hv2 i hi j hj)⟩
 .rename_i l;split at h
  .rename_i els' hq;cases h;obtain ⟨hl,a,rfl,hb⟩:=hv.mmp_inv;obtain ⟨b,h1,h2,h3,h4⟩:=hR.blk l 2 els hq;obtain ⟨h6,hm6,rfl⟩:=hb b h1;obtain ⟨h0,es,clock,h7,h8,h9⟩:=(h3 h6).mval hm6;exact .inr ⟨b.B,es,clock,rfl,h7,h8,λi hi=>by rw [(h3 h6).wide i hi,h0],h9⟩
  .cases h
 .cases h;exact .inl ⟨rfl,hv.lit_inv⟩
 .cases h
def WL(P:Program)(st:St)(t:TypeId)(mv:AV)(k:List UInt8)(ok:Bool):Option AV:=
 match Gy P t with
 |some e =>
  match Xf P e,Ws st mv with
  |some te,some els =>
   match Z9 k els 0 with
   |some (some (_,v))=>some (match ok with |true=>.tup [v,.lit (.bool true)] |false=>v)
   |some none=>some (match ok with |true=>.tup [BD te.zero,.lit (.bool false)] |false=>BD te.zero)
   |none=>none
  |_,_=>none
 |none=>none
theorem zH6{A m nb}{w:World}{x:AV}{v:Value}{b:Bool}(h:V A m nb w x v):V A m nb w (.tup [x,.lit (.bool b)]) (.tuple #[v,.bool b]):=by
 refine .tup _ _ rfl λi hi=>?_
 match i,hi with
 | 0,_=>exact h
 | 1,_=>exact .imm (.lit _)
theorem wok{A m nb}{w:World}{x:AV}{v:Value}(b ok:Bool)(h:V A m nb w x v):V A m nb w (match ok with |true=>.tup [x,.lit (.bool b)] |false=>x) (if ok then .tuple #[v,.bool b] else v):=by
 cases ok with
 |true=>exact zH6 h
 |false=>exact h
theorem zAW{P:Program}{A m w st}{t:TypeId}{mv av:AV}{v:Value}{k:ByteArray}{ok:Bool}(hR:R A m w st)(hv:V A m st.length w mv v)(h:WL P st t mv k.data.toList ok=some av):
  ∃u,(Instr.lookup t v (.string k) ok).run P w=.ok u w/\V A m st.length w av u:=by
 unfold WL at h;split at h
 case h_2=>cases h
 rename_i e hm;obtain ⟨kt,hu,hks⟩:=zvh hm;split at h
 case h_2=>cases h
 rename_i te els hte hrows
 have hz:(zeroValue e).run P w=.ok te.zero w:=by
  obtain ⟨d,i,h1,h2,h3,_⟩:=XY hte;simp [zeroValue,typeInfo,h2,h3]
 have hc:∀b,(Instr.checkKey b 10000 kt (.string k)).run P w=.ok () w:=λb=>MapKept.run_checkKey (k:=.string k) hks (by simp [MapKept.IsKey]) b 9999
 rcases zwx hR hrows hv with ⟨rfl,rfl⟩ |⟨r,es,clock,rfl,hb,hsz,hk2,hvs⟩
 .simp only [Z9] at h;cases h;have hf:Instr.findNow .string (.string k) ([]:List MapEntry) 0=some none:=rfl;refine ⟨if ok then .tuple #[te.zero,.bool false] else te.zero,?_,?_⟩
  .have hfk:(Instr.findKey kt (.string k) (#[]:Array MapEntry).toList).run P w=.ok none w:=MapKept.run_findKey hks hf;have hc':=hc true;simp only [Instr.lookup,Sem.run_bind,run_underlying hu,Result.andThen_ok,Sem.run_pure];simp [hc',hfk,hz,Result.andThen]
  .exact wok _ _ (zGz te.zero)
 .have hl:es.toList.length=els.length:=by simpa using hsz
  split at h
  .rename_i i x hf;cases h;obtain ⟨u,s,h2,h3,_⟩:=IG k (es:=es) (l:=es.toList) hl (by simpa using hvs) hk2 hf;refine ⟨if ok then .tuple #[u,.bool true] else u,?_,wok _ _ h3⟩;simp [Instr.lookup,run_underlying hu,MapKept.run_getObj_map hb,hc,MapKept.run_findKey hks h2,Result.andThen]
  .rename_i hf;cases h;have h2:=IG k (es:=es) (l:=es.toList) hl (by simpa using hvs) hk2 hf;refine ⟨if ok then .tuple #[te.zero,.bool false] else te.zero,?_,wok _ _ (zGz te.zero)⟩;simp [Instr.lookup,run_underlying hu,MapKept.run_getObj_map hb,hc,MapKept.run_findKey hks h2,hz,Result.andThen]
  .cases h
def zts(P:Program)(st:St)(t:TypeId)(mv:AV)(k:ByteArray)(x:AV):Option St:=
 match Gy P t,mv with
 |some _,.mmp l =>
  match st[l]? with
  |some (some (2,els))=>(match zGI k x els with |some els'=>some (st.set l (some (2,els'))) |none=>none)
  |_=>none
 |_,_=>none
theorem zAX{P:Program}{A m w st}{t:TypeId}{mv x:AV}{v u:Value}{k:ByteArray}{st':St}(hR:R A m w st)(hv:V A m st.length w mv v)(hx:V A m st.length w x u)(h:zts P st t mv k x=some st'):
  ∃w',(Instr.mapUpdate t v (.string k) u).run P w=.ok () w'/\R A m w' st'/\Xp A m st.length w A m st'.length w':=by
 unfold zts at h;split at h
 case h_2=>cases h
 rename_i e l hm;obtain ⟨kt,hu,hks⟩:=zvh hm;split at h
 case h_2=>cases h
 rename_i els hq;split at h
 case h_2=>cases h
 rename_i els' hput;cases h;obtain ⟨hl,a,rfl,hb'⟩:=hv.mmp_inv;obtain ⟨b,h1,h2,h3,h4⟩:=hR.blk l 2 els hq;obtain ⟨h6,hm6,rfl⟩:=hb' b h1;obtain ⟨h0,es,clock,h7,h8,h9⟩:=(h3 h6).mval hm6
 have hk2:∀i (h:i<els.length),els[i].length=2:=λi hi=>by rw [(h3 h6).wide i hi,h0]
 have hle:es.toList.length=els.length:=by simpa using h8
 have hc:(Instr.checkKey false 10000 kt (.string k)).run P w=.ok () w:=MapKept.run_checkKey (k:=.string k) hks (by simp [MapKept.IsKey]) false 9999;have hst:(Instr.keyThatStays (.string k) (.string k)).run P w=.ok (.string k) w:=MapKept.run_keyThatStays (d:=.string) (by simp [MapKept.IsKey]);unfold zGI at hput;split at hput
 .rename_i i x0 hf;cases hput;obtain ⟨u0,s,n1,n2,n3,n4,n5,e0,n6,n7⟩:=IG k (es:=es) (l:=es.toList) hle (by simpa using h9) hk2 hf;simp only [Yd] at n4 n6;have hi:i<els.length:=(Qb.1 n4).1
  have hie:es[i]?=some e0:=by simpa using n6
  have hrun:(Instr.mapUpdate t (.map (some b.B)) (.string k) u).run P w=.ok () { w with heap:=w.heap.setIfInBounds b.B (.map (es.modify i λe=>{ e with key:=.string k,val:=u }) clock) }:=by
   simp [Instr.mapUpdate,run_underlying hu,MapKept.run_getObj_map h7,hc,MapKept.run_findKey hks n1,hie,n7,hst,MapKept.run_setObj_map _ h7,Result.andThen]
  refine ⟨_,hrun,?_⟩
  have h:=hR.setM (es:=es.modify i λe=>{ e with key:=.string k,val:=u }) (clock:=clock) (els':=els.set i [.lit (.string k),x]) hq h1 h6 hm6 (by simp [h8]) (λq hq'=>by
   rw [JZ];split
   .rfl
   .exact hk2 q (by simpa using hq')) (λq hq' j hj=>by
   have hqe:q<els.length:=by simpa using hq'
   have hqs:q<es.size:=by rw [h8];exact hqe
   by_cases e1:i=q
   .subst e1
    have e2:(els.set i [.lit (.string k),x])[i]=[.lit (.string k),x]:=by simp
    have e3:∀j,ZV (es.modify i λe=>{ e with key:=.string k,val:=u }) i j=(match j with | 0=>.string k |_=>u):=λj=>by
     unfold ZV;rw [Jc,if_pos rfl,hie];rfl
    rw [e3]
    have hj2:j<2:=by rw [e2] at hj;exact hj
    match j,hj2 with
    | 0,_=>simp only [e2,Jb];exact .imm (.lit _)
    | 1,_=>simp only [e2,List.getElem_cons_succ,Jb];exact hx
   .have e2:(els.set i [.lit (.string k),x])[q]=els[q]:=by simp [e1]
    have e3:ZV (es.modify i λe=>{ e with key:=.string k,val:=u }) q j=ZV es q j:=by
     unfold ZV;rw [Jc,if_neg e1]
    rw [e3]
    have hj':j<els[q].length:=by rw [<-e2];exact hj
    have e4:(els.set i [.lit (.string k),x])[q][j]=els[q][j]:=by simp [e1]
    rw [e4]
    exact h9 q hqe j hj')
  refine ⟨h.1,?_⟩;rw [Ji];exact h.2
 .rename_i hf;cases hput;have n1:=IG k (es:=es) (l:=es.toList) hle (by simpa using h9) hk2 hf;simp only at n1
  have hrun:(Instr.mapUpdate t (.map (some b.B)) (.string k) u).run P w=.ok () { w with heap:=w.heap.setIfInBounds b.B (.map (es.push { key:=.string k,val:=u,born:=clock }) (clock+1)) }:=by
   simp [Instr.mapUpdate,run_underlying hu,MapKept.run_getObj_map h7,hc,MapKept.run_findKey hks n1,MapKept.run_setObj_map _ h7,Result.andThen]
  refine ⟨_,hrun,?_⟩
  have h:=hR.setM (es:=es.push { key:=.string k,val:=u,born:=clock }) (clock:=clock+1) (els':=els++[[.lit (.string k),x]]) hq h1 h6 hm6 (by simp [h8]) (λq hq'=>by
   rw [List.getElem_append];split
   .exact hk2 q _
   .simp at hq'
    simp) (λq hq' j hj=>by
   by_cases e1:q<els.length
   .have e4:(els++[[.lit (.string k),x]])[q]=els[q]:=Jd e1
    have hj':j<els[q].length:=by rw [<-e4];exact hj
    have e5:(els++[[.lit (.string k),x]])[q][j]=els[q][j]:=by simp [Jd e1]
    have e3:ZV (es.push { key:=.string k,val:=u,born:=clock }) q j=ZV es q j:=by
     unfold ZV;rw [Array.getElem?_push,if_neg (by omega)]
    rw [e3,e5];exact h9 q e1 j hj'
   .have hq2:q=els.length:=by simp at hq';omega
    subst hq2
    have e2:(els++[[.lit (.string k),x]])[els.length]=[.lit (.string k),x]:=by simp
    have e3:∀j,ZV (es.push { key:=.string k,val:=u,born:=clock }) els.length j=(match j with | 0=>.string k |_=>u):=λj=>by
     unfold ZV;rw [Array.getElem?_push,if_pos (by omega)] <;> rfl
    rw [e3]
    have hj2:j<2:=by rw [e2] at hj;exact hj
    match j,hj2 with
    | 0,_=>simp only [e2,Jb];exact .imm (.lit _)
    | 1,_=>simp only [e2,List.getElem_cons_succ,Jb];exact hx)
  refine ⟨h.1,?_⟩;rw [Ji];exact h.2
 .cases hput
def B9:List (List AV)->Nat->List (List AV)->List (List AV)
 |els,_,[]=>els
 |els,i,r ::rs=>B9 (UY els i 0 r) (i+1) rs
theorem znM(b:Nat):∀(vs us:List Value) (o:Nat) (w:World),w.setCells b o (vs++us)=(w.setCells b o vs).setCells b (o+vs.length) us
 | [],_,_,_=>rfl
 |v ::r,us,o,w=>by
  simp only [J0,World.setCells,Qu];rw [znM b r us (o+1)];congr 1;omega
theorem zuq(els:List (List AV))(i j:Nat)(cs:List AV):(UY els i j cs).length=els.length:=by
 unfold UY;split <;> simp
theorem zwR{st:St}{l:Nat}{x y:Option (Nat×List (List AV))}:(st.set l x).set l y=st.set l y:=by simp
theorem R.storeRows{A:Am}{m:BM}{l k:Nat}{b:Blk}(hb:m l=some b)(hh:b.has=true)(hm:b.mp=false):∀(rows:List (List AV)) (vs:List Value) (i:Nat) (els:List (List AV)) (w:World) (st:St),R A m w st ->
  st[l]?=some (some (k,els))->b.k=k->i+rows.length≤els.length->(∀q (h:q<rows.length),rows[q].length=k)->vs.length=rows.length*k ->
  (∀q (h:q<rows.length) j (h':j<rows[q].length),V A m st.length w rows[q][j] (vs.getD (q*k+j) undef)) ->
  R A m (w.setCells b.B (b.o+i*b.k) vs) (st.set l (some (k,B9 els i rows)))/\Xp A m st.length w A m st.length (w.setCells b.B (b.o+i*b.k) vs)
 | [],vs,i,els,w,st,hR,hl,hk,_,_,hn,_=>by
  have:vs=[]:=Qf (by simpa using hn);subst this
  have e:st.set l (some (k,els))=st:=by
   apply List.ext_getElem?;intro q;by_cases hq:q=l
   .subst hq
    rw [QP (by rcases JI q st.length with h |h;exact h;rw [Jk h] at hl;cases hl),hl]
   .rw [QJ (Ne.symm hq)]
  simp only [B9,World.setCells,e];exact ⟨hR,Xp.refl _ _ _ _⟩
 |r ::rs,vs,i,els,w,st,hR,hl,hk,hi,hw,hn,hv=>by
  have hrk:r.length=k:=hw 0 (by simp)
  have hvl:vs.length=k+rs.length*k:=by rw [hn];simp [Qz];omega
  have h1:=hR.store hl hb hh hm i 0 r (vs.take k) (by simp at hi;omega) (by omega) (by simp;omega) (λq hq=>by
   have h:=hv 0 (by simp) q hq
   have e:(vs.take k).getD q undef=vs.getD (0*k+q) undef:=by
    rw [Ya,QM];simp only [Qi,Jy];rw [if_pos (by omega)]
   rw [e]
   exact h)
  simp only [Q6] at h1
  have hll:l<st.length:=by rcases JI l st.length with h |h;exact h;rw [Jk h] at hl;cases hl
  have h2:=R.storeRows hb hh hm rs (vs.drop k) (i+1) (UY els i 0 r) _ _ h1.1 (by rw [QP hll]) hk (by rw [zuq];simp at hi;omega)
   (λq hq=>hw (q+1) (by simp;omega)) (by simp;omega) (λq hq j hj=>by
    have h:=hv (q+1) (by simp;omega) j (by simpa using hj)
    have e:(vs.drop k).getD (q*k+j) undef=vs.getD ((q+1)*k+j) undef:=by
     simp only [Qi,Jz];congr 2;rw [Qz];omega
    rw [e,Ji]
    exact V.step hR h1.2 h)
  have e1:b.o+i*b.k+(vs.take k).length=b.o+(i+1)*b.k:=by
   rw [Qz];simp;omega
  have e2:w.setCells b.B (b.o+i*b.k) vs=(w.setCells b.B (b.o+i*b.k) (vs.take k)).setCells b.B (b.o+(i+1)*b.k) (vs.drop k):=by
   rw [<-e1,<-znM,List.take_append_drop]
  rw [e2,B9];refine ⟨?_,?_⟩
  .have:=h2.1
   rwa [zwR] at this
  .have h3:=h2.2;rw [Ji] at h3;exact h1.2.trans h3
def zEh(st:St)(k:Nat)(d s:AV):Option (AV×St):=
 match d,Ub st k s with
 |.msl l i n,some new =>
  match st[l]? with
  |some (some (k',els))=>if k'=k/\i+n≤els.length/\Kj new=true then some (.lit (goInt (min new.length n:Nat)),st.set l (some (k,B9 els i (new.take n)))) else none
  |_=>none
 |_,_=>none
theorem zwz{A m nb w}{k:Nat}{new:List (List AV)}{news:List Value}(hw:∀q (h:q<new.length),new[q].length=k)(n1:news.length=new.length*k)
  (n3:∀i (hi:i<new.length) j (hj:j<new[i].length),V A m nb w new[i][j] (news.getD (i*k+j) undef)) (h1:Kj new=true):∀u∈news,u.oneCell'=true:=by
 intro u hu;obtain ⟨q,hq,rfl⟩:=List.mem_iff_getElem.1 hu
 have hk0:0<k:=by
  rcases Q8 k with h |h
  .subst h;rw [n1] at hq;omega
  .exact h
 rw [n1] at hq
 have hi:q / k<new.length:=by rw [JX hk0];exact hq
 have hj:q % k<new[q / k].length:=by rw [hw _ hi];exact Nat.mod_lt _ hk0
 have h4:=n3 (q / k) hi (q % k) hj
 have h5:q / k*k+q % k=q:=by rw [Yb];exact J7 q k
 rw [h5,Qi,Qe (by rw [n1];exact hq),QY] at h4;refine h4.one ?_;simp only [Kj,Ql] at h1;exact h1 _ (Qh hi) _ (Qh hj)
theorem zv9{els:List (List AV)}(n:Nat)(h:Kj els=true):Kj (els.take n)=true:=by
 simp only [Kj,Ql] at h ⊢;exact λr hr=>h r (JG hr)
theorem zDl{P:Program}{A m w st k}{s:AV}{new:List (List AV)}{sv:Value}(hR:R A m w st)(h:Ub st k s=some new)(hs:V A m st.length w s sv)(h1:Kj new=true)(n:Nat):
  (Builtin.lenOf sv).run P w=.ok new.length w/\(∀q (h:q<(new.take n).length),(new.take n)[q].length=k)/\∃news:List Value,news.length=(new.take n).length*k /\
   (Builtin.firstCells k (Nat.min new.length n) sv).run P w=.ok news.toArray w /\
   (∀q (h:q<(new.take n).length) j (h':j<(new.take n)[q].length),V A m st.length w (new.take n)[q][j] (news.getD (q*k+j) undef))/\∀u∈news,u.oneCell'=true:=by
 rcases zqp hR h hs with ⟨rfl,a,cap,rfl⟩ |⟨B,o,cap,rfl,hcap,hrd⟩
 .refine ⟨rfl,λq hq=>by simp at hq,[],by simp,?_,λq hq=>by simp at hq,λu hu=>by cases hu⟩
  have e:Nat.min ([]:List (List AV)).length n=0:=by simp
  rw [e];cases a <;> simp [Builtin.firstCells,loadCells,loadCellsFrom]
 .have hrd':=hrd.sub 0 n;rw [Ya,Q6,Ye] at hrd';obtain ⟨news,n1,n2,n3⟩:=hrd'.flat
  have e:Nat.min new.length n=(new.take n).length:=by rw [QH];exact Nat.min_comm _ _
  refine ⟨rfl,hrd'.wide,news,n1,?_,n3,zwz hrd'.wide n1 n3 (zv9 n h1)⟩;rw [e];exact run_firstCells_some w k _ ⟨B,o,none⟩ _ cap news n1 (λj v hj=>by rw [Ha];exact n2 j v hj)
theorem zyt{P:Program}{A m w st}(hR:R A m w st){t tx ty e:TypeId}{ti te:TI}(ht:Xf P t=some ti)(hte:ti.k=.slc e)(he:Xf P e=some te)
  {d s:AV} {dv sv:Value} (hd:V A m st.length w d dv) (hs:V A m st.length w s sv) {r:AV} {st':St} (h:zEh st te.size d s=some (r,st')):
  ∃v w' m',(Builtin.copy_ #[t,tx] ty #[dv,sv]).run P w=.ok v w'/\R A m' w' st'/\Xp A m st.length w A m' st'.length w'/\V A m' st'.length w' r v:=by
 obtain ⟨dd,i0,hdd,_,_,_,_,hdk,_⟩:=XY ht;rw [hte] at hdk;have:=UI hdk;subst this;have hso:=GJ w he;unfold zEh at h;split at h
 .rename_i l i n new hnew;split at h
  .rename_i k' els hl;split at h
   .rename_i hc;obtain ⟨rfl,hin,h1⟩:=hc;cases h;obtain ⟨hll,a,n',cap,rfl,hbk⟩:=hd.msl_inv;obtain ⟨b,hb1,hb2,hb3,hb4⟩:=hR.blk l _ els hl;obtain ⟨rfl,h5,h6⟩:=hbk b hb1;obtain ⟨q1,q2,news,q3,q4,q5,q6⟩:=zDl (P:=P) hR hnew hs h1 n'
    have run0:∀w',((match a with |some a=>storeCells a news |none=>pure ():Sem Unit).run P w=.ok () w') ->
      (Builtin.copy_ #[t,tx] ty #[.slice a n' cap,sv]).run P w=.ok (goInt (min new.length n':Nat)) w':=λw' hw'=>by
     cases a <;> simp_all [Builtin.copy_,run_underlying hdd]
    rcases h6 with rfl |⟨h6,hm6,rfl,h7⟩
    .have hn0:n'=0:=by omega
     subst hn0;have hnews:news=[]:=Qf (by rw [q3];simp);subst hnews
     have e:st.set l (some (te.size,B9 els i (new.take 0)))=st:=by
      apply List.ext_getElem?;intro q;by_cases hq:q=l
      .subst hq;rw [QP hll,hl];rfl
      .rw [QJ (Ne.symm hq)]
     rw [e];exact ⟨_,w,m,run0 w (by cases a <;> rfl),hR,Xp.refl _ _ _ _,.imm (.lit _)⟩
    .have hok:=(hb3 h6).cells hm6
     have hlt:(new.take n').length≤n':=by rw [QH];exact Nat.min_le_left _ _
     have hst:=R.storeRows hb1 h6 hm6 (new.take n') news i els w st hR hl hb2 (by omega) q2 q3 q5;have hfit:=hok.fit
     have htop:b.o+i*b.k+news.length≤b.top:=by
      have h8:(i+(new.take n').length)*b.k≤els.length*b.k:=QG _ (by omega);rw [Qz] at h8;rw [q3,<-hb2];omega
     have hrun:=run_storeCells_cells (P:=P) b.B (b.o+i*b.k) news 0 w
      (λq hq=>by obtain ⟨u,hu⟩:=hok.there (b.o+i*b.k+0+q) (by omega);simp only [hu];rfl)
      (λq hq=>Ok (hok.free _ (by omega))) q6
     simp only [Q6] at hrun;exact ⟨_,_,m,run0 _ hrun,hst.1,by simpa using hst.2,.imm (.lit _)⟩
   .cases h
  .cases h
 .cases h
def zGF:AV->Bool
 |.isl _ _=>true
 |.msl _ _ _=>true
 |.lit (.slice none 0 0)=>true
 |_=>false
theorem zyI{A m nb w}{s:AV}{v:Value}(h:zGF s=true)(hs:V A m nb w s v):∃a n cap,v=.slice a n cap:=by
 cases s with
 |isl k els =>
  cases hs.isl_inv with
  |isl=>exact ⟨_,_,_,rfl⟩
  |inil=>exact ⟨_,_,_,rfl⟩
 |msl l i n=>obtain ⟨_,a,n',cap,rfl,_⟩:=hs.msl_inv;exact ⟨_,_,_,rfl⟩
 |lit x =>
  rw [hs.lit_inv];simp only [zGF] at h;split at h
  .rename_i e;cases e
  .rename_i e;cases e
  .rename_i e;cases e;exact ⟨_,_,_,rfl⟩
  .cases h
 |_=>cases h
theorem zvO{P:Program}{A m w st}(hR:R A m w st){t e:TypeId}{ti te:TI}(ht:Xf P t=some ti)(hte:ti.k=.slc e)(he:Xf P e=some te)
  {s:AV} {sv:Value} (h:zGF s=true) (hs:V A m st.length w s sv) (ol:Option Value) (hol:ol=some (.int .i64 0)∨ol=none):
  ∃v w' m',(Instr.sliceAt t sv ol (some (.int .i64 0)) (some (.int .i64 0))).run P w=.ok v w'/\R A m' w' (st++[some (te.size,[])])/\Xp A m st.length w A m' (st++[some (te.size,[])]).length w' /\
   V A m' (st++[some (te.size,([]:List (List AV)))]).length w' (.msl st.length 0 0) v:=by
 obtain ⟨d,i0,hd,_,_,_,_,hdk,_⟩:=XY ht;rw [hte] at hdk;have:=UI hdk;subst this;have hso:=GJ w he;obtain ⟨a,n,cap,rfl⟩:=zyI h hs
 have hr:(Instr.sliceAt t (.slice a n cap) ol (some (.int .i64 0)) (some (.int .i64 0))).run P w=.ok (.slice a 0 0) w:=by
  rcases hol with rfl |rfl <;>
   simp [Instr.sliceAt,Instr.slice,run_underlying hd,Instr.sliceBounds,Instr.sliceBound,asIntOf,hso]
 have h:=hR.push (XK.refl w) ⟨false,0,0,te.size,0,false⟩ [] (λh=>by cases h) (λ_=>rfl)
  (λh=>by cases h) (λh=>by cases h) (λh=>by cases h) (λq hq=>by cases hq) (λh=>by cases h)
 refine ⟨_,_,m.put st.length (some ⟨false,0,0,te.size,0,false⟩),hr,?_⟩
 have hlen:(st++[some (te.size,([]:List (List AV)))]).length=st.length+1:=by simp
 rw [hlen];exact ⟨h.1,h.2,.msl _ _ _ _ _ _ (QN _) λb hb'=>⟨rfl,by simp,.inl rfl⟩⟩
def zEE(s:TypeId)(a b:TK):TypeId:=
 match a with
 |.slc e=>e
 |_=>match b with |.slc e=>e |_=>s
def zAE:AV->Option Nat
 |.lit (.int .i64 n)=>if 0≤n then some n.toNat else none
 |_=>none
def ZL(env:Ev)(dflt:Nat):Option Operand->Option Nat
 |none=>some dflt
 |some x=>match ev env x with |some v=>zAE v |none=>none
def zFr(s:List UInt8)(i:Int):Option AV:=
 if 0≤i then (s[i.toNat]?).map λb=>.lit (.int .u8 b.toNat) else none
def Dt(P:Program)(env:Ev)(st:St)(x:Operand)(t:TypeId):Option (AV×St):=
 match Xf P t,ev env x with
 |some ti,some v =>
  match v,ti.k with
  |.lit (.string s),.str=>some (.lit (.int .i64 s.data.toList.length),st)
  |.isl _ els,.slc _=>some (.lit (.int .i64 els.length),st)
  |.msl l _ n,.slc _=>match st[l]? with |some (some _)=>some (.lit (.int .i64 n),st) |_=>none
  |.lit (.slice none 0 0),.slc _=>some (.lit (.int .i64 0),st)
  |_,_=>none
 |_,_=>none
def Ij(P:Program)(env:Ev)(st:St)(s x:Operand)(t tx:TypeId):Option (AV×St):=
 match Xf P t,ev env s,ev env x,Xf P tx with
 |some ti,some sv,some xv,some tix =>
  match ti.k with
  |.slc e =>
   match Xf P e with
   |some te =>
    match DB st te.size sv with
    |some (old,st1) =>
     match tix.k,xv with
     |.slc _,xv =>
      match Ub st te.size xv with
      |some new=>if 0<te.size/\Kj new=true/\(old.length+new.length)*te.bytes≤140737488355328/\old.length+new.length≤9223372036854775807 then
        some (.msl st.length 0 (old.length+new.length),st1++[some (te.size,old++new)]) else none
      |none=>none
     |.str,.lit (.string u)=>if te.size=1/\(old.length+u.data.toList.length)*te.bytes≤140737488355328/\old.length+u.data.toList.length≤9223372036854775807 then
        some (.msl st.length 0 (old.length+u.data.toList.length),st1++[some (te.size,old++u.data.toList.map Zg)]) else none
     |_,_=>none
    |none=>none
   |none=>none
  |_=>none
 |_,_,_,_=>none
def zw3(env:Ev)(st:St)(x y:Operand):Option (AV×St):=
 match ev env x,ev env y with
 |some (.lit (.int k a)),some (.lit (.int _ b))=>some (.lit (.int k (if b<a then b else a)),st)
 |_,_=>none
def zB7(P:Program)(st:St)(t:TypeId)(a b:AV):Option (AV×St):=
 match Xf P t,a,b with
 |some ti,.lit (.int _ n),.lit (.int _ n') =>
  match ti.k with
  |.slc e =>
   match Xf P e with
   |some te=>if n=n'/\0≤n/\0<te.size/\n.toNat*te.size≤16777216/\(te.bytes:Int)*n≤281474976710656 then some (.msl st.length 0 n.toNat,st++[some (te.size,List.replicate n.toNat (X7 te.zero))]) else none
   |none=>none
  |_=>none
 |_,_,_=>none
def zv5(P:Program)(env:Ev)(st:St)(x y:Operand)(t:TypeId):Option (AV×St):=
 match Xf P t,ev env x,ev env y with
 |some ti,some d,some s =>
  match ti.k with
  |.slc e=>match Xf P e with |some te=>zEh st te.size d s |none=>none
  |_=>none
 |_,_,_=>none
def zzL(P:Program)(env:Ev)(st:St)(t:TypeId)(x:Operand)(lo:Option Operand)(hi mx:Operand):Option (AV×St):=
 match Xf P t,ev env x,ZL env 0 lo,ZL env 0 (some hi),ZL env 0 (some mx) with
 |some ti,some v,some 0,some 0,some 0 =>
  match ti.k with
  |.slc e=>match Xf P e with |some te=>if zGF v then some (.msl st.length 0 0,st++[some (te.size,[])]) else none |none=>none
  |_=>none
 |_,_,_,_,_=>none
def Hb(P:Program)(env:Ev)(st:St)(c:Call):Option (AV×St):=
 match c.callee,c.args.toList,c.argTypes.toList with
 |.builtin .len,[x],[t]=>Dt P env st x t
 |.builtin .append,[s,x],[t,tx]=>Ij P env st s x t tx
 |.builtin .min,[x,y],_=>zw3 env st x y
 |.builtin .copy,[x,y],[t,_]=>zv5 P env st x y t
 |_,_,_=>none
def zGb(op:BinOp)(b:Bool):Option AV:=match op with |.eql=>some (.lit (.bool b)) |.neq=>some (.lit (.bool (!b))) |_=>none
def zFI(k:TK)(st:St)(op:BinOp)(a b:AV):Option AV:=
 match k,a,b with
 |.slc _,.lit (.slice none 0 0),.lit (.slice none 0 0)=>match op with |.eql=>some (.lit (.bool true)) |.neq=>some (.lit (.bool false)) |_=>none
 |.slc _,.msl l _ n,.lit (.slice none 0 0)=>if 0<n then match st[l]?,op with |some (some _),.eql=>some (.lit (.bool false)) |some (some _),.neq=>some (.lit (.bool true)) |_,_=>none else none
 |.ptr _,.lit (.pointer none),.lit (.pointer none)=>zGb op true
 |.ptr _,.mpt l i j,.lit (.pointer none)=>match st[l]? with |some (some _)=>zGb op false |_=>none
 |.ptr _,.ipt _ _ _ _,.lit (.pointer none)=>zGb op false
 |_,_,_=>none
def Bz(st:St)(same:Bool)(ks ke:TK)(x:AV):Option (AV×St):=
 match same,ks,ke,x with
 |true,.slc _,.int .u8,.msl l i n=>if 0<n then match st[l]? with |some (some (1,_))=>some (.msl l i n,st) |_=>none else none
 |_,_,_,_=>none
def aop(P:Program)(env:Ev)(st:St):Op->Option (AV×St)
 |.move x |.assign x=>(ev env x).map λv=>(v,st)
 |.pick c a b =>
  match ev env c with
  |some (.lit (.bool true))=>(ev env a).map λv=>(v,st)
  |some (.lit (.bool false))=>(ev env b).map λv=>(v,st)
  |_=>none
 |.binOp op t x y _ =>
  match Xf P t,ev env x,ev env y with
  |some ti,some a,some b=>(match Up ti.k op a b with |some v=>some v |none=>match aeq P t op a b with |some v=>some v |none=>zFI ti.k st op a b).map λv=>(v,st)
  |_,_,_=>none
 |.unOp op _ x=>match ev env x with |some a=>(aun op a).map λv=>(v,st) |none=>none
 |.convert s d x =>
  match Xf P s,Xf P d,ev env x with
  |some is,some id,some v=>match Xf P (zEE s is.k id.k) with |some ie=>(match E8 st is.k id.k ie.k v with |some r=>some r |none=>Bz st (s == d) is.k ie.k v) |none=>none
  |_,_,_=>none
 |.extract t i=>match ev env t with |some (.tup vs)=>(vs[i]?).map λv=>(v,st) |_=>none
 |.alloc t=>match Xf P t with |some ti=>some (.mpt st.length 0 0,st++[some (ti.size,[X7 ti.zero])]) |none=>none
 |.box _ x=>match ev env x with |some v=>(UZ v).map λcs=>(.mpt st.length 0 0,st++[some (cs.length,[cs])]) |none=>none
 |.load t p=>match Xf P t,ev env p with |some ti,some v=>(Dq st ti v).map λr=>(r,st) |_,_=>none
 |.store t p x=>match Xf P t,ev env p,ev env x with |some ti,some pv,some xv=>(B5 st ti pv xv).map λs=>(.lit undef,s) |_,_,_=>none
 |.fieldAddr t x f=>match Xf P t,ev env x with |some ti,some v=>if Hv st v then (zw1 ti v f).map λr=>(r,st) else none |_,_=>none
 |.indexAddr t x ix =>
  match Xf P t,ev env x,ev env ix with
  |some ti,some v,some (.lit (.int _ i))=>match ti.k with |.slc e=>(match Xf P e with |some te=>(Du st te.size v i).map λr=>(r,st) |none=>none) |_=>none
  |_,_,_=>none
 |.index t x ix =>
  match Xf P t,ev env x,ev env ix with
  |some ti,some (.lit (.string s)),some (.lit (.int _ i))=>match ti.k with |.str=>(zFr s.data.toList i).map λr=>(r,st) |_=>none
  |some ti,some (.agg cs),some (.lit (.int _ i))=>match ti.k with |.arr n e=>(match Xf P e with |some te=>(zGT te cs n i).map λr=>(r,st) |none=>none) |_=>none
  |_,_,_=>none
 |.slice t x lo hi none =>
  match Xf P t,ev env x with
  |some ti,some v =>
   match ti.k,UD v with
   |.slc e,some n =>
    match Xf P e,ZL env 0 lo,ZL env n hi with
    |some te,some l,some h=>(Wq st te.size v l h).map λr=>(r,st)
    |_,_,_=>none
   |.str,some n =>
    match v,ZL env 0 lo,ZL env n hi with
    |.lit (.string s),some l,some h=>if l≤h/\h≤n then some (.lit (.string ⟨⟨(s.data.toList.drop l).take (h-l)⟩⟩),st) else none
    |_,_,_=>none
   |_,_=>none
  |_,_=>none
 |.build t ps =>
  match Xf P t,HH env ps.toList with
  |some ti,some parts =>
   match ti.k with
   |.agg pl=>(Wt pl (X7 ti.zero) parts).map λr=>(.agg r,st)
   |.arr n e=>match Xf P e with |some te=>(Wt ((List.range n).map λi=>(i*te.size,te.size)) (X7 ti.zero) parts).map λr=>(.agg r,st) |none=>none
   |_=>none
  |_,_=>none
 |.buildSlice t len ps =>
  match Xf P t,HH env ps.toList with
  |some ti,some parts =>
   match ti.k with
   |.slc e =>
    match Xf P e with
    |some te=>if 0<te.size/\len*te.size≤16777216 then (BO te.size (List.replicate len (X7 te.zero)) parts).map λr=>(.msl st.length 0 len,st++[some (te.size,r)]) else none
    |none=>none
   |_=>none
  |_,_=>none
 |.nilCheck x=>match ev env x with |some v=>if Hv st v then some (v,st) else none |none=>none
 |.makeFunc (.func f) first caps=>match Dz env first.toList,Dz env caps.toList with |some a,some b=>some (.fn (.func f) a b,st) |_,_=>none
 |.field t x f=>match ev env x with |some v=>(afv P t f v).map λr=>(r,st) |none=>none
 |.makeMap t none=>match Gy P t with |some _=>some (.mmp st.length,st++[some (2,[])]) |none=>none
 |.mapUpdate t m k x =>
  match ev env m,ev env k,ev env x with
  |some mv,some (.lit (.string s)),some xv=>(zts P st t mv s xv).map λs=>(.lit undef,s)
  |_,_,_=>none
 |.lookup t m k ok =>
  match ev env m,ev env k with
  |some mv,some (.lit (.string s))=>(WL P st t mv s.data.toList ok).map λr=>(r,st)
  |_,_=>none
 |.makeSlice t l c =>
  match ev env l,ev env c with
  |some a,some b=>zB7 P st t a b
  |_,_=>none
 |.call c=>Hb P env st c
 |.slice t x lo (some hi) (some mx)=>zzL P env st t x lo hi mx
 |_=>none
theorem zAF{v:AV}{n:Nat}(h:zAE v=some n):v=.lit (.int .i64 n):=by
 unfold zAE at h;split at h
 .rename_i q;split at h
  .rename_i hq;cases h;rw [Int.toNat_of_nonneg hq]
  .cases h
 .cases h
theorem Oo{A m nb w n env a}(hE:Env A m nb w n env a){d q:Nat}{x:Option Operand}(h:ZL env d x=some q):x.map a.eval=some (.int .i64 q)∨(x.map a.eval=none/\q=d):=by
 cases x with
 |none=>simp [ZL] at h;exact .inr ⟨rfl,h.symm⟩
 |some y =>
  simp only [ZL] at h;split at h
  .rename_i v hv;have h1:=zV hE hv;rw [zAF h] at h1;exact .inl (by simp [h1.lit_inv])
  .cases h
theorem zx5{P:Program}{A m w st}{k:Nat}{tx:TypeId}{tix:TI}{e':TypeId}{xv:AV}{x:Value}{new:List (List AV)}(hR:R A m w st)(ht:Xf P tx=some tix)(hk:tix.k=.slc e')
  (hr:Ub st k xv=some new) (hx:V A m st.length w xv x) (h1:Kj new=true):zGA A m st.length w P k tx x new:=by
 obtain ⟨d,i0,hd,_,_,_,_,hdk,_⟩:=XY ht;rw [hk] at hdk;have:=UI hdk;subst this
 rcases zqp hR hr hx with ⟨rfl,a,cap,rfl⟩ |⟨B,o,cap,rfl,hcap,hrd⟩
 .refine ⟨λi hi=>by simp at hi,[],?_,λi hi=>by simp at hi⟩
  cases a with
  |none=>exact Src.ofNil w hd cap
  |some a=>exact Src.ofSlice w hd a 0 cap [] (by simp) (λj u hu=>by cases hu) (λu hu=>by cases hu)
 .obtain ⟨news,n1,n2,n3⟩:=hrd.flat;refine ⟨hrd.wide,news,Src.ofSlice w hd _ _ cap news n1 (λj u hu=>by rw [Ha];exact n2 j u hu) (λu hu=>?_),n3⟩;obtain ⟨q,hq,rfl⟩:=List.mem_iff_getElem.1 hu
  have hk0:0<k:=by
   rcases Q8 k with h |h
   .subst h;rw [n1] at hq;omega
   .exact h
  rw [n1] at hq
  have hi:q / k<new.length:=by rw [JX hk0];exact hq
  have hj:q % k<new[q / k].length:=by rw [hrd.wide _ hi];exact Nat.mod_lt _ hk0
  have h4:=n3 (q / k) hi (q % k) hj
  have h5:q / k*k+q % k=q:=by rw [Yb];exact J7 q k
  rw [h5,Qi,Qe (by rw [n1];exact hq),QY] at h4;refine h4.one ?_;simp only [Kj,Ql] at h1;exact h1 _ (Qh hi) _ (Qh hj)
theorem zFo{P:Program}{A m w st}{tx:TypeId}{tix:TI}(s:ByteArray)(ht:Xf P tx=some tix)(hk:tix.k=.str):zGA A m (List.length (α:=Option (Nat×List (List AV))) st) w P 1 tx (.string s) (s.data.toList.map Zg):=by
 obtain ⟨d,i0,hd,_,_,_,_,hdk,_⟩:=XY ht;rw [hk] at hdk;have:=Dv hdk;subst this;refine ⟨λi hi=>by simp [Zg],byteCells s,?_,λi hi j hj=>?_⟩
 .have:=Src.ofString w hd s
  have e:(s.data.toList.map Zg).length=s.size:=by simp
  rw [e];exact this
 .have hi':i<s.data.toList.length:=by simpa using hi
  have h3:(List.map Zg s.data.toList)[i]=Zg s.data.toList[i]:=by simp
  have hj0:j=0:=by simp [h3,Zg] at hj;exact hj
  subst hj0;simp only [h3,Zg,Jb]
  have e:(byteCells s).getD (i*1+0) undef=.int .u8 s.data.toList[i].toNat:=by
   have h8:i<s.data.size:=by simpa using hi'
   simp [byteCells,Qi];rw [QE h8];rfl
  rw [e];exact .imm (.lit _)
theorem zi9(ρ:Operand->Value)(o:Oper)(b:Builtin)(args:Array Operand)(at_:Array TypeId)(ho:o.op=.call { callee:=.builtin b,args:=args,argTypes:=at_ })(P:Program)(w:World):
  ∃cs,(execOp ρ o).run P w=(builtin b at_ o.type cs (args.map ρ)).run P w:=by
 refine ⟨args.map fun |.const _=>true |_=>false,?_⟩
 .simp only [execOp,ho,resolve,Sem.run_bind,Sem.run_pure,Result.andThen_ok,invoke];rfl
theorem HE{P:Program}{A m w st}{s:Sem Value}{av:AV}{st':St}(h:∃v w' m',s.run P w=.ok v w'/\R A m' w' st'/\Xp A m st.length w A m' st'.length w'/\V A m' st'.length w' av v):
  Ht P A m w st ((do pure (.value (<-s)):Sem Next).run P w) av st':=by
 obtain ⟨v,w',m',h1,h2,h3,h4⟩:=h;exact ⟨.value v,v,w',m',by simp [h1],.inl rfl,h2,h3,h4⟩
theorem Uz{P:Program}{A m w st}{s:Sem Value}{av:AV}(hR:R A m w st)(h:∃v,s.run P w=.ok v w/\V A m st.length w av v):
  Ht P A m w st ((do pure (.value (<-s)):Sem Next).run P w) av st:=by
 obtain ⟨v,h1,h4⟩:=h;exact HE ⟨v,w,m,h1,hR,Xp.refl _ _ _ _,h4⟩
theorem map_some{α β:Type}{f:α->β}{o:Option α}{y:β}(h:o.map f=some y):∃x,o=some x/\f x=y:=by
 cases o with
 |none=>cases h
 |some x=>exact ⟨x,rfl,Option.some.inj h⟩
theorem zvd{P:Program}{A m w st n env a}{dst:Option Tmp}{ty:TypeId}{pos:String}{after:Array Edge}{guard:Option (Nat×Bool)}{x:Operand}{t:TypeId}{av:AV}{st':St}(hR:R A m w st)(hE:Env A m st.length w n env a)
  (h:Dt P env st x t=some (av,st')):Ht P A m w st ((execOp a.eval { dst:=dst,op:=.call { callee:=.builtin .len,args:=#[x],argTypes:=#[t] },type:=ty,pos:=pos,after:=after,guard:=guard }).run P w) av st':=by
 obtain ⟨cs,hrun⟩:=zi9 a.eval { dst:=dst,op:=.call { callee:=.builtin .len,args:=#[x],argTypes:=#[t] },type:=ty,pos:=pos,after:=after,guard:=guard } .len #[x] #[t] rfl P w;rw [hrun];unfold Dt at h;split at h
 .rename_i ti v ht hv;have hv':=zV hE hv
  have go:∀(q:Nat),(Builtin.len_ #[t] ty #[a.eval x]).run P w=.ok (goInt q) w->Ht P A m w st ((builtin .len #[t] ty cs (#[x].map a.eval)).run P w) (.lit (.int .i64 q)) st:=λq hq=>by
   refine ⟨.value (goInt q),goInt q,w,m,?_,.inl rfl,hR,Xp.refl _ _ _ _,.imm (.lit _)⟩;simp [builtin,hq]
  split at h
  .rename_i s hk;cases h;exact go _ (zxS ht (.inr hk) hv' (by simp [UD]) (λl i n e=>by cases e) ⟨λ_=>hk,λ_=>⟨s,rfl⟩⟩)
  .rename_i k els e hk;cases h;exact go _ (zxS ht (.inl ⟨e,hk⟩) hv' rfl (λl i n e=>by cases e) ⟨(λ⟨s,e⟩=>(by cases e)),(λe=>(by rw [hk] at e;cases e))⟩)
  .rename_i l i q e hk;split at h
   .rename_i kk hl;cases h;refine go _ (zxS ht (.inl ⟨e,hk⟩) hv' rfl (λl' i' n' e=>?_) ⟨(λ⟨s,e⟩=>(by cases e)),(λe=>(by rw [hk] at e;cases e))⟩);cases e;obtain ⟨k2,els⟩:=kk;obtain ⟨b,h1,_⟩:=hR.blk l k2 els hl;exact ⟨b,h1⟩
   .cases h
  .rename_i e hk;cases h;exact go 0 (zxS ht (.inl ⟨e,hk⟩) hv' rfl (λl i n e=>by cases e) ⟨(λ⟨s,e⟩=>(by cases e)),(λe=>(by rw [hk] at e;cases e))⟩)
  .cases h
 .cases h
theorem zuP{P:Program}{A m w st n env a}{dst:Option Tmp}{ty:TypeId}{pos:String}{after:Array Edge}{guard:Option (Nat×Bool)}{s x:Operand}{t tx:TypeId}{av:AV}{st':St}(hR:R A m w st)(hE:Env A m st.length w n env a)
  (h:Ij P env st s x t tx=some (av,st')):Ht P A m w st ((execOp a.eval { dst:=dst,op:=.call { callee:=.builtin .append,args:=#[s,x],argTypes:=#[t,tx] },type:=ty,pos:=pos,after:=after,guard:=guard }).run P w) av st':=by
 obtain ⟨cs,hrun⟩:=zi9 a.eval { dst:=dst,op:=.call { callee:=.builtin .append,args:=#[s,x],argTypes:=#[t,tx] },type:=ty,pos:=pos,after:=after,guard:=guard } .append #[s,x] #[t,tx] rfl P w;rw [hrun];unfold Ij at h;split at h
 .rename_i ti sv xv tix ht hs hx htx;split at h
  .rename_i e hk;split at h
   .rename_i te he;split at h
    .rename_i old st1 hb
     have fin:(∃v w' m',(Builtin.append_ #[t,tx] ty #[a.eval s,a.eval x]).run P w=.ok v w'/\R A m' w' st'/\Xp A m st.length w A m' st'.length w'/\V A m' st'.length w' av v) ->
       Ht P A m w st ((builtin .append #[t,tx] ty cs (#[s,x].map a.eval)).run P w) av st':=λ⟨v,w',m',h1,h2,h3,h4⟩ =>
      ⟨.value v,v,w',m',by simp [builtin,h1],.inl rfl,h2,h3,h4⟩
     split at h
     .rename_i e' hk2;split at h
      .rename_i new hr;split at h
       .rename_i hc;cases h;exact fin (zqz hR ht hk he hc.1 (zV hE hs) hb (zx5 hR htx hk2 hr (zV hE hx) hc.2.1) hc.2.2.1 hc.2.2.2)
       .cases h
      .cases h
     .rename_i u hk2;split at h
      .rename_i hc;cases h;have e2:=(zV hE hx).lit_inv
       have hl:(u.data.toList.map Zg).length=u.data.toList.length:=by simp
       have h9:=zqz (P:=P) (ty:=ty) (tx:=tx) hR ht hk he (by rw [hc.1];decide) (zV hE hs) hb (x:=a.eval x) (new:=u.data.toList.map Zg) (by rw [e2,hc.1];exact zFo u htx hk2)
        (by rw [hl];exact hc.2.1) (by rw [hl];exact hc.2.2)
       rw [hl] at h9;exact fin h9
      .cases h
     .cases h
    .cases h
   .cases h
  .cases h
 .cases h
set_option maxHeartbeats 1000000 in
theorem IL{P:Program}(op:BinOp)(t:TypeId)(x y:Operand)(a b:Option Addr)(n1 n2 c1 c2:Nat)(w:World):(eqGuard op t x y (.slice a n1 c1) (.slice b n2 c2)).run P w=.ok () w:=by
 unfold eqGuard;simp
theorem zn9{P:Program}{w:World}{t:TypeId}{e:TypeId}(hd:P.underlying t=some (.slice e))(a:Option Addr)(n c:Nat):(Op.equal t (.slice a n c) (.slice none 0 0)).run P w=.ok a.isNone w:=by
 have key:∀d,(Op.equalIn (d+1) t (.slice a n c) (.slice none 0 0)).run P w=.ok a.isNone w:=λd=>by
  rw [Op.equalIn];cases a <;> simp [run_underlying hd]
 exact key 9999
theorem zu0{P:Program}(op:BinOp)(t:TypeId)(x y:Operand)(a b:Option Addr)(w:World):(eqGuard op t x y (.pointer a) (.pointer b)).run P w=.ok () w:=by
 unfold eqGuard;simp
theorem zza{P:Program}{w:World}{t e:TypeId}(hd:P.underlying t=some (.pointer e))(a:Option Addr):(Op.equal t (.pointer a) (.pointer none)).run P w=.ok a.isNone w:=by
 have key:∀d,(Op.equalIn (d+1) t (.pointer a) (.pointer none)).run P w=.ok a.isNone w:=λd=>by
  rw [Op.equalIn];cases a <;> simp [run_underlying hd]
 exact key 9999
theorem zBH{P d e}(h:ZR P d=.ptr e):d=.pointer e:=by
 cases d <;> simp only [ZR] at h
 case pointer=>cases h;rfl
 case struct=>split at h <;> cases h
 all_goals cases h
theorem zqf{P:Program}{A m nb}{w:World}{t e:TypeId}{op:BinOp}{x y:Operand}{r:AV}(hd:P.underlying t=some (.pointer e))(a:Option Addr){b:Bool}(hb:a.isNone=b)(h:zGb op b=some r):
  ∃v,(do eqGuard op t x y (.pointer a) (.pointer none);binOp op t (.pointer a) (.pointer none):Sem Value).run P w=.ok v w/\V A m nb w r v:=by
 have e1:=zza (P:=P) (w:=w) hd a;subst hb;unfold zGb at h;split at h
 .cases h;exact ⟨_,by simp only [Sem.run_bind,zu0,Result.andThen_ok,binOp,e1];rfl,.imm (.lit _)⟩
 .cases h;exact ⟨_,by simp only [Sem.run_bind,zu0,Result.andThen_ok,binOp,e1];rfl,.imm (.lit _)⟩
 .cases h
theorem zyo{P:Program}{A m w st}{t:TypeId}{ti:TI}{op:BinOp}{x y:Operand}{av bv r:AV}{a b:Value}(hR:R A m w st)(ht:Xf P t=some ti)(ha:V A m st.length w av a)(hb:V A m st.length w bv b)
  (h:zFI ti.k st op av bv=some r):∃v,(do eqGuard op t x y a b;binOp op t a b:Sem Value).run P w=.ok v w/\V A m st.length w r v:=by
 obtain ⟨d,i0,hd,_,_,_,_,hdk,_⟩:=XY ht;unfold zFI at h;split at h
 .rename_i e hk;rw [hk] at hdk;have hdd:=UI hdk;subst hdd;have ea:=ha.lit_inv;have eb:=hb.lit_inv;subst ea;subst eb;have e1:=zn9 (w:=w) hd none 0 0;split at h
  .cases h;exact ⟨_,by simp only [Sem.run_bind,IL,Result.andThen_ok,binOp,e1];rfl,.imm (.lit _)⟩
  .cases h;exact ⟨_,by simp only [Sem.run_bind,IL,Result.andThen_ok,binOp,e1];rfl,.imm (.lit _)⟩
  .cases h
 .rename_i e l i n hk;rw [hk] at hdk;have hdd:=UI hdk;subst hdd;have eb:=hb.lit_inv;subst eb;split at h
  .rename_i hn;obtain ⟨hl,a',n',cap,rfl,hb'⟩:=ha.msl_inv;split at h
   .rename_i q hq;obtain ⟨kk,els⟩:=q;obtain ⟨b,h1,h2,h3,h4⟩:=hR.blk l kk els hq;obtain ⟨rfl,hcap,hc⟩:=hb' b h1
    rcases hc with h5 |⟨h6,hm6,rfl,hfit⟩
    .omega
    .cases h;have e1:=zn9 (w:=w) hd (some ⟨b.B,b.o+i*b.k,none⟩) n' cap;exact ⟨_,by simp only [Sem.run_bind,IL,Result.andThen_ok,binOp,e1];rfl,.imm (.lit _)⟩
   .rename_i q hq;obtain ⟨kk,els⟩:=q;obtain ⟨b,h1,h2,h3,h4⟩:=hR.blk l kk els hq;obtain ⟨rfl,hcap,hc⟩:=hb' b h1
    rcases hc with h5 |⟨h6,hm6,rfl,hfit⟩
    .omega
    .cases h;have e1:=zn9 (w:=w) hd (some ⟨b.B,b.o+i*b.k,none⟩) n' cap;exact ⟨_,by simp only [Sem.run_bind,IL,Result.andThen_ok,binOp,e1];rfl,.imm (.lit _)⟩
   .cases h
  .cases h
 .rename_i e hk;rw [hk] at hdk;have hdd:=zBH hdk;subst hdd;rw [ha.lit_inv,hb.lit_inv];exact zqf hd none rfl h
 .rename_i e l i j hk;rw [hk] at hdk;have hdd:=zBH hdk;subst hdd;rw [hb.lit_inv];split at h
  .rename_i q hq;obtain ⟨kk,els⟩:=q;obtain ⟨hl,a',rfl,hb'⟩:=ha.mpt_inv;obtain ⟨b,h1,h2,h3,h4⟩:=hR.blk l kk els hq;obtain ⟨h6,hm6,rfl⟩:=hb' b h1;exact zqf hd _ rfl h
  .cases h
 .rename_i e k els i j hk;rw [hk] at hdk;have hdd:=zBH hdk;subst hdd;rw [hb.lit_inv]
  cases ha.ipt_inv with
  |ipt _ _ _ _ B o vs hA hk hc hv=>exact zqf hd _ rfl h
 .cases h
theorem zyP{P:Program}{A m w st}{t:TypeId}{a b av:AV}{x y:Value}{st':St}(hR:R A m w st)(ha:V A m st.length w a x)(hb:V A m st.length w b y)(h:zB7 P st t a b=some (av,st')):
  ∃v w' m',(Instr.makeSlice t x y).run P w=.ok v w'/\R A m' w' st'/\Xp A m st.length w A m' st'.length w'/\V A m' st'.length w' av v:=by
 unfold zB7 at h;split at h
 case h_2=>cases h
 rename_i ti kl n kc n' ht;split at h
 case h_2=>cases h
 rename_i e hk;split at h
 case h_2=>cases h
 rename_i te he;split at h
 case isFalse=>cases h
 rename_i hc;obtain ⟨rfl,h0,hs1,hn,hbytes⟩:=hc;cases h;obtain ⟨d,i0,hd,_,_,_,_,hdk,_⟩:=XY ht;rw [hk] at hdk;have:=UI hdk;subst this;obtain ⟨d2,i,_,hi,hz,hsz,hby,_,hzs⟩:=XY he;rw [ha.lit_inv,hb.lit_inv]
 have hN:n≤16777216:=by
  have:n.toNat*1≤n.toNat*te.size:=Nat.mul_le_mul_left _ hs1;omega
 have hrun:=run_makeSlice (P:=P) w t e i te.zero hd hi hz kl kc n n h0 (Int.le_refl _) (by rw [hsz];exact hn) (by rw [hby];exact hbytes) (by omega)
 have hcl:(X7 te.zero).length=te.size:=by simp [X7,hzs]
 have hg:=XK.alloc w (.cells (madeCells te.zero.cells (n.toNat*i.size)) e)
 have hcs:(madeCells te.zero.cells (n.toNat*i.size)).size=n.toNat*te.size:=by rw [size_madeCells,hsz]
 have hcell:∀off,off<n.toNat*te.size->(w.alloc (.cells (madeCells te.zero.cells (n.toNat*i.size)) e)).cell? ⟨w.heap.size,off,none⟩=some (te.zero.cells[off % te.size]!):=λoff ho=>by
  have hh:(w.alloc (.cells (madeCells te.zero.cells (n.toNat*i.size)) e)).heap[w.heap.size]?=some (.cells (madeCells te.zero.cells (n.toNat*i.size)) e):=by
   show (w.heap.push _)[w.heap.size]?=_;simp
  simp only [World.cell?,hh];unfold madeCells;rw [hsz,hzs];simp [ho]
 have hp:=hR.push hg ⟨true,w.heap.size,0,te.size,n.toNat*te.size,false⟩ (List.replicate n.toNat (X7 te.zero)) (λ_=>⟨Qk _,by simp⟩) (λh=>by cases h)
  (λ_ off ho=>⟨_,hcell off ho⟩) (λ_ off ho=>I7 _ _ _) (λ_=>by simp) (λq hq=>by rw [List.getElem_replicate];exact hcl)
  (λ_ q hq j hj=>by
   have hq':q<n.toNat:=by simpa using hq
   simp only [List.getElem_replicate] at hj ⊢
   have hj':j<te.size:=by rw [<-hcl];exact hj
   have hlt:q*te.size+j<n.toNat*te.size:=by
    have h1:(q+1)*te.size≤n.toNat*te.size:=QG _ hq';rw [Nat.succ_mul] at h1;omega
   have hm:(q*te.size+j) % te.size=j:=by rw [Yb,Nat.mul_add_mod];exact Nat.mod_eq_of_lt hj'
   have hzj:j<te.zero.cells.size:=by rw [hzs];exact hj'
   refine ⟨te.zero.cells[j],by
    have:=hcell (q*te.size+j) hlt;rw [hm,getElem!_pos te.zero.cells j hzj] at this
    simpa using this,?_⟩
   have e1:(X7 te.zero)[j]=.lit te.zero.cells[j]:=by simp [X7]
   rw [e1]
   exact .imm (.lit _))
 refine ⟨_,_,_,hrun,hp.1,by simpa using hp.2,.msl _ _ _ _ _ _ (by simp) λb hb=>?_⟩;simp [BM.put] at hb;subst hb;exact ⟨rfl,Qk _,.inr ⟨rfl,rfl,by simp,by simp⟩⟩
theorem R.freeze{A:Am}{m:BM}{w:World}{st:St}(hR:R A m w st){l k:Nat}{els:List (List AV)}(hl:st[l]?=some (some (k,els))){b:Blk}(hb:m l=some b)(hh:b.has=true){e:TypeId}{c:Nat}(hsh:w.shape? b.B=some (e,c)):
  R A m (w.freeze ⟨b.B,c,none⟩ 1) st/\Xp A m st.length w A m st.length (w.freeze ⟨b.B,c,none⟩ 1):=by
 have hok:=(hR.at hb hl).2.1 hh
 obtain ⟨C,lo,hi,hO,rfl⟩:∃C lo hi,w.heap[b.B]?=some (.cells C e (lo,hi))/\C.size=c:=by
  unfold World.shape? at hsh;split at hsh
  .rename_i C e' mk hq;cases hsh;exact ⟨C,mk.1,mk.2,hq,rfl⟩
  .cases hsh
 have hos:(w.freeze ⟨b.B,C.size,none⟩ 1).os=w.os/\(w.freeze ⟨b.B,C.size,none⟩ 1).tape=w.tape/\(w.freeze ⟨b.B,C.size,none⟩ 1).output=w.output:=by
  unfold World.freeze;rw [if_neg (by decide)];exact ⟨rfl,rfl,rfl⟩
 have hsz:(w.freeze ⟨b.B,C.size,none⟩ 1).heap.size=w.heap.size:=by
  unfold World.freeze;rw [if_neg (by decide)];show (w.heap.modify _ _).size=_;simp
 have hne:∀B,B≠b.B->(w.freeze ⟨b.B,C.size,none⟩ 1).heap[B]?=w.heap[B]?:=λB h=>by
  unfold World.freeze;rw [if_neg (by decide)];show (w.heap.modify _ _)[B]?=_;rw [Jc,if_neg (Ne.symm h)]
 have hat:(w.freeze ⟨b.B,C.size,none⟩ 1).heap[b.B]?=some (.cells C e (if lo == hi then (C.size,C.size+1) else (min lo C.size,max hi (C.size+1)))):=by
  unfold World.freeze;rw [if_neg (by decide)];show (w.heap.modify _ _)[b.B]?=_;rw [Jc,if_pos rfl,hO];rfl
 have hcell:∀B off,(w.freeze ⟨b.B,C.size,none⟩ 1).cell? ⟨B,off,none⟩=w.cell? ⟨B,off,none⟩:=λB off=>by
  by_cases h:B=b.B
  .subst h;simp only [World.cell?,hat,hO]
  .simp only [World.cell?,hne B h]
 have hS:Xp A m st.length w A m st.length (w.freeze ⟨b.B,C.size,none⟩ 1):=
  ⟨Qk _,by rw [hsz];exact Qk _,λ_ _ h=>h,λ_ _ h=>.inl h,λ_ _=>.inl rfl,λl b h hh=>.inr ⟨l,b,h,hh,rfl⟩,
   λB _ ho=>hne B (λe=>ho l b hb hh e.symm),hos.1,hos.2.1,hos.2.2⟩
 refine ⟨⟨λB k hB=>by rw [hsz];exact hR.aLow B k hB,hR.aOwn,hR.aFun,by rw [hsz];exact hR.nLe,hR.nOwn,hR.inj,hR.live,λl' k' els' he=>?_⟩,hS⟩;obtain ⟨b',h1,h2,h3,h4⟩:=hR.blk l' k' els' he;refine ⟨b',h1,h2,λhh'=>?_,h4⟩;have ho:=h3 hh'
 refine ⟨by rw [hsz];exact ho.low,λhm off h=>by rw [hcell];exact ho.there hm off h,λhm off h=>?_,ho.fit,ho.wide,λhm i hi j hj=>by
  obtain ⟨v,h5,h6⟩:=ho.val hm i hi j hj
  exact ⟨v,by rw [hcell];exact h5,h6.step hR hS⟩,λhm=>by
  obtain ⟨h0,es,clock,h5,h6,h7⟩:=ho.mval hm;refine ⟨h0,es,clock,?_,h6,λi hi j hj=>(h7 i hi j hj).step hR hS⟩;by_cases hB:b'.B=b.B
  .rw [hB,hO] at h5;cases h5
  .rw [hne _ hB];exact h5⟩
 by_cases hB:b'.B=b.B
 .have hfr:=ho.free hm off h;obtain ⟨v,hv⟩:=ho.there hm off h;rw [hB] at hfr hv ⊢
  have hlt:off<C.size:=by
   simp only [World.cell?,hO] at hv
   rcases JI off C.size with h7 |h7
   .exact h7
   .simp [Array.getElem?_eq_none h7] at hv
  simp only [fz,hO] at hfr;by_cases e:lo=hi
  .subst e;simp only [fz,hat,beq_self_eq_true,if_true];simp;omega
  .have e2:(lo == hi)=false:=beq_eq_false_iff_ne.2 e;rw [e2] at hfr;simp only [fz,hat,e2,JA,if_false];simp at hfr ⊢;omega
 .have hfr:=ho.free hm off h;simp only [fz,hne _ hB];exact hfr
theorem zz3{P:Program}{A m w st}{s e:TypeId}{is ie:TI}{x av:AV}{xv:Value}{st'}(hR:R A m w st)(hs:Xf P s=some is)(hk:is.k=.slc e)(he:Xf P e=some ie)
  (hx:V A m st.length w x xv) (h:Bz st true is.k ie.k x=some (av,st')):
  ∃v w' m',(convert s s xv).run P w=.ok v w'/\R A m' w' st'/\Xp A m st.length w A m' st'.length w'/\V A m' st'.length w' av v:=by
 obtain ⟨ds,_,hds,_,_,_,_,hdsk,_⟩:=XY hs;obtain ⟨de,_,hde,_,_,_,_,hdek,_⟩:=XY he;rw [hk] at hdsk;have h1:=UI hdsk;subst h1;unfold Bz at h;split at h
 .rename_i e2 l i n _ hk2 hk3;rw [hk3] at hdek;have h2:=zyb hdek;subst h2;split at h
  .rename_i hn;split at h
   .rename_i els hq;cases h;have hx0:=hx;obtain ⟨hl,a,n',cap,rfl,hb'⟩:=hx.msl_inv;obtain ⟨b,h1,h2,h3,h4⟩:=hR.blk l 1 els hq;obtain ⟨rfl,hcap,hc⟩:=hb' b h1
    rcases hc with h5 |⟨h6,hm6,rfl,hfit⟩
    .omega
    .have hok:=(h3 h6).cells hm6
     have hsh:∃e c,w.shape? b.B=some (e,c):=by
      rw [h2,Yn] at hfit;obtain ⟨v,hv⟩:=hok.there 0 (by omega);unfold World.cell? at hv;unfold World.shape?;split at hv
      .rename_i C e' mk hO;simp only at hO;rw [hO];exact ⟨_,_,rfl⟩
      .cases hv
     obtain ⟨e',c,hsh⟩:=hsh;obtain ⟨k1,k2⟩:=hR.freeze hq h1 h6 hsh;refine ⟨_,_,m,?_,k1,k2,hx0.step hR k2⟩;simp [convert,run_underlying hds,run_underlying hde,markStringish,hsh]
   .cases h
  .cases h
 .cases h
theorem zvj{P:Program}{A m w st n env a}{dst:Option Tmp}{ty:TypeId}{pos:String}{after:Array Edge}{guard:Option (Nat×Bool)}{x y:Operand}{ats:Array TypeId}{av:AV}{st':St}(hR:R A m w st)(hE:Env A m st.length w n env a)
  (h:zw3 env st x y=some (av,st')):Ht P A m w st ((execOp a.eval { dst:=dst,op:=.call { callee:=.builtin .min,args:=#[x,y],argTypes:=ats },type:=ty,pos:=pos,after:=after,guard:=guard }).run P w) av st':=by
 obtain ⟨cs,hrun⟩:=zi9 a.eval { dst:=dst,op:=.call { callee:=.builtin .min,args:=#[x,y],argTypes:=ats },type:=ty,pos:=pos,after:=after,guard:=guard } .min #[x,y] ats rfl P w;rw [hrun];unfold zw3 at h;split at h
 .rename_i k p k' q hp hq;cases h;have e1:=(zV hE hp).lit_inv;have e2:=(zV hE hq).lit_inv;refine ⟨.value (.int k (if q<p then q else p)),_,w,m,?_,.inl rfl,hR,Xp.refl _ _ _ _,.imm (.lit _)⟩;simp [builtin,Builtin.min_,Builtin.min2,e1,e2]
 .cases h
theorem ztB{P:Program}{A m w st n env a}{dst:Option Tmp}{ty:TypeId}{pos:String}{after:Array Edge}{guard:Option (Nat×Bool)}{x y:Operand}{t tx:TypeId}{av:AV}{st':St}(hR:R A m w st)(hE:Env A m st.length w n env a)
  (h:zv5 P env st x y t=some (av,st')):Ht P A m w st ((execOp a.eval { dst:=dst,op:=.call { callee:=.builtin .copy,args:=#[x,y],argTypes:=#[t,tx] },type:=ty,pos:=pos,after:=after,guard:=guard }).run P w) av st':=by
 obtain ⟨cs,hrun⟩:=zi9 a.eval { dst:=dst,op:=.call { callee:=.builtin .copy,args:=#[x,y],argTypes:=#[t,tx] },type:=ty,pos:=pos,after:=after,guard:=guard } .copy #[x,y] #[t,tx] rfl P w;rw [hrun];unfold zv5 at h;split at h
 .rename_i ti d s ht hd hs;split at h
  .rename_i e hk;split at h
   .rename_i te he;obtain ⟨v,w',m',h1,h2,h3,h4⟩:=zyt (P:=P) (tx:=tx) (ty:=ty) hR ht hk he (zV hE hd) (zV hE hs) h;exact ⟨.value v,v,w',m',by simp [builtin,h1],.inl rfl,h2,h3,h4⟩
   .cases h
  .cases h
 .cases h
theorem zw9{A m nb w n env a}(hE:Env A m nb w n env a){q:Nat}{y:Operand}(h:ZL env 0 (some y)=some q):a.eval y=.int .i64 q:=by
 rcases Oo hE h with h3 |⟨h3,_⟩
 .simpa using h3
 .cases h3
theorem zuN{P:Program}{A m w st n env a}{o:Oper}{av:AV}{st':St}(hR:R A m w st)(hE:Env A m st.length w n env a)(h:aop P env st o.op=some (av,st')):
  Ht P A m w st ((execOp a.eval o).run P w) av st':=by
 obtain ⟨dst,op,ty,pos,after,guard⟩:=o;simp only at h;unfold aop at h;split at h
 .obtain ⟨x,h1,h2⟩:=map_some h;cases h2;exact zvr hR (zV hE h1)
 .obtain ⟨x,h1,h2⟩:=map_some h;cases h2;exact zvr hR (zV hE h1)
 .rename_i c x y;split at h
  .rename_i hc;obtain ⟨z,h1,h2⟩:=map_some h;cases h2;have e:=(zV hE hc).lit_inv;refine ⟨_,_,w,m,?_,.inl rfl,hR,Xp.refl _ _ _ _,zV hE h1⟩;simp [execOp,e,asBool]
  .rename_i hc;obtain ⟨z,h1,h2⟩:=map_some h;cases h2;have e:=(zV hE hc).lit_inv;refine ⟨_,_,w,m,?_,.inl rfl,hR,Xp.refl _ _ _ _,zV hE h1⟩;simp [execOp,e,asBool]
  .cases h
 .split at h
  .rename_i ti x' y' ht hx hy;obtain ⟨z,h1,h2⟩:=map_some h;cases h2;split at h1
   .rename_i hb;cases h1;exact Uz hR (zzO ht (zV hE hx) (zV hE hy) hb)
   .split at h1
    .rename_i hb;cases h1;exact Uz hR (zzz (zV hE hx) (zV hE hy) hb)
    .exact Uz hR (zyo hR ht (zV hE hx) (zV hE hy) h1)
  .cases h
 .split at h
  .rename_i x' hx;obtain ⟨z,h1,h2⟩:=map_some h;cases h2;exact Uz hR (zDy (zV hE hx) h1)
  .cases h
 .rename_i s0 d0 x0;split at h
  .rename_i is id v hs hd hx;split at h
   .rename_i ie he;split at h
    .rename_i r hr;cases h;refine HE (zys hR hs hd ?_ he (zV hE hx) hr);simp only [zEE];cases hk:is.k <;> simp
     all_goals (cases hk2:id.k <;> simp)
    .have hsd:s0=d0:=by
      cases hq:(s0 == d0) with
      |true=>exact beq_iff_eq.1 hq
      |false=>rw [hq] at h;simp [Bz] at h
     subst hsd;rw [beq_self_eq_true] at h
     have hk:∃e2,is.k=.slc e2:=by
      cases hq:is.k <;> first |exact ⟨_,rfl⟩ |(rw [hq] at h;simp [Bz] at h)
     obtain ⟨e2,hk⟩:=hk
     have hel:zEE s0 is.k id.k=e2:=by rw [hk];rfl
     rw [hel] at he;exact HE (zz3 hR hs hk he (zV hE hx) h)
   .cases h
  .cases h
 .split at h
  .rename_i t i o vs hv;obtain ⟨z,h1,h2⟩:=map_some h;cases h2;obtain ⟨b,e,h3⟩:=(zV hE hv).tup_inv;refine Uz hR ⟨b.getD i undef,?_,h3.get h1⟩
   have hi:i<b.size:=by rw [h3.1];exact (Qb.1 h1).1
   simp [Instr.extract,e,hi,Qg]
  .cases h
 .split at h
  .rename_i ti ht;cases h;obtain ⟨w',m',h1,h2⟩:=zCV hR ht;exact HE ⟨_,w',m',h1,h2⟩
  .cases h
 .split at h
  .rename_i t x o v hv;obtain ⟨cs,h1,h2⟩:=map_some h;cases h2;obtain ⟨w',m',h3,h4⟩:=zGd (P:=P) (t:=t) hR (zV hE hv) h1;exact HE ⟨_,w',m',h3,h4⟩
  .cases h
 .split at h
  .rename_i ti v ht hv;obtain ⟨z,h1,h2⟩:=map_some h;cases h2;exact Uz hR (zAU hR ht (zV hE hv) h1)
  .cases h
 .split at h
  .rename_i ti pv xv ht hp hx;obtain ⟨z,h1,h2⟩:=map_some h;cases h2;obtain ⟨w',h3,h4,h5⟩:=zCZ hR ht (zV hE hp) (zV hE hx) h1;refine ⟨.skip,undef,w',m,?_,.inr ⟨rfl,rfl⟩,h4,h5,.imm (.lit _)⟩;simp [execOp,h3]
  .cases h
 .split at h
  .rename_i ti v ht hv;split at h
   .rename_i hal;obtain ⟨z,h1,h2⟩:=map_some h;cases h2;exact Uz hR (zCX hR ht (zV hE hv) hal h1)
   .cases h
  .cases h
 .split at h
  .rename_i ti v k i ht hv hix;split at h
   .rename_i e hk;split at h
    .rename_i te he;obtain ⟨z,h1,h2⟩:=map_some h;cases h2;have e1:=(zV hE hix).lit_inv;refine Uz hR ?_;rw [e1];exact zCY hR ht hk he (zV hE hv) h1
    .cases h
   .cases h
  .cases h
 .split at h
  .rename_i ti s k i ht hv hix;split at h
   .rename_i hk;obtain ⟨z,h1,h2⟩:=map_some h;cases h2;have e1:=(zV hE hix).lit_inv;have e2:=(zV hE hv).lit_inv;obtain ⟨d,i0,hd,_,_,_,_,hdk,_⟩:=XY ht;rw [hk] at hdk;have:=Dv hdk;subst this;unfold zFr at h1;split at h1
    .rename_i h0;obtain ⟨b,h3,h4⟩:=map_some h1;cases h4;obtain ⟨h5,h6⟩:=Qb.1 h3;refine Uz hR ⟨.int .u8 b.toNat,?_,.imm (.lit _)⟩
     have h7:s[i.toNat]?=some b:=by
      have h8:i.toNat<s.size:=by simpa using h5
      rw [getElem?_pos s i.toNat h8];rw [<-h6];rfl
     rw [e1,e2];simp [Instr.index,asIntOf,run_underlying hd,h0,h7]
    .cases h1
   .cases h
  .rename_i ti cs k i ht hv hix;split at h
   .rename_i n e hk;split at h
    .rename_i te he;obtain ⟨z,h1,h2⟩:=map_some h;cases h2;obtain ⟨u,u1,u2⟩:=zAT (k:=k) ht hk he (zV hE hv) h1;refine Uz hR ⟨u,?_,u2⟩;have e1:=(zV hE hix).lit_inv;rw [e1];exact u1
    .cases h
   .cases h
  .cases h
 .split at h
  .rename_i t x lo hi o1 o2 ti v ht hv;split at h
   .rename_i e q hk hl;split at h
    .rename_i te l hh he hlo hhi;obtain ⟨z,h1,h2⟩:=map_some h;cases h2;refine Uz hR ?_;refine zGe hR ht hk he (zV hE hv) h1 _ _ (Oo hE hlo) ?_
     rcases Oo hE hhi with h3 |⟨h3,rfl⟩
     .exact .inl h3
     .exact .inr ⟨h3,hl⟩
    .cases h
   .rename_i q hk hl;split at h
    .rename_i s l hh hlo hhi;split at h
     .rename_i hc;cases h;obtain ⟨d,i0,hd,_,_,_,_,hdk,_⟩:=XY ht;rw [hk] at hdk;have:=Dv hdk;subst this;have e2:=(zV hE hv).lit_inv;simp [UD] at hl;refine Uz hR ⟨_,?_,.imm (.lit _)⟩
      have hex:s.extract l hh=⟨⟨(s.data.toList.drop l).take (hh-l)⟩⟩:=by
       apply ByteArray.ext;apply Array.ext';simp [List.extract_eq_take_drop]
      rw [<-hex,e2]
      rcases Oo hE hlo with h3 |⟨h3,rfl⟩ <;> rcases Oo hE hhi with h4 |⟨h4,rfl⟩ <;>
       simp [Instr.sliceAt,Instr.slice,run_underlying hd,h3,h4,Instr.sliceBounds,Instr.sliceBound,asIntOf,hc.1,hc.2,hl]
      all_goals (first |omega |(apply ByteArray.ext;apply Array.ext';simp [<-hl]))
     .cases h
    .cases h
   .cases h
  .cases h
 .split at h
  .rename_i ti parts ht hp;split at h
   .rename_i pl hk;obtain ⟨z,h1,h2⟩:=map_some h;cases h2;exact Uz hR (zxR hE ht (.inl hk) hp h1)
   .rename_i cnt e hk;split at h
    .rename_i te he;obtain ⟨z,h1,h2⟩:=map_some h;cases h2;exact Uz hR (zxR hE ht (.inr ⟨cnt,e,te,hk,he,rfl⟩) hp h1)
    .cases h
   .cases h
  .cases h
 .split at h
  .rename_i ti parts ht hp;split at h
   .rename_i e hk;split at h
    .rename_i te he;split at h
     .rename_i hc;obtain ⟨z,h1,h2⟩:=map_some h;cases h2;exact HE (zt6 hR hE ht hk he hc.1 hc.2 hp h1)
     .cases h
    .cases h
   .cases h
  .cases h
 .split at h
  .rename_i x o v hv;split at h
   .rename_i hal;cases h;have hv':=zV hE hv;refine ⟨.value (a.eval x),a.eval x,w,m,?_,.inl rfl,hR,Xp.refl _ _ _ _,hv'⟩;simp only [execOp];generalize a.eval x=u at hv'
    cases av with
    |mpt l i j =>
     obtain ⟨b,_,_,e⟩:=zuJ hR hal hv';simp [e]
    |ipt k els i j =>
     cases hv'.ipt_inv with
     |ipt _ _ _ _ B o' vs hA hk hc hv2=>rfl
    |fn f cs ds =>
     obtain ⟨p,q,e,_⟩:=hv'.fn_inv;subst e
     cases f with
     |func g=>rfl
     |_=>cases hal
    |_=>cases hal
   .cases h
  .cases h
 .split at h
  .rename_i f first caps o1 o2 p q hp hq
   cases h;have h1:=I8 hE hp;have h2:=I8 hE hq
   refine Uz hR ⟨.func (.func f) (first.map a.eval) (caps.map a.eval),rfl,?_⟩
   have e1:(first.toList.map a.eval).toArray=first.map a.eval:=by apply Array.ext';simp
   have e2:(caps.toList.map a.eval).toArray=caps.map a.eval:=by apply Array.ext';simp
   rw [e1] at h1;rw [e2] at h2;exact .fn _ _ _ _ _ h1.1 h1.2 h2.1 h2.2
  .cases h
 .split at h
  .rename_i v hv;obtain ⟨z,h1,h2⟩:=map_some h;cases h2;exact Uz hR (zAS (zV hE hv) h1)
  .cases h
 .split at h
  .rename_i t e hm;cases h;obtain ⟨k1,k2⟩:=hR.pushM;refine HE ⟨.map (some w.heap.size),_,_,by simp [Instr.makeMap],k1,by simpa using k2,.mmp _ _ (by simp) λb hb=>?_⟩;simp [BM.put] at hb;subst hb;exact ⟨rfl,rfl,rfl⟩
  .cases h
 .split at h
  .rename_i mv s xv hm hk hx;obtain ⟨z,h1,h2⟩:=map_some h;cases h2;have e1:=(zV hE hk).lit_inv;obtain ⟨w',h3,h4,h5⟩:=zAX (P:=P) hR (zV hE hm) (zV hE hx) h1;refine ⟨.skip,undef,w',m,?_,.inr ⟨rfl,rfl⟩,h4,h5,.imm (.lit _)⟩;simp [execOp,e1,h3]
  .cases h
 .split at h
  .rename_i mv s hm hk;obtain ⟨z,h1,h2⟩:=map_some h;cases h2;have e1:=(zV hE hk).lit_inv;refine Uz hR ?_;rw [e1];exact zAW hR (zV hE hm) h1
  .cases h
 .split at h
  .rename_i a b ha hb;exact HE (zyP hR (zV hE ha) (zV hE hb) h)
  .cases h
 .rename_i c;obtain ⟨callee,args,argTypes⟩:=c;unfold Hb at h;split at h
  .rename_i x t hcal hargs hat;simp only at hcal hargs hat;subst hcal
   obtain rfl:args=#[x]:=by rw [<-Jf (xs:=args),hargs]
   obtain rfl:argTypes=#[t]:=by rw [<-Jf (xs:=argTypes),hat]
   exact zvd hR hE h
  .rename_i s x t tx hcal hargs hat;simp only at hcal hargs hat;subst hcal
   obtain rfl:args=#[s,x]:=by rw [<-Jf (xs:=args),hargs]
   obtain rfl:argTypes=#[t,tx]:=by rw [<-Jf (xs:=argTypes),hat]
   exact zuP hR hE h
  .rename_i x y hcal hargs;simp only at hcal hargs;subst hcal
   obtain rfl:args=#[x,y]:=by rw [<-Jf (xs:=args),hargs]
   exact zvj hR hE h
  .rename_i x y t tx hcal hargs hat;simp only at hcal hargs hat;subst hcal
   obtain rfl:args=#[x,y]:=by rw [<-Jf (xs:=args),hargs]
   obtain rfl:argTypes=#[t,tx]:=by rw [<-Jf (xs:=argTypes),hat]
   exact ztB hR hE h
  .cases h
 .rename_i o1 t x lo hi mx;unfold zzL at h;split at h
  .rename_i ti v ht hv hlo hhi hmx;split at h
   .rename_i e hk;split at h
    .rename_i te he;split at h
     .rename_i hc;cases h;have e1:=zw9 hE hhi;have e2:=zw9 hE hmx
      have e3:lo.map a.eval=some (.int .i64 0)∨lo.map a.eval=none:=by
       rcases Oo hE hlo with h3 |⟨h3,_⟩
       .exact .inl h3
       .exact .inr h3
      have:=zvO (P:=P) hR ht hk he hc (zV hE hv) _ e3;refine HE ?_;simp only [QO,e1,e2];exact this
     .cases h
    .cases h
   .cases h
  .cases h
 .cases h
def ztp (P : Program) (f : FuncId) : Prop := ∃ fn, P.funcs[f]? = some fn ∧ (fn.name == "runtime.NumGoroutine") = false ∧ fn.body.isNone = false
def Uv(P:Program)(f:FuncId)(args:List AV)(st:St)(K:AV->St->Prop):Prop:=
 ztp P f/\∀A m w vals,R A m w st->VL A m st.length w args vals->Calls P f vals w λe w' =>
  ∃v A' m' st' av,e=.returned v/\R A' m' w' st'/\Xp A m st.length w A' m' st'.length w'/\V A' m' st'.length w' av v/\K av st'
theorem Uv.mono{P f args st K K'}(h:Uv P f args st K)(hk:∀av st',K av st'->K' av st'):Uv P f args st K':=
 ⟨h.1,λA m w vals hR hv=>(h.2 A m w vals hR hv).mono λ_ _ ⟨v,A',m',st',av,h1,h2,h3,h4,h5⟩=>⟨v,A',m',st',av,h1,h2,h3,h4,hk _ _ h5⟩⟩
def Kh(env:Ev):Op->Option (FuncId×List AV)
 |.call c =>
  match c.callee with
  |.value f =>
   match ev env f,Dz env c.args.toList with
   |some (.fn (.func g) first caps),some args=>some (g,first++args++caps)
   |_,_=>none
  |_=>none
 |_=>none
def ZF:Op->Bool
 |.call c=>match c.callee with |.value _=>true |_=>false
 |_=>false
def Zy(all:List Oper)(env:Ev)(o:Oper):Option Bool:=
 match o.guard with
 |none=>some true
 |some (j,want) =>
  match (all[j]?).bind (·.dst) with
  |some d =>
   match look env d with
   |some (.lit (.bool b))=>some (b == want)
   |some (.lit (.tuple _))=>some false
   |_=>none
  |none=>none
def aput(d:Option Tmp)(v:AV)(env:Ev):Ev:=
 match d with
 |some d=>(d,v)::env
 |none=>env
def SOp(P:Program)(o:Oper)(env:Ev)(st:St)(K:Ev->St->Prop):Prop:=
 match ZF o.op with
 |true =>
  match Kh env o.op with
  |some (g,args)=>Uv P g args st λav st'=>K (aput o.dst av env) st'
  |none=>False
 |false =>
  match aop P env st o.op with
  |some (av,st')=>K (aput o.dst av env) st'
  |none=>False
def BA(P:Program)(all:List Oper):List Oper->Ev->St->(Ev->St->Prop)->Prop
 | [],env,st,K=>K env st
 |o ::rest,env,st,K =>
  match Zy all env o with
  |some true=>SOp P o env st (λenv st=>BA P all rest env st K)
  |some false=>BA P all rest (aput o.dst (.lit undef) env) st K
  |none=>False
theorem DQ{A m nb w n env a}{ops:Array Oper}{o:Oper}{b:Bool}(hE:Env A m nb w n env a)(h:Zy ops.toList env o=some b):Region.wanted o (yielded ops a.tmps)=b:=by
 unfold Zy at h;unfold Region.wanted;split at h
 .rename_i hg;cases h;simp [hg]
 .rename_i j want hg;split at h
  .rename_i d hd
   have hd':(ops[j]?).bind (·.dst)=some d:=by simpa using hd
   simp only [hg,yielded,hd',Qa];split at h
   .rename_i q hl;cases h;obtain ⟨h1,h2⟩:=hE.val d _ hl;have h3:=h2.lit_inv
    have h4:a.tmps[d]?=some (.bool q):=by
     rw [QE (by rw [hE.size];exact h1)];simp [Qg,hE.size,h1] at h3;rw [h3]
    rw [h4];simp
   .rename_i vs hl;cases h;obtain ⟨h1,h2⟩:=hE.val d _ hl;have h3:=h2.lit_inv
    have h4:a.tmps[d]?=some (.tuple vs):=by
     rw [QE (by rw [hE.size];exact h1)];simp [Qg,hE.size,h1] at h3;rw [h3]
    rw [h4];simp
   .cases h
  .cases h
theorem Env.aput{A m nb w n env a av v}{d:Option Tmp}(h:Env A m nb w n env a)(hd:d.all (·<n)=true)(hv:V A m nb w av v):Env A m nb w n (aput d av env) (a.put d v):=by
 cases d with
 |none=>exact h
 |some d=>exact h.put (by simpa using hd) hv
theorem VL.append{A m nb w cs ds}{a b:Array Value}(h:VL A m nb w cs a)(k:VL A m nb w ds b):VL A m nb w (cs++ds) (a++b):=by
 refine VL.of (by simp [h.1,k.1]) λq x hx=>?_;by_cases hq:q<cs.length
 .rw [Qm hq] at hx;have:=h.get hx
  rwa [show (a++b).getD q undef=a.getD q undef by simp [Qg,Jg (by rw [h.1];exact hq:q<a.size)]]
 .rw [Qs (by omega)] at hx;have:=k.get hx
  rwa [show (a++b).getD q undef=b.getD (q-cs.length) undef by simp [Qg,Array.getElem?_append_right (by rw [h.1];omega:a.size≤q),h.1]]
theorem zok{P:Program}{f:FuncId}(hc:ztp P f)(args:Array Value)(w:World):(callFunc f args).run P w=.ok (.enter f args) w:=by
 obtain ⟨fn,h1,h2,h3⟩:=hc
 have h2' : ¬ (fn.name = "runtime.NumGoroutine") := by simpa using h2
 have h3':¬(fn.body=none):=λh=>by rw [h] at h3;cases h3
 simp [callFunc,h1,h2',h3']
def Kk(A:Am)(m:BM)(nb:Nat)(w:World)(n:Nat)(K:Ev->St->Prop)(a':Act)(w':World):Prop:=
 ∃A' m' env' st',R A' m' w' st'/\Env A' m' st'.length w' n env' a'/\Xp A m nb w A' m' st'.length w'/\K env' st'
theorem zGf{P:Program}{A m w st n env a}{o:Oper}{K:Ev->St->Prop}{next:Act->World->Prop}{Q:Exit->Act->World->Prop}(hR:R A m w st)(hE:Env A m st.length w n env a)(hd:o.dst.all (·<n)=true)
  (h:SOp P o env st K) (hk:∀a' w',Kk A m st.length w n K a' w'->next a' w'):o.wp P a w next Q:=by
 unfold SOp at h;unfold Oper.wp;split at h
 .rename_i hic;clear hic;split at h
  case h_2=>exact h.elim
  rename_i g args hc;have hs:=h;clear h;obtain ⟨dst,op,ty,pos,after,guard⟩:=o;simp only at hc hd hs;unfold Kh at hc;split at hc
  .rename_i c;split at hc
   .rename_i f hf;split at hc
    .rename_i g' first caps args' hfv hargs
     cases hc;have h1:=zV hE hfv;obtain ⟨p,q,e,hp,hq⟩:=h1.fn_inv;have hargs':=I8 hE hargs;obtain ⟨callee,cargs,cat⟩:=c;simp only at hf hargs hargs';subst hf
     have e2:(cargs.toList.map a.eval).toArray=cargs.map a.eval:=by apply Array.ext';simp
     rw [e2] at hargs'
     have hrun:(execOp a.eval { dst:=dst,op:=.call { callee:=.value f,args:=cargs,argTypes:=cat },type:=ty,pos:=pos,after:=after,guard:=guard }).run P w=.ok (.enter g (p++cargs.map a.eval++q)) w:=by
      have hce:=zok hs.1 (p++cargs.map a.eval++q) w;simp only [execOp,resolve,e,Deferred.ofValue,Sem.run_bind,Sem.run_pure,Result.andThen_ok,invoke];exact hce
     rw [hrun];simp only [Oper.upon];refine (hs.2 A m w _ hR ((hp.append hargs').append hq)).mono λe w' ⟨v,A',m',st',av,h1,h2,h3,h4,h5⟩=>?_;subst h1;exact hk _ _ ⟨A',m',_,st',h2,(hE.step hR h3).aput hd h4,h3,h5⟩
    .cases hc
   .cases hc
  .cases hc
 .split at h
  case h_2=>exact h.elim
  rename_i av st' ha;have hK:=h;obtain ⟨nx,v,w',m',h1,h2,h3,h4,h5⟩:=zuN hR hE ha;rw [h1];have hE':=(hE.step hR h4).aput hd h5
  rcases h2 with rfl |⟨rfl,rfl⟩
  .exact hk _ _ ⟨A,m',_,st',h3,hE',h4,hK⟩
  .exact hk _ _ ⟨A,m',_,st',h3,hE',h4,hK⟩
theorem zGg{P:Program}{n:Nat}{ops:Array Oper}{K:Ev->St->Prop}{Q:Exit->Act->World->Prop}(hd:ops.toList.all (λo=>o.dst.all (·<n))=true):
  ∀(rest:List Oper) (i:Nat) (env:Ev) (st:St) (A:Am) (m:BM) (w:World) (a:Act),ops.toList.drop i=rest->R A m w st->Env A m st.length w n env a->BA P ops.toList rest env st K ->
   (∀a' w',Kk A m st.length w n K a' w'->Q .normal a' w')->wpOps P ops Q (List.range' i rest.length) a w:=by
 intro rest
 induction rest with
 |nil =>
  intro i env st A m w a _ hR hE h hQ;simp only [Je,Yt,wpOps];exact hQ _ _ ⟨A,m,env,st,hR,hE,Xp.refl _ _ _ _,h⟩
 |cons o rest ih =>
  intro i env st A m w a hdrop hR hE h hQ
  have hi:ops[i]?=some o:=by
   have:ops.toList[i]?=some o:=by
    have h1:(ops.toList.drop i)[0]?=some o:=by rw [hdrop];rfl
    simpa using h1
   simpa using this
  have hdrop':ops.toList.drop (i+1)=rest:=by
   have:=congrArg List.tail hdrop;simpa [Yf] using this
  have hdo:o.dst.all (·<n)=true:=by
   rw [Ql] at hd;exact hd o (Qc (by simpa using hi:ops.toList[i]?=some o))
  simp only [Qu,JJ,wpOps,hi];unfold BA at h;split at h
  case h_3=>exact h.elim
  case h_2 hb =>
   have hw:=DQ hE hb;rw [hw];simp only [JA,if_false];exact ih (i+1) _ st A m w _ hdrop' hR (hE.aput hdo (.imm (.lit _))) h hQ
  case h_1 hb =>
   have hw:=DQ hE hb;rw [hw];simp only [if_true];refine .inl (zGf hR hE hdo h λa' w' ⟨A',m',env',st',h1,h2,h3,h4⟩=>?_);exact ih (i+1) env' st' A' m' w' a' hdrop' h1 h2 h4 λa2 w2 ⟨A2,m2,e2,s2,k1,k2,k3,k4⟩=>hQ _ _ ⟨A2,m2,e2,s2,k1,k2,h3.trans k3,k4⟩
def SW(P:Program)(n nb0:Nat)(c:Code)(Q:Exit->Ev->St->Prop)(env:Ev)(st:St):Prop:=
 ∀A m w a,nb0≤st.length->R A m w st->Env A m st.length w n env a->c.wp P (λe a' w'=>Kk A m nb0 w n (Q e) a' w') a w
section
variable {P : Program} {n nb0 : Nat} {env : Ev} {st : St} {Q : Exit -> Ev -> St -> Prop}
theorem Xp.refl0(A:Am)(m:BM)(nb:Nat)(w:World){nb0:Nat}(h:nb0≤nb):Xp A m nb0 w A m nb w:=(Xp.refl A m nb w).weak h
theorem SW.mono{c:Code}{Q':Exit->Ev->St->Prop}(h:SW P n nb0 c Q env st)(hq:∀e env st,Q e env st->Q' e env st):SW P n nb0 c Q' env st:=
 λA m w a h0 hR hE=>wp_mono (h A m w a h0 hR hE) λ_ _ _ ⟨A',m',e',s',h1,h2,h3,h4⟩=>⟨A',m',e',s',h1,h2,h3,hq _ _ _ h4⟩
theorem zd(h:Q .normal env st):SW P n nb0 .skip Q env st:=
 λA m _ _ h0 hR hE=>wp_skip ⟨A,m,env,st,hR,hE,Xp.refl0 _ _ _ _ h0,h⟩
theorem zs{id:Nat}(h:Q (.exit id) env st):SW P n nb0 (.exit id) Q env st:=
 λA m _ _ h0 hR hE=>wp_exit ⟨A,m,env,st,hR,hE,Xp.refl0 _ _ _ _ h0,h⟩
theorem zy(h:Q .ret env st):SW P n nb0 .ret Q env st:=
 λA m _ _ h0 hR hE=>wp_ret ⟨A,m,env,st,hR,hE,Xp.refl0 _ _ _ _ h0,h⟩
def Do(next:Ev->St->Prop)(Q:Exit->Ev->St->Prop):Exit->Ev->St->Prop
 |.normal,env,st=>next env st
 |e,env,st=>Q e env st
theorem Kk.trans{A m nb w n K a' w'}{A1 m1 nb1 w1}(h:Xp A m nb w A1 m1 nb1 w1)(k:Kk A1 m1 nb w1 n K a' w'):Kk A m nb w n K a' w':=
 let ⟨A',m',e',s',k1,k2,k3,k4⟩:=k
 ⟨A',m',e',s',k1,k2,h.trans0 k3,k4⟩
theorem ze{x y:Code}(h:SW P n nb0 x (Do (SW P n nb0 y Q) Q) env st):SW P n nb0 (.seq x y) Q env st:=by
 intro A m w a h0 hR hE;refine wp_seq (wp_mono (h A m w a h0 hR hE) λe a' w' ho=>?_);obtain ⟨A',m',e',s',h1,h2,h3,h4⟩:=ho
 cases e with
 |normal=>exact wp_mono (h4 A' m' w' a' h3.nbLe h1 h2) λ_ _ _ k=>k.trans h3
 |exit id=>exact ⟨A',m',e',s',h1,h2,h3,h4⟩
 |goto l=>exact ⟨A',m',e',s',h1,h2,h3,h4⟩
 |ret=>exact ⟨A',m',e',s',h1,h2,h3,h4⟩
 |panic c=>exact ⟨A',m',e',s',h1,h2,h3,h4⟩
 |outgrown=>exact ⟨A',m',e',s',h1,h2,h3,h4⟩
theorem U5{c:Operand}{x y:Code}{b:Bool}(hc:ev env c=some (.lit (.bool b)))(ht:b=true->SW P n nb0 x Q env st)(hf:b=false->SW P n nb0 y Q env st):SW P n nb0 (.cond c x y) Q env st:=by
 intro A m w a h0 hR hE;have h1:=(zV hE hc).lit_inv;exact wp_cond_split h1 (λh=>ht h A m w a h0 hR hE) (λh=>hf h A m w a h0 hR hE)
def Hz(id:Nat)(Q:Exit->Ev->St->Prop):Exit->Ev->St->Prop
 |.exit id',env,st=>if id'=id then Q .normal env st else Q (.exit id') env st
 |e,env,st=>Q e env st
theorem zh{id:Nat}{c:Code}(h:SW P n nb0 c (Hz id Q) env st):SW P n nb0 (.block id c) Q env st:=by
 intro A m w a h0 hR hE;refine wp_block (wp_mono (h A m w a h0 hR hE) λe a' w' ho=>?_);obtain ⟨A',m',e',s',h1,h2,h3,h4⟩:=ho
 cases e with
 |exit id' =>
  simp only [Exit.inBlock];simp only [Hz] at h4;split
  .rename_i hid;rw [if_pos hid] at h4;exact ⟨A',m',e',s',h1,h2,h3,h4⟩
  .rename_i hid;rw [if_neg hid] at h4;exact ⟨A',m',e',s',h1,h2,h3,h4⟩
 |normal=>exact ⟨A',m',e',s',h1,h2,h3,h4⟩
 |goto l=>exact ⟨A',m',e',s',h1,h2,h3,h4⟩
 |ret=>exact ⟨A',m',e',s',h1,h2,h3,h4⟩
 |panic c=>exact ⟨A',m',e',s',h1,h2,h3,h4⟩
 |outgrown=>exact ⟨A',m',e',s',h1,h2,h3,h4⟩
theorem zBA{id:Nat}{ops:Array Oper}(hd:ops.toList.all (λo=>o.dst.all (·<n))=true)(h:∀K:Ev->St->Prop,(∀env st,Q .normal env st->K env st)->BA P ops.toList ops.toList env st K):
  SW P n nb0 (.region id ops false) Q env st:=by
 intro A m w a h0 hR hE;refine wp_region ?_
 have:=zGg (P:=P) (K:=Q .normal) (Q:=λe a' w'=>Kk A m nb0 w n (Q e) a' w') hd ops.toList 0 env st A m w a (by simp) hR hE (h _ λ_ _ h=>h)
  λ_ _ ⟨A',m',e',s',k1,k2,k3,k4⟩=>⟨A',m',e',s',k1,k2,k3.weak h0,k4⟩
 rwa [JH,show ops.size=ops.toList.length by simp]
theorem zBO{P:Program}{c:Code}{Q:Exit->Act->World->Prop}(I:Nat->Act->World->Prop)
  (round:∀n a w,I n a w->c.wp P (Exit.then (λa' w'=>∃n',n'<n/\I n' a' w') Q) a w):∀n a w,I n a w->(Code.loop c).wp P Q a w:=by
 intro n a w h0 b k cs
 have key:∀n a w,I n a w ->
   ∃e a' w',Q e a' w'/\Arrives P (lone (b.at a (.code c :: .inLoop c ::k)) cs w) b k cs e a' w':=by
  intro n
  induction n using Nat.strongRecOn with
  |_ n ih =>
   intro a w hI;obtain ⟨e,a₁,w₁,hq,harr⟩:=round n a w hI b (.inLoop c ::k) cs
   cases e with
   |normal =>
    obtain ⟨n',hlt,hI₁⟩:=hq;obtain ⟨e₂,a₂,w₂,hq₂,harr₂⟩:=ih n' hlt a₁ w₁ hI₁;exact ⟨e₂,a₂,w₂,hq₂,.of_steps (Steps.trans harr (.one step_inLoop)) harr₂⟩
   |exit id=>exact ⟨_,a₁,w₁,hq,.pass (x:=.inLoop c) rfl (λ_ _=>.inl (by simp)) harr⟩
   |goto l=>exact ⟨_,a₁,w₁,hq,.pass (x:=.inLoop c) rfl (λ_ _=>.inl (by simp)) harr⟩
   |ret=>exact ⟨_,a₁,w₁,hq,.pass (x:=.inLoop c) rfl (λ_ _=>.inl (by simp)) harr⟩
   |panic ch=>exact ⟨_,a₁,w₁,hq,.pass (x:=.inLoop c) rfl (λ_ _=>.inl (by simp)) harr⟩
   |outgrown=>exact ⟨_,a₁,w₁,hq,.pass (x:=.inLoop c) rfl (λ_ _=>.inl (by simp)) harr⟩
 obtain ⟨e,a',w',hq,harr⟩:=key n a w h0;exact ⟨e,a',w',hq,.of_steps (.one step_loop) harr⟩
theorem zwX{c:Code}(I:Nat->Ev->St->Prop)(k:Nat)(h0:I k env st)
  (round:∀k env st,I k env st->SW P n nb0 c (Do (λenv st=>∃k',k'<k/\I k' env st) Q) env st):SW P n nb0 (.loop c) Q env st:=by
 intro A m w a hn hR hE;refine zBO (λk a' w'=>Kk A m nb0 w n (I k) a' w') (λk a' w' ho=>?_) k a w ⟨A,m,env,st,hR,hE,Xp.refl0 _ _ _ _ hn,h0⟩;obtain ⟨A',m',e',s',h1,h2,h3,h4⟩:=ho;refine wp_mono (round k e' s' h4 A' m' w' a' h3.nbLe h1 h2) λe a2 w2 ho2=>?_;have ho3:=ho2.trans h3
 cases e with
 |normal =>
  obtain ⟨A2,m2,e2,s2,k1,k2,k3,k',k4,k5⟩:=ho3;exact ⟨k',k4,A2,m2,e2,s2,k1,k2,k3,k5⟩
 |exit id=>exact ho3
 |goto l=>exact ho3
 |ret=>exact ho3
 |panic c=>exact ho3
 |outgrown=>exact ho3
end
def zzJ(P:Program)(env:Ev)(st:St):ResultVar->Option AV
 |.tmp t=>look env t
 |.cell a t=>match look env a,Xf P t with |some (.mpt l i j),some ti=>Dq st ti (.mpt l i j) |_,_=>none
def zq5(P:Program)(env:Ev)(st:St):List ResultVar->Option (List AV)
 | []=>some []
 |r ::l=>match zzJ P env st r,zq5 P env st l with |some v,some vs=>some (v ::vs) |_,_=>none
def KU(P:Program)(fn:Func)(env:Ev)(st:St):Option AV:=
 match zq5 P env st fn.results.toList with
 |some [v]=>some v
 |some vs=>some (.tup vs)
 |none=>none
theorem zqP(fn:Func)(tmps:Array Value)(P:Program)(w:World)(vs:List Value)
  (h:((fn.results.toList.mapM λr=>(match r with |.tmp t=>pure (tmps.getD t undef) |.cell a t=>do loadVar t (<-asAddr (tmps.getD a undef)):Sem Value)).run P w)=.ok vs w):
  (results fn tmps).run P w=.ok (if h:vs.length=1 then vs[0] else .tuple vs.toArray) w:=by
 have key:(fn.results.mapM λr=>(match r with |.tmp t=>pure (tmps.getD t undef) |.cell a t=>do loadVar t (<-asAddr (tmps.getD a undef)):Sem Value)).run P w=.ok vs.toArray w:=by
  rw [Yk];simp only [Sem.run_map,h,Result.andThen_ok]
 unfold results;simp only [Sem.run_bind,Sem.run_pure];refine Eq.trans (congrArg (λr=>Result.andThen r _) key) ?_;simp
theorem zk6{P:Program}{A m w st n env a}(hR:R A m w st)(hE:Env A m st.length w n env a):∀{rs:List ResultVar} {vs:List AV},zq5 P env st rs=some vs ->
  ∃us:List Value,(rs.mapM λr=>(match r with |.tmp t=>pure (a.tmps.getD t undef) |.cell p t=>do loadVar t (<-asAddr (a.tmps.getD p undef)):Sem Value)).run P w=.ok us w/\VL A m st.length w vs us.toArray
 | [],vs,h=>by cases h;exact ⟨[],rfl,rfl,λi hi=>by cases hi⟩
 |r ::rs,vs,h=>by
  simp only [zq5] at h;split at h
  .rename_i v vs' hv hvs;cases h;obtain ⟨us,h1,h2⟩:=zk6 hR hE hvs
   have h3:∃u,((match r with |.tmp t=>pure (a.tmps.getD t undef) |.cell p t=>do loadVar t (<-asAddr (a.tmps.getD p undef)):Sem Value)).run P w=.ok u w/\V A m st.length w v u:=by
    cases r with
    |tmp t=>exact ⟨_,rfl,(hE.val t v hv).2⟩
    |cell p t =>
     simp only [zzJ] at hv;split at hv
     .rename_i l i j ti hl ht;have h4:=(hE.val p _ hl).2;obtain ⟨u,h5,h6⟩:=zAU hR ht h4 hv;refine ⟨u,?_,h6⟩;unfold Dq at hv
      cases hr:Gv st (.mpt l i j) with
      |none=>rw [hr] at hv;cases hv
      |some rj =>
       obtain ⟨B,o,e,_⟩:=zsh (r:=rj.1) (j:=rj.2) hR hr h4;show (do loadVar t (<-asAddr (a.tmps.getD p undef)):Sem Value).run P w=.ok u w;rw [e] at h5 ⊢;simpa [Instr.loadAt,Instr.sureAddr,asAddr] using h5
     .cases hv
   obtain ⟨u,h4,h5⟩:=h3;refine ⟨u ::us,?_,by simpa using h2.1,λi hi=>?_⟩
   .simp only [List.mapM_cons,Sem.run_bind,h4,Result.andThen_ok,h1,Sem.run_pure]
   .cases i with
    |zero=>simpa using h5
    |succ i=>simpa using h2.2 i (by simpa using hi)
  .cases h
theorem zs3{P:Program}{A m w st n env a fn av}(hR:R A m w st)(hE:Env A m st.length w n env a)(h:KU P fn env st=some av):∃v,(results fn a.tmps).run P w=.ok v w/\V A m st.length w av v:=by
 unfold KU at h;split at h
 .rename_i v hv;cases h;obtain ⟨us,h1,h2⟩:=zk6 hR hE hv
  have hl:us.length=1:=by simpa using h2.1
  obtain ⟨u,rfl⟩:∃u,us=[u]:=by
   match us,hl with
   | [u],_=>exact ⟨u,rfl⟩
  exact ⟨_,zqP fn a.tmps P w _ h1,by simpa using h2.2 0 (by simp)⟩
 .rename_i vs hne hv;cases h;obtain ⟨us,h1,h2⟩:=zk6 hR hE hv
  have hl:us.length=vs.length:=by simpa using h2.1
  refine ⟨_,zqP fn a.tmps P w _ h1,?_⟩;rw [dif_neg]
  .exact .tup _ _ h2.1 h2.2
  .intro h3
   match vs,(hl ▸ h3:vs.length=1) with
   | [v],_=>exact hne v rfl
 .cases h
def GI:Nat->List AV->Ev
 |_,[]=>[]
 |i,v ::r=>(i,v)::GI (i+1) r
theorem zqb:∀(l:List AV) (i t:Nat) (v:AV),look (GI i l) t=some v->i≤t/\l[t-i]?=some v
 | [],_,_,_,h=>by cases h
 |x ::l,i,t,v,h=>by
  simp only [GI,look] at h;split at h
  .rename_i e;subst e;cases h;simp
  .rename_i e;obtain ⟨h1,h2⟩:=zqb l (i+1) t v h;refine ⟨by omega,?_⟩;rw [show t-i=(t-(i+1))+1 by omega];simpa using h2
theorem zth {P : Program} {f : FuncId} {fn : Func} {c : Code} {args : List AV} {st : St} {K : AV → St → Prop} (hf : P.funcs[f]? = some fn) (hb : fn.body = some c) (hn : (fn.name == "runtime.NumGoroutine") = false) (hlen : args.length ≤ fn.ntmps)
  (h:SW P fn.ntmps st.length c (λe env st=>match e with |.normal |.ret=>∃av,KU P fn env st=some av/\K av st |_=>False) (GI 0 args) st):Uv P f args st K:=by
 refine ⟨⟨fn,hf,hn,by simp [hb]⟩,λA m w vals hR hv=>?_⟩;refine calls_of_wp hf hb ?_
 have hE:Env A m st.length w fn.ntmps (GI 0 args) { tmps:=vals++Array.replicate (fn.ntmps-vals.size) undef,defers:=[] }:=by
  refine ⟨by simp [hv.1];omega,λt v ht=>?_,rfl⟩;obtain ⟨_,h1⟩:=zqb args 0 t v ht;simp only [Yd] at h1;have h2:=hv.get h1;have hlt:t<args.length:=(Qb.1 h1).1;refine ⟨by omega,?_⟩
  rwa [show (vals++Array.replicate (fn.ntmps-vals.size) undef).getD t undef=vals.getD t undef by simp [Qg,Jg (by rw [hv.1];exact hlt:t<vals.size)]]
 refine wp_mono (h A m w _ (Qk _) hR hE) λe a' w' ho=>?_;obtain ⟨A',m',env',st',h1,h2,h3,h4⟩:=ho
 have fin:(∃av,KU P fn env' st'=some av/\K av st')->a'.defers=[]/\∃v,(results fn a'.tmps).run P w'=.ok v w'/\∃v' A'' m'' st'' av,Ending.returned v=.returned v'/\R A'' m'' w' st''/\Xp A m st.length w A'' m'' st''.length w'/\V A'' m'' st''.length w' av v'/\K av st'':=λ⟨av,h5,h6⟩=>by
  obtain ⟨v,h7,h8⟩:=zs3 h1 h2 h5;exact ⟨h2.defers,v,h7,v,A',m',st',av,rfl,h1,h3,h8,h6⟩
 cases e with
 |normal=>exact fin h4
 |ret=>exact fin h4
 |exit id=>exact h4
 |goto l=>exact h4
 |panic c=>exact h4.elim
 |outgrown=>exact h4.elim
class TiOf(P:Program)(t:TypeId)(x:outParam TI):Prop where
 is:Xf P t=some x
theorem ti{P:Program}{t:TypeId}{x:TI}[k:TiOf P t x]:Xf P t=some x:=k.is
instance:TiOf prog 3 ⟨.int .i64,1,8,.int .i64 0⟩:=⟨by kernel_rfl⟩
instance:TiOf prog 4 ⟨.bool,1,1,.bool false⟩:=⟨by kernel_rfl⟩
instance:TiOf prog 5 ⟨.int .u8,1,1,.int .u8 0⟩:=⟨by kernel_rfl⟩
instance:TiOf prog 9 ⟨.str,1,16,.string ⟨⟨[]⟩⟩⟩:=⟨by kernel_rfl⟩
instance:TiOf prog 22 ⟨.slc 9,1,24,.slice none 0 0⟩:=⟨by kernel_rfl⟩
instance:TiOf prog 23 ⟨.slc 42,1,24,.slice none 0 0⟩:=⟨by kernel_rfl⟩
instance:TiOf prog 24 ⟨.slc 38,1,24,.slice none 0 0⟩:=⟨by kernel_rfl⟩
instance:TiOf prog 26 ⟨.agg [(0,1),(1,1),(2,1),(3,1),(4,1),(5,1)],6,112,.agg #[(.string ⟨⟨[]⟩⟩),(.string ⟨⟨[]⟩⟩),(.bool false),(.slice none 0 0),(.slice none 0 0),(.slice none 0 0)]⟩:=⟨by kernel_rfl⟩
instance:TiOf prog 31 ⟨.int .i64,1,8,.int .i64 0⟩:=⟨by kernel_rfl⟩
instance:TiOf prog 34 ⟨.slc 40,1,24,.slice none 0 0⟩:=⟨by kernel_rfl⟩
instance:TiOf prog 35 ⟨.slc 80,1,24,.slice none 0 0⟩:=⟨by kernel_rfl⟩
instance:TiOf prog 36 ⟨.slc 88,1,24,.slice none 0 0⟩:=⟨by kernel_rfl⟩
instance:TiOf prog 38 ⟨.agg [(0,1),(1,1),(2,1),(3,1),(4,1),(5,1),(6,1),(7,1),(8,1),(9,1)],10,152,.agg #[(.string ⟨⟨[]⟩⟩),(.slice none 0 0),(.string ⟨⟨[]⟩⟩),(.bool false),(.bool false),(.int .i64 0),(.int .i64 0),(.slice none 0 0),(.slice none 0 0),(.slice none 0 0)]⟩:=⟨by kernel_rfl⟩
instance:TiOf prog 40 ⟨.agg [(0,1),(1,1),(2,1),(3,1)],4,48,.agg #[(.int .i64 0),(.int .i64 0),(.string ⟨⟨[]⟩⟩),(.string ⟨⟨[]⟩⟩)]⟩:=⟨by kernel_rfl⟩
instance:TiOf prog 42 ⟨.agg [(0,1),(1,1),(2,1)],3,40,.agg #[(.string ⟨⟨[]⟩⟩),(.string ⟨⟨[]⟩⟩),(.bool false)]⟩:=⟨by kernel_rfl⟩
instance:TiOf prog 46 ⟨.slc 26,1,24,.slice none 0 0⟩:=⟨by kernel_rfl⟩
instance:TiOf prog 48 ⟨.ptr 156,1,8,.pointer none⟩:=⟨by kernel_rfl⟩
instance:TiOf prog 59 ⟨.ptr 63,1,8,.pointer none⟩:=⟨by kernel_rfl⟩
instance:TiOf prog 63 ⟨.agg [(0,1)],1,24,.agg #[(.slice none 0 0)]⟩:=⟨by kernel_rfl⟩
instance:TiOf prog 78 ⟨.ptr 38,1,8,.pointer none⟩:=⟨by kernel_rfl⟩
instance:TiOf prog 80 ⟨.agg [(0,1),(1,1),(2,1)],3,56,.agg #[(.int .i64 0),(.slice none 0 0),(.slice none 0 0)]⟩:=⟨by kernel_rfl⟩
instance:TiOf prog 84 ⟨.agg [(0,1),(1,1)],2,32,.agg #[(.string ⟨⟨[]⟩⟩),(.string ⟨⟨[]⟩⟩)]⟩:=⟨by kernel_rfl⟩
instance:TiOf prog 88 ⟨.agg [(0,1),(1,1),(2,1),(3,1)],4,40,.agg #[(.int .i64 0),(.int .i64 0),(.int .i64 0),(.string ⟨⟨[]⟩⟩)]⟩:=⟨by kernel_rfl⟩
instance:TiOf prog 108 ⟨.slc 4,1,24,.slice none 0 0⟩:=⟨by kernel_rfl⟩
instance:TiOf prog 154 ⟨.other,1,8,.map none⟩:=⟨by kernel_rfl⟩
instance:TiOf prog 156 ⟨.agg [(0,1),(1,1)],2,32,.agg #[(.slice none 0 0),(.map none)]⟩:=⟨by kernel_rfl⟩
instance:TiOf prog 160 ⟨.other,1,8,.nilFunc⟩:=⟨by kernel_rfl⟩
instance:TiOf prog 182 ⟨.other,1,8,.nilFunc⟩:=⟨by kernel_rfl⟩
instance:TiOf prog 198 ⟨.other,1,8,.nilFunc⟩:=⟨by kernel_rfl⟩
instance:TiOf prog 201 ⟨.other,1,8,.nilFunc⟩:=⟨by kernel_rfl⟩
instance:TiOf prog 227 ⟨.agg [(0,1),(1,1),(2,10),(12,1),(13,1),(14,1)],15,232,.agg #[(.pointer none),(.string ⟨⟨[]⟩⟩),(.string ⟨⟨[]⟩⟩),(.slice none 0 0),(.string ⟨⟨[]⟩⟩),(.bool false),(.bool false),(.int .i64 0),(.int .i64 0),(.slice none 0 0),(.slice none 0 0),(.slice none 0 0),(.slice none 0 0),(.slice none 0 0),(.bool false)]⟩:=⟨by kernel_rfl⟩
instance:TiOf prog 233 ⟨.agg [(0,1),(1,1)],2,48,.agg #[(.slice none 0 0),(.slice none 0 0)]⟩:=⟨by kernel_rfl⟩
instance:TiOf prog 235 ⟨.agg [(0,1),(1,1),(2,10),(12,2),(14,1)],15,232,.agg #[(.pointer none),(.string ⟨⟨[]⟩⟩),(.string ⟨⟨[]⟩⟩),(.slice none 0 0),(.string ⟨⟨[]⟩⟩),(.bool false),(.bool false),(.int .i64 0),(.int .i64 0),(.slice none 0 0),(.slice none 0 0),(.slice none 0 0),(.slice none 0 0),(.slice none 0 0),(.bool false)]⟩:=⟨by kernel_rfl⟩
instance:TiOf prog 268 ⟨.ptr 80,1,8,.pointer none⟩:=⟨by kernel_rfl⟩
def KS(all:List Oper)(j:Nat)(env:Ev):Option AV:=((all[j]?).bind (·.dst)).bind (look env)
section
variable {P : Program} {all rest : List Oper} {d : Option Tmp} {op : Op} {ty : TypeId} {pos : String} {aft : Array Edge} {env : Ev} {st : St} {K : Ev -> St -> Prop}
end
structure AOk(A:Am)(w:World):Prop where
 low:∀B k,A B k->B<w.heap.size
 fn:∀B k k',Flo.N≤B->A B k->A B k'->k=k'
 nLe:Flo.N≤w.heap.size
structure Ext(A:Am)(w:World)(A':Am)(w':World):Prop where
 sub:∀B k,A B k->A' B k
 new:∀B k,A' B k->A B k∨(w.heap.size≤B/\B<w'.heap.size)
 fn:∀B k k',Flo.N≤B->A' B k->A' B k'->k=k'
theorem R.aok{A:Am}{m:BM}{w:World}{st:St}(hR:R A m w st):AOk A w:=⟨hR.aLow,hR.aFun,hR.nLe⟩
theorem R.ownAok{A:Am}{m:BM}{w:World}{st:St}(hR:R A m w st):AOk (zGh A m) w:=
 ⟨λB k h=>by
  rcases h with h |⟨l,b,h1,h2,rfl,_⟩
  .exact hR.aLow B k h
  .exact hR.low h1 h2,hR.ownFun,hR.nLe⟩
def Xm(P:Program)(f:FuncId)(args:List AV)(res:AV):Prop:=
 ztp P f/\∀A w vals,AOk A w->VIL A w args vals->Calls P f vals w λe w'=>∃v A',e=.returned v/\XK w w'/\Ext A w A' w'/\VI A' w' res v
inductive Imm:AV->Prop
 |any:Imm .any
 |lit (v):Imm (.lit v)
 |isl (k els):Imm (.isl k els)
 |ipt (k els i j):Imm (.ipt k els i j)
 |imp (els):Imm (.imp els)
 |fr (x):Imm (.fr x)
 |agg (cs) (h:∀x∈cs,Imm x):Imm (.agg cs)
 |tup (cs) (h:∀x∈cs,Imm x):Imm (.tup cs)
 |fn (f cs ds) (h:∀x∈cs,Imm x) (h':∀x∈ds,Imm x):Imm (.fn f cs ds)
theorem Imm.vi{A m nb w av v}(hi:Imm av)(h:V A m nb w av v):VI A w av v:=by
 induction hi generalizing v with
 |any=>exact .any v
 |lit x=>rw [h.lit_inv];exact .lit _
 |isl k els=>exact h.isl_inv
 |ipt k els i j=>exact h.ipt_inv
 |imp els=>exact h.imp_inv
 |fr x=>exact h.fr_inv
 |agg cs _ ih =>
  obtain ⟨a,rfl,h1,h2⟩:=h.agg_inv;exact .agg _ _ h1 λi hi=>ih _ (Qh hi) (h2 i hi)
 |tup cs _ ih =>
  obtain ⟨a,rfl,h1,h2⟩:=h.tup_inv;exact .tup _ _ h1 λi hi=>ih _ (Qh hi) (h2 i hi)
 |fn f cs ds _ _ ih ih' =>
  obtain ⟨a,b,rfl,⟨h1,h2⟩,⟨h3,h4⟩⟩:=h.fn_inv;exact .fn _ _ _ _ _ h1 (λi hi=>ih _ (Qh hi) (h2 i hi)) h3 (λi hi=>ih' _ (Qh hi) (h4 i hi))
def UnF(x y:AV):Prop:=x=.fr y∨∃v,x=.lit v/\y=.lit v
inductive Zo(st:St):AV->AV->Prop
 |imm {x} (h:Imm x):Zo st x x
 |nil {k:Nat}:Zo st (.lit (.slice none 0 0)) (.isl k [])
 |msl {l i n k:Nat} {els els':List (List AV)} (h:st[l]?=some (some (k,els))) (hin:i+n≤els.length) (hl:els'.length=n)
   (hrl:∀q (h:q<n) (h1:i+q<els.length) (h2:q<els'.length),els[i+q].length=els'[q].length)
   (hr:∀q (h:q<n) (h1:i+q<els.length) (h2:q<els'.length) j (h3:j<els[i+q].length) (h4:j<els'[q].length),Zo st els[i+q][j] els'[q][j]):
   Zo st (.msl l i n) (.isl k els')
 |mpt {l i j k:Nat} {els els':List (List AV)} (h:st[l]?=some (some (k,els))) (hl:els'.length=els.length)
   (hrl:∀q (h1:q<els.length) (h2:q<els'.length),els[q].length=els'[q].length)
   (hr:∀q (h1:q<els.length) (h2:q<els'.length) j (h3:j<els[q].length) (h4:j<els'[q].length),Zo st els[q][j] els'[q][j]):
   Zo st (.mpt l i j) (.ipt k els' i j)
 |mmp {l:Nat} {els els':List (List AV)} (h:st[l]?=some (some (2,els))) (hl:els'.length=els.length)
   (hrl:∀q (h1:q<els.length) (h2:q<els'.length),els[q].length=els'[q].length)
   (hr:∀q (h1:q<els.length) (h2:q<els'.length) j (h3:j<els[q].length) (h4:j<els'[q].length),Zo st els[q][j] els'[q][j]):
   Zo st (.mmp l) (.imp els')
 |agg {cs cs':List AV} (hl:cs.length=cs'.length) (hr:∀i (h:i<cs.length) (h':i<cs'.length),Zo st cs[i] cs'[i]):Zo st (.agg cs) (.agg cs')
 |tup {cs cs':List AV} (hl:cs.length=cs'.length) (hr:∀i (h:i<cs.length) (h':i<cs'.length),Zo st cs[i] cs'[i]):Zo st (.tup cs) (.tup cs')
 |fn {f:Fn} {cs cs' ds ds':List AV} (hl:cs.length=cs'.length) (hr:∀i (h:i<cs.length) (h':i<cs'.length),Zo st cs[i] cs'[i])
   (hl':ds.length=ds'.length) (hr':∀i (h:i<ds.length) (h':i<ds'.length),Zo st ds[i] ds'[i]):Zo st (.fn f cs ds) (.fn f cs' ds')
theorem VI.widen{A A' w av v}(h:VI A w av v)(hA:∀B k,A B k->A' B k):VI A' w av v:=h.mono hA λ_ _ _=>rfl
theorem Zo.vi{A D:Am}{m:BM}{w:World}{st:St}(hR:R A m w st)(hA':∀B k,A B k->D B k)(hown:∀l b,m l=some b->b.has=true->D b.B b.k){av av':AV}(hs:Zo st av av'):
  ∀{v},V A m st.length w av v->VI D w av' v:=by
 induction hs with
 |imm h=>exact λ{v} hv=>(h.vi hv).widen hA'
 |nil=>intro v hv;rw [hv.lit_inv];exact .inil _ _ _ (.inl rfl)
 | @msl l i n k els els' h hin hl hrl hr ih =>
  intro v hv;obtain ⟨hlt,a,n',cap,rfl,hb⟩:=hv.msl_inv;obtain ⟨b,h1,h2,h3,h4⟩:=hR.blk l k els h;obtain ⟨rfl,h5,h6⟩:=hb b h1
  rcases h6 with rfl |⟨h6,hm6,rfl,h7⟩
  .have hn0:n'=0:=by omega
   have:els'=[]:=Qf (by omega);subst this;rw [hn0];exact .inil _ _ _ (.inl rfl)
  .have hok:=(h3 h6).cells hm6;subst h2
   have hcell:∀q j,q<els'.length->j<b.k->∃u,w.cell? ⟨b.B,b.o+i*b.k+q*b.k+j,none⟩=some u/\∀(h4:q<els'.length) (h5:j<els'[q].length),VI D w els'[q][j] u:=λq j hq hj=>by
    have hq1:i+q<els.length:=by omega
    have hj1:j<els[i+q].length:=by rw [hok.wide _ hq1];exact hj
    obtain ⟨u,h8,h9⟩:=hok.val (i+q) hq1 j hj1;refine ⟨u,by rw [<-h8];congr 2;rw [Qz];omega,λh10 h11=>?_⟩;exact ih q (by omega) hq1 h10 j hj1 h11 h9
   have hw':∀q (hq:q<els'.length),els'[q].length=b.k:=λq hq=>by
    rw [<-hrl q (by omega) (by omega) hq];exact hok.wide _ (by omega)
   have:=VI.isl (A:=D) (w:=w) b.k els' b.B (b.o+i*b.k) cap (λq j=>(w.cell? ⟨b.B,b.o+i*b.k+q*b.k+j,none⟩).getD undef) (hR.okb h1 h6 hok (hown l b h1 h6) h7) (by omega) hw'
    (λq j hq hj=>by obtain ⟨u,h8,_⟩:=hcell q j hq hj;rw [h8];rfl)
    (λq hq j hj=>by
     obtain ⟨u,h8,h9⟩:=hcell q j hq (by rw [<-hw' q hq];exact hj);show VI _ w _ ((w.cell? _).getD undef)
     rw [h8];exact h9 hq hj)
   rw [hl] at this;exact this
 | @mpt l i j k els els' h hl hrl hr ih =>
  intro v hv;obtain ⟨hlt,a,rfl,hb⟩:=hv.mpt_inv;obtain ⟨b,h1,h2,h3,h4⟩:=hR.blk l k els h;obtain ⟨h6,hm6,rfl⟩:=hb b h1;have hok:=(h3 h6).cells hm6;subst h2
  have hcell:∀q j,q<els'.length->j<b.k->∃u,w.cell? ⟨b.B,b.o+q*b.k+j,none⟩=some u/\∀(h4:q<els'.length) (h5:j<els'[q].length),VI D w els'[q][j] u:=λq j hq hj=>by
   have hq1:q<els.length:=by omega
   have hj1:j<els[q].length:=by rw [hok.wide _ hq1];exact hj
   obtain ⟨u,h8,h9⟩:=hok.val q hq1 j hj1;exact ⟨u,h8,λh10 h11=>ih q hq1 h10 j hj1 h11 h9⟩
  have hw':∀q (hq:q<els'.length),els'[q].length=b.k:=λq hq=>by
   rw [<-hrl q (by omega) hq];exact hok.wide _ (by omega)
  exact VI.ipt (A:=D) (w:=w) b.k els' i j b.B b.o (λq j=>(w.cell? ⟨b.B,b.o+q*b.k+j,none⟩).getD undef) (by rw [hl];exact hR.okb0 h1 h6 hok (hown l b h1 h6)) hw'
   (λq j hq hj=>by obtain ⟨u,h8,_⟩:=hcell q j hq hj;rw [h8];rfl)
   (λq hq j hj=>by
    obtain ⟨u,h8,h9⟩:=hcell q j hq (by rw [<-hw' q hq];exact hj);show VI _ w _ ((w.cell? _).getD undef)
    rw [h8];exact h9 hq hj)
 | @mmp l els els' h hl hrl hr ih =>
  intro v hv;obtain ⟨hlt,a,rfl,hb⟩:=hv.mmp_inv;obtain ⟨b,h1,h2,h3,h4⟩:=hR.blk l 2 els h;obtain ⟨h6,hm6,rfl⟩:=hb b h1;obtain ⟨h0,es,clock,h7,h8,h9⟩:=(h3 h6).mval hm6;have hw:=(h3 h6).wide
  exact .imp els' b.B es clock ⟨_,hown l b h1 h6⟩ h7 (by omega) (λq hq=>by rw [<-hrl q (by omega) hq,hw q (by omega),h0])
   (λq hq j hj=>ih q (by omega) hq j (by rw [hrl q (by omega) hq];exact hj) hj (h9 q (by omega) j (by rw [hrl q (by omega) hq];exact hj)))
 |agg hl hr ih =>
  intro v hv;obtain ⟨a,rfl,h1,h2⟩:=hv.agg_inv;exact .agg _ _ (by omega) λi hi=>ih i (by omega) hi (h2 i (by omega))
 |tup hl hr ih =>
  intro v hv;obtain ⟨a,rfl,h1,h2⟩:=hv.tup_inv;exact .tup _ _ (by omega) λi hi=>ih i (by omega) hi (h2 i (by omega))
 |fn hl hr hl' hr' ih ih' =>
  intro v hv;obtain ⟨a,b,rfl,⟨h1,h2⟩,⟨h3,h4⟩⟩:=hv.fn_inv;exact .fn _ _ _ _ _ (by omega) (λi hi=>ih i (by omega) hi (h2 i (by omega))) (by omega) λi hi=>ih' i (by omega) hi (h4 i (by omega))
inductive Dg:List AV->Prop
 |nil:Dg []
 |cons {x l} (h:Imm x) (t:Dg l):Dg (x ::l)
theorem Dg.get{l:List AV}(h:Dg l):∀i (hi:i<l.length),Imm l[i]:=by
 induction h with
 |nil=>exact λi hi=>by cases hi
 |cons h _ ih=>exact λi hi=>by cases i with
  |zero=>exact h
  |succ i=>exact ih i (by simpa using hi)
inductive Wy(st:St):List AV->List AV->Prop
 |nil:Wy st [] []
 |cons {x y l r} (h:Zo st x y) (t:Wy st l r):Wy st (x ::l) (y ::r)
theorem Wy.get{st:St}{l r:List AV}(h:Wy st l r):l.length=r.length/\∀i (hi:i<l.length) (hi':i<r.length),Zo st l[i] r[i]:=by
 induction h with
 |nil=>exact ⟨rfl,λi hi=>by cases hi⟩
 |cons h _ ih =>
  refine ⟨by simp [ih.1],λi hi hi'=>?_⟩
  cases i with
  |zero=>exact h
  |succ i=>exact ih.2 i (by simpa using hi) (by simpa using hi')
theorem zti{P:Program}{f:FuncId}{args:List AV}{st:St}{res:AV}{K:AV->St->Prop}(h:Xm P f args res)(hi:Dg args)(hk:K res st):Uv P f args st K:=by
 refine ⟨h.1,λA m w vals hR hv=>(h.2 A w vals hR.aok ⟨hv.1,λi hi'=>(hi.get i hi').vi (hv.2 i hi')⟩).mono λe w' ⟨v,A',he,hg,hx,hvi⟩=>?_⟩;obtain ⟨h1,h2⟩:=hR.grow (A':=A') hg hx.sub hx.new hx.fn;exact ⟨v,_,m,st,res,he,h1,h2,.imm hvi,hk⟩
theorem zua{P:Program}{f:FuncId}{args:List AV}{res:AV}(h:Uv P f args [] λav st=>Zo st av res):Xm P f args res:=by
 refine ⟨h.1,λA w vals hA hv=>?_⟩;have hR:R A (λ_=>none) w []:=⟨hA.low,(λ_ _ _ _ _ h=>(by cases h)),hA.fn,hA.nLe,(λ_ _ h=>(by cases h)),(λ_ _ _ _ h=>(by cases h)),(λ_ _ h=>(by cases h)),(λ_ _ _ h=>(by simp at h))⟩;refine (h.2 A (λ_=>none) w vals hR ⟨hv.1,λi hi=>.imm (hv.2 i hi)⟩).mono λe w' ⟨v,A',m',st',av,he,hR',hS,hv',hs⟩=>?_;have hg:XK w w':=⟨hS.size,(λB hB=>hS.heap B hB (λl b hb=>(by cases hb))),hS.os,hS.tape,hS.output⟩;refine ⟨v,zGh A' m',he,hg,⟨λB k hB=>.inl (hS.aSub B k hB),λB k hB=>?_,hR'.ownFun⟩,hs.vi hR' (λ_ _ h=>.inl h) (λl b hb hh=>.inr ⟨l,b,hb,hh,rfl,rfl⟩) hv'⟩
 rcases hB with hB |⟨l,b,hb,hh,rfl,_⟩
 .rcases hS.aNew B k hB with h1 |h1 |⟨_,_,h1,_⟩
  .exact .inl h1
  .exact .inr ⟨h1,hR'.aLow B k hB⟩
  .cases h1
 .rcases hS.mNew l b hb hh with h1 |⟨_,_,h1,_⟩
  .exact .inr ⟨h1,hR'.low hb hh⟩
  .cases h1

end
end Go.Proofs.YthmnlfenkhmmhaaGreat
