/- CodeAll: for every input the law returns true, and each argument reads as it read before. No further condition. Part 1 of 9. -/
import Derived.Calls
import Derived.Orders
import Derived.Deep.Quiet
import Derived.StillTail
import Derived.Laws.IdiomCopy
import Derived.Laws.AppendOwn
import Derived.Below
import Derived.KernelRfl
import Derived.Deep.AppendSrc
import Derived.Laws.IdiomStrings
import Derived.Laws.BytesArg
import Derived.Laws.Tables
import Derived.Laws.StructEq
import Derived.MapKept
import Derived.Laws.MakeOwn
import Derived.Laws.OwnMore
import Derived.Test.YthmnlfenkhmmhaaGreatProg
import Derived.Test.YthmnlfenkhmmhaaGreatRows
import Derived.ProofKit
import Derived.WalkKit
import Derived.Shelf.Sort.Plain
import Derived.Shelf.SlMaps.Clone
import Derived.IntWalk
namespace Go.Proofs.YthmnlfenkhmmhaaGreat
noncomputable section
open List (length map)
open IntKind (i64)
open Go.Proofs.Tryz
set_option linter.unusedSimpArgs false
set_option linter.unusedVariables false
set_option linter.unusedSectionVars false
abbrev YU:List Nat:=[0,1,2,3,4,5,6,7]
abbrev YV:List Nat:=[0,1,2,3,4,5,6,7,8,9,10,11,12,13,14,15,16,17,18,19,20,21,22,23]
abbrev YW:List Nat:=[0,1,2,3,4,5,6,7,8,9,10,11,12,13,14,15,16,17,18,19,20,21,22]
abbrev YX:List Nat:=[22,21,20,19,18,17,16,15,14,13,12,11,10,9,8,7,6,5,4,3,2,1,0]
abbrev YY:List Nat:=[0,1,2,3,4,5,6,7,8,9,10,11,12,13,14,15,16,17,18,19,20,21,22,23,24,25,26,27,28,29,30,31,32,33,34,35,36,37,38,39,40,41,42]
abbrev YZ:List Nat:=[42,41,40,39,38,37,36,35,34,33,32,31,30,29,28,27,26,25,24,23,22,21,20,19,18,17,16,15,14,13,12,11,10,9,8,7,6,5,4,3,2,1,0]
abbrev Y0:List Nat:=[0,1,2,3,4,5,6,7,8,9,10]
abbrev Y1:List Nat:=[0,1,2,3,4,5,6,7,8]
abbrev Y2:List Nat:=[0,1,2,3,4,5,6]
abbrev Y3:List Nat:=[0,1,2,3,4,5,6,7,8,9,10,11,12,13,14,15,16,17]
abbrev Y4:List Nat:=[0,1,2,3,4,5,6,7,8,9,10,11]
abbrev Y5:List Nat:=[0,1,2,3,4,5,6,7,8,9,10,11,12,13,14,15,16]
abbrev Y6:List Nat:=[0,1,2,3,4,5,6,7,8,9,10,11,12,13,14,15,16,17,18]
abbrev Y7:List Nat:=[17,16,15,14,13,12,11,10,9,8,7,6,5,4,3,2,1,0]
abbrev Y8:List Nat:=[0,1,2,3,4,5,6,7,8,9,10,11,12]
abbrev Y9:List Nat:=[0,1,2,3,4,5,6,7,8,9,10,11,12,13]
abbrev Va:List Nat:=[0,1,2,3,4,5,6,7,8,9]
abbrev Vb:List Nat:=[0,1,2,3,4,5,6,7,8,9,10,11,12,13,14,15,16,17,18,19,20,21]
abbrev Vc:List Nat:=[21,20,19,18,17,16,15,14,13,12,11,10,9,8,7,6,5,4,3,2,1,0]
abbrev Vd:List Nat:=[0,1,2,3,4,5,6,7,8,9,10,11,12,13,14,15,16,17,18,19,20,21,22,23,24,25,26,27,28,29]
abbrev Ve:List Nat:=[0,1,2,3,4,5,6,7,8,9,10,11,12,13,14,15,16,17,18,19,20,21,22,23,24,25,26,27]
abbrev Vf:List Nat:=[27,26,25,24,23,22,21,20,19,18,17,16,15,14,13,12,11,10,9,8,7,6,5,4,3,2,1,0]
theorem YF:type_of%@cond_true:=@cond_true
theorem YG:type_of%@cond_false:=@cond_false
theorem YH:type_of%@decide_eq_true:=@decide_eq_true
theorem YI:type_of%@decide_eq_false:=@decide_eq_false
theorem YJ:type_of%@decide_eq_true_eq:=@decide_eq_true_eq
theorem YK:type_of%@if_pos:=@if_pos
theorem YL:type_of%@beq_self_eq_true:=@beq_self_eq_true
theorem YM:type_of%@if_neg:=@if_neg
theorem YN:type_of%@beq_iff_eq:=@beq_iff_eq
theorem YO:type_of%@of_decide_eq_true:=@of_decide_eq_true
theorem YP:type_of%@eq_of_beq:=@eq_of_beq
theorem YQ:type_of%@if_true:=@if_true
theorem YR:type_of%@of_decide_eq_false:=@of_decide_eq_false
theorem YS:type_of%@decide_eq_false_iff_not:=@decide_eq_false_iff_not
theorem YT:type_of%@if_false:=@if_false
theorem YA{p:Prop}(z:p:=by omega):p:=z
theorem YB{p:Prop}(z:p:=by decide):p:=z
theorem YC{p:Prop}(z:p:=by simp):p:=z
theorem YD{p:Prop}(z:p:=by kernel_rfl):p:=z
theorem YE{p:Prop}(z:p:=by assumption):p:=z
variable {a:Addr}{es:Array MapEntry}{j nb Fe n i l:Nat}{A':Nat->Prop}{v:Value}{w':World}
theorem Qa:type_of%@Option.bind_some:=@Option.bind_some
theorem Qb:type_of%@List.getElem?_eq_some_iff:=@List.getElem?_eq_some_iff
theorem Qc:type_of%@List.mem_of_getElem?:=@List.mem_of_getElem?
theorem Qd:type_of%@Bool.and_eq_true:=@Bool.and_eq_true
theorem Qe:type_of%@List.getElem?_eq_getElem:=@List.getElem?_eq_getElem
theorem Qf:type_of%@List.eq_nil_of_length_eq_zero:=@List.eq_nil_of_length_eq_zero
theorem Qg:type_of%@Nat.le_refl:=@Nat.le_refl
theorem Qh:type_of%@Bool.or_eq_false_iff:=@Bool.or_eq_false_iff
theorem Qi:type_of%@Array.getD_eq_getD_getElem?:=@Array.getD_eq_getD_getElem?
theorem Qj:type_of%@List.getElem_mem:=@List.getElem_mem
theorem Qk:type_of%@Nat.zero_le:=@Nat.zero_le
theorem Ql:type_of%@List.getD_eq_getElem?_getD:=@List.getD_eq_getElem?_getD
theorem Qm:type_of%@Bool.not_eq_true':=@Bool.not_eq_true'
theorem Qn:type_of%@Nat.eq_of_beq_eq_true:=@Nat.eq_of_beq_eq_true
theorem Qo:type_of%@Bool.not_true:=@Bool.not_true
theorem Qp:type_of%@List.mem_append:=@List.mem_append
theorem Qq:type_of%@List.any_eq_false:=@List.any_eq_false
theorem Qr:type_of%@List.all_eq_true:=@List.all_eq_true
theorem Qs:type_of%@List.getElem?_append_left:=@List.getElem?_append_left
theorem Qt:type_of%@List.getElem?_append_right:=@List.getElem?_append_right
theorem Qu:type_of%@List.mem_cons:=@List.mem_cons
theorem Qv:type_of%@Bool.or_eq_true:=@Bool.or_eq_true
theorem Qw:type_of%@List.length_cons:=@List.length_cons
theorem Qx:type_of%@List.length_append:=@List.length_append
theorem Qy:type_of%@List.append_nil:=@List.append_nil
theorem Qz:type_of%@List.foldl_cons:=@List.foldl_cons
theorem QA:type_of%@List.reverse_singleton:=@List.reverse_singleton
theorem QB:type_of%@List.any_eq_true:=@List.any_eq_true
theorem QC:type_of%@List.mem_singleton:=@List.mem_singleton
theorem QD:type_of%@Bool.true_and:=@Bool.true_and
theorem QE:type_of%@Nat.le_of_ble_eq_true:=@Nat.le_of_ble_eq_true
theorem QG:type_of%@List.mem_of_find?_eq_some:=@List.mem_of_find?_eq_some
theorem QH:type_of%@List.getElem?_set_ne:=@List.getElem?_set_ne
theorem QI:type_of%@Bool.not_false:=@Bool.not_false
theorem QJ:type_of%@Bool.eq_iff_iff:=@Bool.eq_iff_iff
theorem QK:type_of%@Nat.le_trans:=@Nat.le_trans
theorem QL:type_of%@Nat.lt_succ_self:=@Nat.lt_succ_self
theorem QM:type_of%@List.getElem?_set_self:=@List.getElem?_set_self
theorem QN:type_of%@Nat.zero_add:=@Nat.zero_add
theorem QO:type_of%@List.length_take:=@List.length_take
theorem QP:type_of%@List.mem_map:=@List.mem_map
theorem QQ:type_of%@List.exists_of_findSome?_eq_some:=@List.exists_of_findSome?_eq_some
theorem QR:type_of%@Bool.false_or:=@Bool.false_or
theorem QS:type_of%@Option.map_some:=@Option.map_some
theorem QT:type_of%@Bool.not_eq_false':=@Bool.not_eq_false'
theorem QU:type_of%@Array.getElem?_eq_getElem:=@Array.getElem?_eq_getElem
theorem QV:type_of%@Nat.add_mul:=@Nat.add_mul
theorem QW:type_of%@Nat.add_assoc:=@Nat.add_assoc
theorem QX:type_of%@List.prefix_refl:=@List.prefix_refl
theorem QY:type_of%@List.length_map:=@List.length_map
theorem QZ:type_of%@Nat.mul_le_mul_right:=@Nat.mul_le_mul_right
theorem Q0:type_of%@Bool.and_eq_true_iff:=@Bool.and_eq_true_iff
theorem Q1:type_of%@Nat.lt_of_lt_of_le:=@Nat.lt_of_lt_of_le
theorem Q2:type_of%@List.any_cons:=@List.any_cons
theorem Q3:type_of%@List.getElem?_cons_zero:=@List.getElem?_cons_zero
theorem Q4:type_of%@List.append_assoc:=@List.append_assoc
theorem Q5:type_of%@Bool.or_false:=@Bool.or_false
theorem Q6:type_of%@List.length_nil:=@List.length_nil
theorem Q7:type_of%@List.findSome?_cons:=@List.findSome?_cons
theorem Q8:type_of%@List.mem_append_left:=@List.mem_append_left
theorem Q9:type_of%@List.getElem_cons_zero:=@List.getElem_cons_zero
theorem Ja:type_of%@Int.toNat_natCast:=@Int.toNat_natCast
theorem Jb:type_of%@Array.getElem?_modify:=@Array.getElem?_modify
theorem Jc:type_of%@Bool.false_ne_true:=@Bool.false_ne_true
theorem Jd:type_of%@Array.toArray_toList:=@Array.toArray_toList
theorem Je:type_of%@Nat.add_zero:=@Nat.add_zero
theorem Jf:type_of%@Bool.and_false:=@Bool.and_false
theorem Jg:type_of%@List.length_set:=@List.length_set
theorem Jh:type_of%@List.nodup_cons:=@List.nodup_cons
theorem Ji:type_of%@List.mem_filter:=@List.mem_filter
theorem Jj:type_of%@List.getElem?_eq_none:=@List.getElem?_eq_none
theorem Jk:type_of%@Option.getD_some:=@Option.getD_some
theorem Jl:type_of%@List.mem_cons_of_mem:=@List.mem_cons_of_mem
theorem Jm:type_of%@Bool.false_and:=@Bool.false_and
theorem Jn:type_of%@List.getElem?_map:=@List.getElem?_map
theorem Jo:type_of%@List.nil_append:=@List.nil_append
theorem Jp:type_of%@List.map_congr_left:=@List.map_congr_left
theorem Jq:type_of%@List.takeWhile_cons:=@List.takeWhile_cons
theorem Jr:type_of%@Nat.eq_zero_or_pos:=@Nat.eq_zero_or_pos
theorem Js:type_of%@List.getLast?_eq_getElem?:=@List.getLast?_eq_getElem?
theorem Jt:type_of%@List.map_append:=@List.map_append
theorem Ju:type_of%@Bool.or_true:=@Bool.or_true
theorem Jv:type_of%@List.nodup_append:=@List.nodup_append
theorem Jw:type_of%@List.set_eq_of_length_le:=@List.set_eq_of_length_le
theorem Jx:type_of%@List.getElem_append_left:=@List.getElem_append_left
theorem Jy:type_of%@List.dropWhile_cons:=@List.dropWhile_cons
theorem Jz:type_of%@List.mem_range:=@List.mem_range
theorem JA:type_of%@List.getElem?_replicate:=@List.getElem?_replicate
theorem JB:type_of%@List.mem_reverse:=@List.mem_reverse
theorem JC:type_of%@List.getElem?_take:=@List.getElem?_take
theorem JD:type_of%@List.getElem?_drop:=@List.getElem?_drop
theorem JE:type_of%@Bool.false_eq_true:=@Bool.false_eq_true
theorem JF:type_of%@List.take_of_length_le:=@List.take_of_length_le
theorem JG:type_of%@List.drop_eq_nil_of_le:=@List.drop_eq_nil_of_le
theorem JH:type_of%@Option.isSome_some:=@Option.isSome_some
theorem JI:type_of%@Bool.and_eq_false_iff:=@Bool.and_eq_false_iff
theorem JJ:type_of%@Array.getElem?_append_left:=@Array.getElem?_append_left
theorem JK:type_of%@List.nodup_nil:=@List.nodup_nil
theorem JL:type_of%@List.drop_eq_getElem_cons:=@List.drop_eq_getElem_cons
theorem JM:type_of%@List.getElem?_eq_none_iff:=@List.getElem?_eq_none_iff
theorem JN:type_of%@List.pairwise_iff_getElem:=@List.pairwise_iff_getElem
theorem JO:type_of%@List.getElem_of_mem:=@List.getElem_of_mem
theorem JP:type_of%@List.getElem?_take_of_lt:=@List.getElem?_take_of_lt
theorem JQ:type_of%@Bool.or_assoc:=@Bool.or_assoc
theorem JR:type_of%@Bool.and_self:=@Bool.and_self
theorem JS:type_of%@UInt8.toNat_inj:=@UInt8.toNat_inj
theorem JT:type_of%@List.find?_eq_none:=@List.find?_eq_none
theorem JU:type_of%@Nat.lt_or_ge:=@Nat.lt_or_ge
theorem JV:type_of%@Sum.elim_inl:=@Sum.elim_inl
theorem JW:type_of%@List.take_add_one:=@List.take_add_one
theorem JX:type_of%@Nat.succ_le_of_lt:=@Nat.succ_le_of_lt
theorem JY:type_of%@Array.getElem?_setIfInBounds_ne:=@Array.getElem?_setIfInBounds_ne
theorem JZ:type_of%@Nat.div_lt_iff_lt_mul:=@Nat.div_lt_iff_lt_mul
theorem J0:type_of%@Array.size_eq_one_iff:=@Array.size_eq_one_iff
theorem J1:type_of%@List.length_filter_le:=@List.length_filter_le
theorem J2:type_of%@List.singleton_append:=@List.singleton_append
theorem J3:type_of%@List.mem_iff_getElem?:=@List.mem_iff_getElem?
theorem J4:type_of%@List.getElem_set:=@List.getElem_set
theorem J5:type_of%@List.cons_append:=@List.cons_append
theorem J6:type_of%@List.range'_succ:=@List.range'_succ
theorem J7:type_of%@Array.eq_empty_of_size_eq_zero:=@Array.eq_empty_of_size_eq_zero
theorem J8:type_of%@List.mem_flatMap:=@List.mem_flatMap
theorem J9:type_of%@List.take_length:=@List.take_length
theorem Ya:type_of%@List.getElem_map:=@List.getElem_map
theorem Yb:type_of%@List.mem_of_mem_take:=@List.mem_of_mem_take
theorem Yc:type_of%@List.range_eq_range':=@List.range_eq_range'
theorem Yd:type_of%@List.map_id:=@List.map_id
theorem Ye:type_of%@List.mem_of_mem_drop:=@List.mem_of_mem_drop
theorem Yf:type_of%@Nat.add_le_add_right:=@Nat.add_le_add_right
theorem Yg:type_of%@Array.getElem?_setIfInBounds:=@Array.getElem?_setIfInBounds
theorem Yh:type_of%@Nat.add_comm:=@Nat.add_comm
theorem Yi:type_of%@Bool.or_self:=@Bool.or_self
theorem Yj:type_of%@List.drop_zero:=@List.drop_zero
theorem Yk:type_of%@Array.getElem?_eq_some_iff:=@Array.getElem?_eq_some_iff
theorem Yl:type_of%@List.pairwise_cons:=@List.pairwise_cons
theorem Ym:type_of%@List.getElem_append_right:=@List.getElem_append_right
theorem Yn:type_of%@Array.mapM_eq_mapM_toList:=@Array.mapM_eq_mapM_toList
theorem Yo:type_of%@List.getLast?_eq_none_iff:=@List.getLast?_eq_none_iff
theorem Yp:type_of%@List.mem_or_eq_of_mem_set:=@List.mem_or_eq_of_mem_set
theorem Yq:type_of%@List.map_cons:=@List.map_cons
theorem Yr:type_of%@List.eq_of_mem_replicate:=@List.eq_of_mem_replicate
theorem Ys:type_of%@Bool.and_true:=@Bool.and_true
theorem Yt:type_of%@List.all_cons:=@List.all_cons
theorem Yu:type_of%@List.Perm.eq_of_pairwise:=@List.Perm.eq_of_pairwise
theorem Yv:type_of%@Int.ofNat_inj:=@Int.ofNat_inj
theorem Yw:type_of%@Option.elim_some:=@Option.elim_some
theorem Yx:type_of%@List.filter_cons_of_neg:=@List.filter_cons_of_neg
theorem Yy:type_of%@List.filter_cons_of_pos:=@List.filter_cons_of_pos
theorem Yz:type_of%@Bool.not_eq_true:=@Bool.not_eq_true
theorem y{α:Sort _}{a:α}:a=a:=rfl
theorem k{m:Nat}(h:Nat.ble n m=true:=by rfl):n<=m:=QE h
theorem w{α β:Sort _}{a:α}{b:β}:a=a/\b=b:=⟨rfl,rfl⟩
theorem t:True:=True.intro
abbrev T0:=List UInt8
abbrev T1:=List T0
abbrev T2:=List (T0×Int)
inductive AV where
 |any
 |lit (v:Value)
 |isl (k:Nat) (els:List (List AV))
 |ipt (k:Nat) (els:List (List AV)) (i j:Nat)
 |msl (l i n:Nat)
 |mpt (l i j:Nat)
 |agg (cs:List AV)
 |tup (vs:List AV)
 |fn (f:Fn) (first Fu:List AV)
 |imp (els:List (List AV))
 |mmp (l:Nat)
abbrev Vt:=List AV
abbrev Vg:AV:=.mpt 0 0 0
abbrev Vh:AV:=.mpt 1 0 0
abbrev Vi:AV:=.mpt 0 0 5
abbrev Vj:AV:=.mpt 2 0 0
abbrev Vk:AV:=.mpt 3 0 0
abbrev Vl:AV:=.mpt 4 0 0
abbrev Vm:AV:=.mpt 5 0 0
abbrev Vn:AV:=.mpt 6 0 0
abbrev Vo:AV:=.mpt 7 0 0
abbrev Vp:AV:=.mpt 8 0 0
abbrev Vq:AV:=.lit undef
structure LT where
 has:Bool
 B:Nat
 o:Nat
 k:Nat
 top:Nat
 mp:Bool:=false
abbrev BM:=Nat->Option LT
abbrev St:=List (Option (Nat×List (Vt)))
def Uf(es:Array MapEntry)(i j:Nat):Value:=match es[i]? with|some e=>(match j with|0=>e.key|_=>e.val)|none=>undef
inductive VI(A:Nat->Prop)(w:World):AV->Value->Prop
 |any (v:_):VI A w .any v
 |lit (v:_):VI A w (.lit v) v
 |isl (k:Nat) (els:List (Vt)) (B o cap:Nat) (vs:Nat->Nat->Value) (hA:A B) (Fd:els.length<=cap)
   (hk:∀i (h:i<els.length),els[i].length=k)
   (hc:∀i j,i<els.length->j<k->w.cell? ⟨B,o+i*k+j,none⟩=some (vs i j))
   (hv:∀i (h:i<els.length) j (h':j<els[i].length),VI A w els[i][j] (vs i j)):
   VI A w (.isl k els) (.slice (some ⟨B,o,none⟩) els.length cap)
 |inil (k:Nat) (a:Option Addr) (cap:Nat):VI A w (.isl k []) (.slice a 0 cap)
 |ipt (k:Nat) (els:List (Vt)) (i j B o:Nat) (vs:Nat->Nat->Value) (hA:A B)
   (hk:∀i (h:i<els.length),els[i].length=k)
   (hc:∀i j,i<els.length->j<k->w.cell? ⟨B,o+i*k+j,none⟩=some (vs i j))
   (hv:∀i (h:i<els.length) j (h':j<els[i].length),VI A w els[i][j] (vs i j)):
   VI A w (.ipt k els i j) (.pointer (some ⟨B,o+i*k+j,none⟩))
 |agg (cs:Vt) (a:Array Value) (hs:a.size=cs.length) (hv:∀i (h:i<cs.length),VI A w cs[i] (a.getD i undef)):VI A w (.agg cs) (.agg a)
 |tup (cs:Vt) (a:Array Value) (hs:a.size=cs.length) (hv:∀i (h:i<cs.length),VI A w cs[i] (a.getD i undef)):VI A w (.tup cs) (.tuple a)
 |fn (f:Fn) (cs ds:Vt) (a b:Array Value) (hs:a.size=cs.length) (hv:∀i (h:i<cs.length),VI A w cs[i] (a.getD i undef))
   (FP:b.size=ds.length) (Fg:∀i (h:i<ds.length),VI A w ds[i] (b.getD i undef)):VI A w (.fn f cs ds) (.func f a b)
 |imp (els:List (Vt)) (r:Nat) (es:Array MapEntry) (clock:Nat) (hA:A r) (hh:w.heap[r]?=some (.map es clock)) (hs:es.size=els.length) (hk:∀i (h:i<els.length),els[i].length=2)
   (hv:∀i (h:i<els.length) j (h':j<els[i].length),VI A w els[i][j] (Uf es i j)):VI A w (.imp els) (.map (some r))
inductive V(A:Nat->Prop)(m:BM)(nb:Nat)(w:World):AV->Value->Prop
 |imm {av v:_} (h:VI A w av v):V A m nb w av v
 |msl (l i n:Nat) (a:Option Addr) (n' cap:Nat) (hl:l<nb)
   (h:∀b,m l=some b->n'=n/\n<=cap/\(cap=0\/(b.has=true/\b.mp=false/\a=some ⟨b.B,b.o+i*b.k,none⟩/\b.o+(i+cap)*b.k<=b.top))):V A m nb w (.msl l i n) (.slice a n' cap)
 |mpt (l i j:Nat) (a:Option Addr) (hl:l<nb) (h:∀b,m l=some b->b.has=true/\b.mp=false/\a=some ⟨b.B,b.o+i*b.k+j,none⟩):V A m nb w (.mpt l i j) (.pointer a)
 |agg (cs:Vt) (a:Array Value) (hs:a.size=cs.length) (hv:∀i (h:i<cs.length),V A m nb w cs[i] (a.getD i undef)):V A m nb w (.agg cs) (.agg a)
 |tup (cs:Vt) (a:Array Value) (hs:a.size=cs.length) (hv:∀i (h:i<cs.length),V A m nb w cs[i] (a.getD i undef)):V A m nb w (.tup cs) (.tuple a)
 |fn (f:Fn) (cs ds:Vt) (a b:Array Value) (hs:a.size=cs.length) (hv:∀i (h:i<cs.length),V A m nb w cs[i] (a.getD i undef))
   (FP:b.size=ds.length) (Fg:∀i (h:i<ds.length),V A m nb w ds[i] (b.getD i undef)):V A m nb w (.fn f cs ds) (.func f a b)
 |mmp (l:Nat) (r:Option Nat) (hl:l<nb) (h:∀b,m l=some b->b.has=true/\b.mp=true/\r=some b.B):V A m nb w (.mmp l) (.map r)
def VL(A:Nat->Prop)(m:BM)(nb:Nat)(w:World)(cs:Vt)(a:Array Value):Prop:=a.size=cs.length/\∀i (h:i<cs.length),V A m nb w cs[i] (a.getD i undef)
def Nt(A:Nat->Prop)(w:World)(cs:Vt)(a:Array Value):Prop:=a.size=cs.length/\∀i (h:i<cs.length),VI A w cs[i] (a.getD i undef)
def fz(w:World)(a:Addr):Bool:=match w.heap[a.block]? with|some (.cells _ _ (lo,hi))=>decide (lo<=a.off)&&!(lo==hi)|_=>false
theorem SN{w:World}(h:fz w a=false):w.frozen? a=false:=by
 unfold fz at h;unfold World.frozen?;split;.rename_i c e lo hi hq;rw[hq]at h;simp at h ⊢;intro h1;have:=h h1;omega
 rfl
theorem zDe{w:World}{b:Addr}:fz (w.setCell a v) b=fz w b:=by
 simp only[World.setCell,fz,Jb];by_cases hb:a.block=b.block
 .simp only[hb,YQ]
  cases hh:w.heap[b.block]? with
  |none=>simp
  |some x=>cases x<;>simp
 simp[hb]
theorem uY(b:Nat):∀(vs:List Value) (o:Nat) (w:World) (x:Addr),fz (w.setCells b o vs) x=fz w x
 |[],_,_,_=>rfl
 |v::r,o,w,x=>by rw[World.setCells,uY b r,zDe]
theorem Tw{w:World}(c:Array Value)(t:TypeId)(i:Nat):fz (w.alloc (.cells c t)) ⟨w.heap.size,i,none⟩=false:=by
 have hh:(w.alloc (.cells c t)).heap[w.heap.size]?=some (.cells c t):=by
  show(w.heap.push _)[w.heap.size]?=_;simp
 simp only[fz,hh];simp
structure GW(A:Nat->Prop)(m:BM)(nb:Nat)(w:World)(b:LT)(els:List (Vt)):Prop where
 low:b.B<w.heap.size
 there:b.mp=false->∀off,off<b.top->∃v,w.cell? ⟨b.B,off,none⟩=some v
 free:b.mp=false->∀off,off<b.top->fz w ⟨b.B,off,none⟩=false
 fit:b.mp=false->b.o+els.length*b.k<=b.top
 wide:∀i (h:i<els.length),els[i].length=b.k
 val:b.mp=false->∀i (h:i<els.length) j (h':j<els[i].length),∃v,w.cell? ⟨b.B,b.o+i*b.k+j,none⟩=some v/\V A m nb w els[i][j] v
 mval:b.mp=true->b.k=2/\∃es clock,w.heap[b.B]?=some (.map es clock)/\es.size=els.length/\∀i (h:i<els.length) j (h':j<els[i].length),V A m nb w els[i][j] (Uf es i j)
structure Be(A:Nat->Prop)(m:BM)(nb:Nat)(w:World)(b:LT)(els:List (Vt)):Prop where
 low:b.B<w.heap.size
 there:∀off,off<b.top->∃v,w.cell? ⟨b.B,off,none⟩=some v
 free:∀off,off<b.top->fz w ⟨b.B,off,none⟩=false
 fit:b.o+els.length*b.k<=b.top
 wide:∀i (h:i<els.length),els[i].length=b.k
 val:∀i (h:i<els.length) j (h':j<els[i].length),∃v,w.cell? ⟨b.B,b.o+i*b.k+j,none⟩=some v/\V A m nb w els[i][j] v
theorem GW.cells{A m nb w b els}(h:GW A m nb w b els)(hm:b.mp=false):Be A m nb w b els:=⟨h.low,h.there hm,h.free hm,h.fit hm,h.wide,h.val hm⟩
theorem Be.blk{A m nb w b els}(h:Be A m nb w b els)(hm:b.mp=false):GW A m nb w b els:=⟨h.low,λ_=>h.there,λ_=>h.free,λ_=>h.fit,h.wide,λ_=>h.val,λh1=>by rw[hm]at h1;cases h1⟩
structure R(A:Nat->Prop)(m:BM)(w:World)(st:St):Prop where
 aLow:∀B,A B->B<w.heap.size
 aOwn:∀B l b,A B->m l=some b->b.has=true->b.B≠B
 inj:∀l l' b b',m l=some b->m l'=some b'->b.has=true->b'.has=true->b.B=b'.B->l=l'
 live:∀l b,m l=some b->∃els,st[l]?=some (some (b.k,els))
 blk:∀l k els,st[l]?=some (some (k,els))->∃b,m l=some b/\b.k=k/\(b.has=true->GW A m st.length w b els)/\(b.has=false->els=[])
structure Xs(A:Nat->Prop)(m:BM)(nb:Nat)(w:World)(A':Nat->Prop)(m':BM)(Fe:Nat)(w':World):Prop where
 nbLe:nb<=Fe
 size:w.heap.size<=w'.heap.size
 aSub:∀B,A B->A' B
 aNew:∀B,A' B->A B\/w.heap.size<=B\/∃l b,m l=some b/\b.has=true/\b.B=B
 mOld:∀l,l<nb->m' l=m l\/m' l=none
 mNew:∀l b,m' l=some b->b.has=true->w.heap.size<=b.B\/∃l0 b0,m l0=some b0/\b0.has=true/\b0.B=b.B
 heap:∀B,B<w.heap.size->(∀l b,m l=some b->b.has=true->b.B≠B)->w'.heap[B]?=w.heap[B]?
 os:w'.os=w.os
 tape:w'.tape=w.tape
 output:w'.output=w.output
theorem Xs.refl(A:Nat->Prop)(m:BM)(nb:Nat)(w:World):Xs A m nb w A m nb w:=⟨Qg _,Qg _,λ_ h=>h,λ_ h=>.inl h,λ_ _=>.inl rfl,λl b h h1=>.inr ⟨l,b,h,h1,rfl⟩,λ_ _ _=>rfl,rfl,rfl,rfl⟩
theorem Xs.trans{A m nb w A1 m1 nb1 w1 A2 m2 nb2 w2}(h:Xs A m nb w A1 m1 nb1 w1)(k:Xs A1 m1 nb1 w1 A2 m2 nb2 w2):Xs A m nb w A2 m2 nb2 w2 where
 nbLe:=QK h.nbLe k.nbLe
 size:=QK h.size k.size
 aSub:=λB hB=>k.aSub B (h.aSub B hB)
 aNew:=λB hB=>by
  rcases k.aNew B hB with h1|h1|⟨l0,b0,h1,hh0,h2⟩
  .exact h.aNew B h1
  .exact .inr (.inl (QK h.size h1))
  rcases h.mNew l0 b0 h1 hh0 with h3|⟨l1,b1,h3,hh1,h4⟩
  .exact .inr (.inl (h2▸h3))
  exact .inr (.inr ⟨l1,b1,h3,hh1,h4.trans h2⟩)
 mOld:=λl hl=>by
  rcases k.mOld l (Q1 hl h.nbLe)with h1|h1
  .rw[h1];exact h.mOld l hl
  exact .inr h1
 mNew:=λl b hb hh=>by
  rcases k.mNew l b hb hh with h1|⟨l0,b0,h1,hh0,h2⟩
  .exact .inl (QK h.size h1)
  rcases h.mNew l0 b0 h1 hh0 with h3|⟨l1,b1,h3,hh1,h4⟩
  .exact .inl (h2▸h3)
  exact .inr ⟨l1,b1,h3,hh1,h4.trans h2⟩
 heap:=λB hB ho=>by
  rw[k.heap B (Q1 hB h.size) ?_,h.heap B hB ho];intro l b hb hh he
  rcases h.mNew l b hb hh with h1|⟨l0,b0,h1,hh0,h2⟩
  .omega
  exact ho l0 b0 h1 hh0 (h2.trans he)
 os:=k.os.trans h.os
 tape:=k.tape.trans h.tape
 output:=k.output.trans h.output
theorem Xs.weak{A m nb w A1 m1 nb1 w1}(h:Xs A m nb w A1 m1 nb1 w1){nb0:Nat}(h0:nb0<=nb):Xs A m nb0 w A1 m1 nb1 w1:={ h with nbLe:=QK h0 h.nbLe,mOld:=λl hl=>h.mOld l (Q1 hl h0)}
theorem Xs.trans0{A m nb w A1 m1 nb1 w1 A2 m2 nb2 w2}(h:Xs A m nb w A1 m1 nb1 w1)(k:Xs A1 m1 nb w1 A2 m2 nb2 w2):Xs A m nb w A2 m2 nb2 w2 where
 nbLe:=k.nbLe
 size:=QK h.size k.size
 aSub:=λB hB=>k.aSub B (h.aSub B hB)
 aNew:=λB hB=>by
  rcases k.aNew B hB with h1|h1|⟨l0,b0,h1,hh0,h2⟩
  .exact h.aNew B h1
  .exact .inr (.inl (QK h.size h1))
  rcases h.mNew l0 b0 h1 hh0 with h3|⟨l1,b1,h3,hh1,h4⟩
  .exact .inr (.inl (h2▸h3))
  exact .inr (.inr ⟨l1,b1,h3,hh1,h4.trans h2⟩)
 mOld:=λl hl=>by
  rcases k.mOld l hl with h1|h1
  .rw[h1];exact h.mOld l hl
  exact .inr h1
 mNew:=λl b hb hh=>by
  rcases k.mNew l b hb hh with h1|⟨l0,b0,h1,hh0,h2⟩
  .exact .inl (QK h.size h1)
  rcases h.mNew l0 b0 h1 hh0 with h3|⟨l1,b1,h3,hh1,h4⟩
  .exact .inl (h2▸h3)
  exact .inr ⟨l1,b1,h3,hh1,h4.trans h2⟩
 heap:=λB hB ho=>by
  rw[k.heap B (Q1 hB h.size) ?_,h.heap B hB ho];intro l b hb hh he
  rcases h.mNew l b hb hh with h1|⟨l0,b0,h1,hh0,h2⟩
  .omega
  exact ho l0 b0 h1 hh0 (h2.trans he)
 os:=k.os.trans h.os
 tape:=k.tape.trans h.tape
 output:=k.output.trans h.output
theorem TF{w:World}{B:Nat}(h:w'.heap[B]?=w.heap[B]?)(off:Nat):w'.cell? ⟨B,off,none⟩=w.cell? ⟨B,off,none⟩:=by simp only[World.cell?,h]
theorem zDd{w:World}{B:Nat}(h:w'.heap[B]?=w.heap[B]?)(off:Nat):fz w' ⟨B,off,none⟩=fz w ⟨B,off,none⟩:=by simp only[fz,h]
theorem VI.mono{A:Nat->Prop}{w:World}(hA:∀B,A B->A' B)(hc:∀B,A B->w'.heap[B]?=w.heap[B]?){av:AV}(h:VI A w av v):VI A' w' av v:=by
 induction h with
 |any v=>exact .any v
 |lit v=>exact .lit v
 |isl k els B o cap vs hB Fd hk hcell _ ih =>
  exact .isl k els B o cap vs (hA B hB) Fd hk (λi j hi hj=>by rw[TF (hc B hB)];exact hcell i j hi hj) ih
 |inil k a cap=>exact .inil k a cap
 |ipt k els i j B o vs hB hk hcell _ ih =>
  exact .ipt k els i j B o vs (hA B hB) hk (λi j hi hj=>by rw[TF (hc B hB)];exact hcell i j hi hj) ih
 |agg cs a hs _ ih=>exact .agg cs a hs ih
 |tup cs a hs _ ih=>exact .tup cs a hs ih
 |fn f cs ds a b hs _ FP _ ih ih'=>exact .fn f cs ds a b hs ih FP ih'
 |imp els r es clock hB hh hs hk _ ih=>exact .imp els r es clock (hA r hB) ((hc r hB).trans hh) hs hk ih
theorem V.mono{A A':Nat->Prop}{m m':BM}{nb Fe:Nat}{w w':World}(hA:∀B,A B->A' B)(hc:∀B,A B->w'.heap[B]?=w.heap[B]?) (hn:nb<=Fe) (hm:∀l,l<nb->m' l=m l\/m' l=none) {av:AV} {v:Value} (h:V A m nb w av v):V A' m' Fe w' av v:=by
 induction h with
 |imm h=>exact .imm (h.mono hA hc)
 |msl l i n a n' cap hl h =>
  refine .msl l i n a n' cap YA λb hb=>?_
  rcases hm l hl with h1|h1
  .exact h b (h1▸hb)
  .rw[h1]at hb;cases hb
 |mpt l i j a hl h =>
  refine .mpt l i j a YA λb hb=>?_
  rcases hm l hl with h1|h1
  .exact h b (h1▸hb)
  .rw[h1]at hb;cases hb
 |agg cs a hs _ ih=>exact .agg cs a hs ih
 |tup cs a hs _ ih=>exact .tup cs a hs ih
 |fn f cs ds a b hs _ FP _ ih ih'=>exact .fn f cs ds a b hs ih FP ih'
 |mmp l r hl h =>
  refine .mmp l r YA λb hb=>?_
  rcases hm l hl with h1|h1
  .exact h b (h1▸hb)
  rw[h1]at hb;cases hb
theorem V.step{A:Nat->Prop}{m m':BM}{w:World}{st:St}(hR:R A m w st)(hS:Xs A m st.length w A' m' Fe w'){av:AV}(h:V A m st.length w av v):V A' m' Fe w' av v:=h.mono hS.aSub (λB hB=>hS.heap B (hR.aLow B hB) (λl b hb hh=>hR.aOwn B l b hB hb hh)) hS.nbLe hS.mOld
theorem VL.step{A A':Nat->Prop}{m m':BM}{Fe:Nat}{w w':World}{st:St}(hR:R A m w st)(hS:Xs A m st.length w A' m' Fe w'){cs:Vt}{a:Array Value} (h:VL A m st.length w cs a):VL A' m' Fe w' cs a:=⟨h.1,λi hi=>(h.2 i hi).step hR hS⟩
theorem V.lit_inv{A m nb w}{x:Value}(h:V A m nb w (.lit x) v):v=x:=by
 cases h with
 |imm h=>cases h;rfl
theorem VI.agg_inv{A w}{cs:Vt}(h:VI A w (.agg cs) v):∃a,v=.agg a/\Nt A w cs a:=by
 cases h with
 |agg cs a hs hv=>exact⟨a,rfl,hs,hv⟩
theorem V.agg_inv{A m nb w}{cs:Vt}{v:Value}(h:V A m nb w (.agg cs) v):∃a,v=.agg a/\VL A m nb w cs a:=by
 cases h with
 |imm h=>obtain⟨a,rfl,h1,h2⟩:=h.agg_inv;exact⟨a,rfl,h1,λi hi=>.imm (h2 i hi)⟩
 |agg cs a hs hv=>exact⟨a,rfl,hs,hv⟩
theorem V.tup_inv{A m nb w}{cs:Vt}(h:V A m nb w (.tup cs) v):∃a,v=.tuple a/\VL A m nb w cs a:=by
 cases h with
 |imm h=>cases h with
  |tup cs a hs hv=>exact⟨a,rfl,hs,λi hi=>.imm (hv i hi)⟩
 |tup cs a hs hv=>exact⟨a,rfl,hs,hv⟩
theorem V.fn_inv{A m nb w}{f:Fn}{cs ds:Vt}(h:V A m nb w (.fn f cs ds) v):∃a b,v=.func f a b/\VL A m nb w cs a/\VL A m nb w ds b:=by
 cases h with
 |imm h=>cases h with
  |fn f cs ds a b hs hv FP Fg=>exact⟨a,b,rfl,⟨hs,λi hi=>.imm (hv i hi)⟩,⟨FP,λi hi=>.imm (Fg i hi)⟩⟩
 |fn f cs ds a b hs hv FP Fg=>exact⟨a,b,rfl,⟨hs,hv⟩,⟨FP,Fg⟩⟩
theorem V.isl_inv{A m nb w}{k:Nat}{els:List (Vt)}(h:V A m nb w (.isl k els) v):VI A w (.isl k els) v:=by
 cases h with
 |imm h=>exact h
theorem V.ipt_inv{A m nb w}{k:Nat}{els:List (Vt)}(h:V A m nb w (.ipt k els i j) v):VI A w (.ipt k els i j) v:=by
 cases h with
 |imm h=>exact h
theorem V.msl_inv{A m nb w}(h:V A m nb w (.msl l i n) v):l<nb/\∃a n' cap,v=.slice a n' cap/\∀b,m l=some b->n'=n/\n<=cap/\(cap=0\/(b.has=true/\b.mp=false/\a=some ⟨b.B,b.o+i*b.k,none⟩/\b.o+(i+cap)*b.k<=b.top)):=by
 cases h with
 |imm h=>cases h
 |msl l i n a n' cap hl h=>exact⟨hl,a,n',cap,rfl,h⟩
theorem V.mpt_inv{A m nb w}(h:V A m nb w (.mpt l i j) v):l<nb/\∃a,v=.pointer a/\∀b,m l=some b->b.has=true/\b.mp=false/\a=some ⟨b.B,b.o+i*b.k+j,none⟩:=by
 cases h with
 |imm h=>cases h
 |mpt l i j a hl h=>exact⟨hl,a,rfl,h⟩
theorem V.mmp_inv{A m nb w}(h:V A m nb w (.mmp l) v):l<nb/\∃r,v=.map r/\∀b,m l=some b->b.has=true/\b.mp=true/\r=some b.B:=by
 cases h with
 |imm h=>cases h
 |mmp l r hl h=>exact⟨hl,r,rfl,h⟩
theorem V.imp_inv{A m nb w}{els:List (Vt)}(h:V A m nb w (.imp els) v):VI A w (.imp els) v:=by
 cases h with
 |imm h=>exact h
def AV.one:AV->Bool
 |.lit v=>v.oneCell'
 |.isl .. |.ipt .. |.msl .. |.mpt .. |.fn .. |.imp .. |.mmp ..=>true
 |_=>false
theorem V.one{A m nb w}{av:AV}(h:V A m nb w av v)(h1:av.one=true):v.oneCell'=true:=by
 cases av with
 |any=>cases h1
 |agg _=>cases h1
 |tup _=>cases h1
 |lit x=>rw[h.lit_inv];exact h1
 |isl k els=>cases h.isl_inv<;>rfl
 |ipt k els i j=>cases h.ipt_inv;rfl
 |msl l i n=>obtain⟨_,a,n',cap,rfl,_⟩:=h.msl_inv;rfl
 |mpt l i j=>obtain⟨_,a,rfl,_⟩:=h.mpt_inv;rfl
 |fn f cs ds=>obtain⟨a,b,rfl,_⟩:=h.fn_inv;rfl
 |imp els=>cases h.imp_inv;rfl
 |mmp l=>obtain⟨_,a,rfl,_⟩:=h.mmp_inv;rfl
structure Zb(w w':World):Prop where
 size:w.heap.size<=w'.heap.size
 heap:∀B,B<w.heap.size->w'.heap[B]?=w.heap[B]?
 os:w'.os=w.os
 tape:w'.tape=w.tape
 output:w'.output=w.output
theorem Zb.refl(w:World):Zb w w:=⟨Qg _,λ_ _=>rfl,rfl,rfl,rfl⟩
theorem Zb.trans{a b c:World}(h:Zb a b)(k:Zb b c):Zb a c:=⟨QK h.size k.size,λB hB=>(k.heap B (Q1 hB h.size)).trans (h.heap B hB),k.os.trans h.os,k.tape.trans h.tape,k.output.trans h.output⟩
theorem Zb.alloc(w:World)(o:Obj):Zb w (w.alloc o):=⟨YC,λB hB=>Go.RowKit.Below.heap_alloc w o B hB,rfl,rfl,rfl⟩
theorem Zb.drew(w:World):Zb w w.drew:=⟨Qg _,λ_ _=>rfl,rfl,rfl,rfl⟩
theorem GW.keep{A:Nat->Prop}{m m':BM}{w:World}{b:LT}{els:List (Vt)}(h:GW A m nb w b els)(hs:w.heap.size<=w'.heap.size)(hb:w'.heap[b.B]?=w.heap[b.B]?)(hV:∀av v,V A m nb w av v->V A' m' Fe w' av v):GW A' m' Fe w' b els where
 low:=Q1 h.low hs
 there:=λhm off ho=>by rw[TF hb];exact h.there hm off ho
 free:=λhm off ho=>by rw[zDd hb];exact h.free hm off ho
 fit:=h.fit
 wide:=h.wide
 val:=λhm i hi j hj=>by
  obtain⟨v,h1,h2⟩:=h.val hm i hi j hj;exact⟨v,by rw[TF hb];exact h1,hV _ _ h2⟩
 mval:=λhm=>by
  obtain⟨h0,es,clock,h1,h2,h3⟩:=h.mval hm;exact⟨h0,es,clock,hb.trans h1,h2,λi hi j hj=>hV _ _ (h3 i hi j hj)⟩
theorem GW.rel{A:Nat->Prop}{m m':BM}{w:World}{b:LT}{els VT:List (Vt)}(h:GW A m nb w b els)(hl:VT.length=els.length)(hr:∀i (h:i<VT.length) (h':i<els.length),VT[i].length=els[i].length/\∀j (h1:j<VT[i].length) (h2:j<els[i].length) v,V A m nb w els[i][j] v->V A' m' Fe w VT[i][j] v):GW A' m' Fe w b VT where
 low:=h.low
 there:=h.there
 free:=h.free
 fit:=by rw[hl];exact h.fit
 wide:=λi hi=>by rw[(hr i hi YA).1];exact h.wide _ _
 val:=λhm i hi j hj=>by
  have h1:=hr i hi YA;obtain⟨v,h2,h3⟩:=h.val hm i YA j (by rw[<-h1.1];exact hj);exact⟨v,h2,h1.2 j hj (by rw[<-h1.1];exact hj) v h3⟩
 mval:=λhm=>by
  obtain⟨h0,es,clock,h1,h2,h3⟩:=h.mval hm;refine⟨h0,es,clock,h1,YA,λi hi j hj=>?_⟩;have h4:=hr i hi YA;exact h4.2 j hj (by rw[<-h4.1];exact hj) _ (h3 i YA j (by rw[<-h4.1];exact hj))
theorem R.lt{A m w st}(hR:R A m w st){b:LT}(h:m l=some b):l<st.length:=by
 obtain⟨els,he⟩:=hR.live l b h
 rcases JU l st.length with h|h
 .exact h
 rw[Jj h]at he;cases he
theorem R.low{A m w st}(hR:R A m w st){l:Nat}{b:LT}(h:m l=some b)(hh:b.has=true):b.B<w.heap.size:=by obtain⟨els,he⟩:=hR.live l b h;obtain⟨b',h1,_,h3,_⟩:=hR.blk l _ els he;have:b'=b:=Option.some.inj (h1.symm.trans h);subst this;exact(h3 hh).low
theorem R.at{A m w st}(hR:R A m w st){b:LT}(h:m l=some b){k els}(he:st[l]?=some (some (k,els))):b.k=k/\(b.has=true->GW A m st.length w b els)/\(b.has=false->els=[]):=by obtain⟨b',h1,h2,h3⟩:=hR.blk l k els he;have:b'=b:=Option.some.inj (h1.symm.trans h);subst this;exact⟨h2,h3⟩
theorem R.grow{A:Nat->Prop}{m:BM}{w:World}{st:St}(hR:R A m w st)(hg:Zb w w')(hA:∀B,A B->A' B)(hA':∀B,A' B->A B\/(w.heap.size<=B/\B<w'.heap.size)):R A' m w' st/\Xs A m st.length w A' m st.length w':=by
 have hS:Xs A m st.length w A' m st.length w':=⟨Qg _,hg.size,hA,λB hB=>(hA' B hB).imp id λh=>.inl h.1,λ_ _=>.inl rfl,λl b h hh=>.inr ⟨l,b,h,hh,rfl⟩,
  λB hB _=>hg.heap B hB,hg.os,hg.tape,hg.output⟩
 refine⟨⟨λB hB=>?_,λB l b hB hm hh he=>?_,hR.inj,hR.live,λl k els he=>?_⟩,hS⟩
 .rcases hA' B hB with h|h
  .exact Q1 (hR.aLow B h) hg.size
  exact h.2
 .rcases hA' B hB with h|h
  .exact hR.aOwn B l b h hm hh he
  have:=hR.low hm hh;omega
 obtain⟨b,h1,h2,h3,h4⟩:=hR.blk l k els he;exact⟨b,h1,h2,λhh=>(h3 hh).keep hg.size (hg.heap _ (h3 hh).low) λav v hv=>hv.step hR hS,h4⟩
theorem R.grow'{A:Nat->Prop}{m:BM}{w:World}{st:St}(hR:R A m w st)(hg:Zb w w'):R A m w' st/\Xs A m st.length w A m st.length w':=hR.grow hg (λ_ h=>h) (λ_ h=>.inl h)
def BM.put(m:BM)(l:Nat)(b:Option LT):BM:=λx=>if x=l then b else m x
theorem R.swapG{A:Nat->Prop}{m:BM}{w:World}{st:St}(hR:R A m w st)(l:Nat)(b':LT)(els:List (Vt))(V1:w.heap.size<=w'.heap.size)(FG:w'.os=w.os)(FF:w'.tape=w.tape)(V9:w'.output=w.output)(Fy:∀B,B<w.heap.size->(∀b,m l=some b->b.has=true->b.B≠B)->w'.heap[B]?=w.heap[B]?)(Fo:b'.has=true->w.heap.size<=b'.B\/∃b,m l=some b/\b.has=true/\b.B=b'.B)(FQ:b'.has=true->b'.B<w'.heap.size)(FZ:b'.has=false->els=[])(V7:b'.has=true->b'.mp=false->∀off,off<b'.top->∃v,w'.cell? ⟨b'.B,off,none⟩=some v)(Ft:b'.has=true->b'.mp=false->∀off,off<b'.top->fz w' ⟨b'.B,off,none⟩=false)(Fc:b'.has=true->b'.mp=false->b'.o+els.length*b'.k<=b'.top)(hw:∀i (h:i<els.length),els[i].length=b'.k)(hv:b'.has=true->b'.mp=false->∀i (h:i<els.length) j (h':j<els[i].length),∃v,w'.cell? ⟨b'.B,b'.o+i*b'.k+j,none⟩=some v/\V A m st.length w els[i][j] v)(hmv:b'.has=true->b'.mp=true->b'.k=2/\∃es clock,w'.heap[b'.B]?=some (.map es clock)/\es.size=els.length/\∀i (h:i<els.length) j (h':j<els[i].length),V A m st.length w els[i][j] (Uf es i j)):R A ((m.put l none).put st.length (some b')) w' (st.set l none++[some (b'.k,els)])/\Xs A m st.length w A ((m.put l none).put st.length (some b')) (st.length+1) w':=by
 have hS:Xs A m st.length w A ((m.put l none).put st.length (some b')) (st.length+1) w':=by
  refine⟨Nat.le_succ _,V1,λ_ h=>h,λ_ h=>.inl h,λx hx=>?_,λx b h hh=>?_,λB hB ho=>Fy B hB (ho l),FG,FF,V9⟩
  .simp only[BM.put];rw[YM YA];split;.exact .inr rfl
   exact .inl rfl
  simp only[BM.put]at h;split at h
  .cases h
   rcases Fo hh with h1|⟨b,h1,h2,h3⟩
   .exact .inl h1
   exact .inr ⟨l,b,h1,h2,h3⟩
  split at h
  .cases h
  exact .inr ⟨x,b,h,hh,rfl⟩
 have hV:∀av v,V A m st.length w av v->V A ((m.put l none).put st.length (some b')) (st.length+1) w' av v:=λav v h=>h.step hR hS
 have VR:(st.set l none++[some (b'.k,els)]).length=st.length+1:=YC
 have hold:∀x b,((m.put l none).put st.length (some b')) x=some b->x≠st.length->x≠l/\m x=some b:=λx b h hx=>by
  simp only[BM.put,YM hx]at h;split at h;.cases h
  exact⟨YE,h⟩
 have hapart:∀x b,x≠l->m x=some b->b.has=true->b'.has=true->b.B≠b'.B:=λx b hx hb hh hh' he=>by
  rcases Fo hh' with h1|⟨b1,h1,h2,h3⟩
  .have:=hR.low hb hh;omega
  exact hx (hR.inj x l b b1 hb h1 hh h2 (he.trans h3.symm))
 refine⟨⟨λB hB=>Q1 (hR.aLow B hB) V1,λB1 x b h1 h2 hh h3=>?_,λx x' b1 b2 h1 h2 hh1 hh2 h3=>?_,λx b h=>?_,λx k1 els1 he=>?_⟩,hS⟩
 .by_cases e:x=st.length
  .subst e;simp[BM.put]at h2;subst h2
   rcases Fo hh with h4|⟨b1,h4,h5,h6⟩
   .have:=hR.aLow B1 h1;omega
   exact hR.aOwn B1 l b1 h1 h4 h5 (h6.trans h3)
  exact hR.aOwn B1 x b h1 (hold x b h2 e).2 hh h3
 .by_cases e:x=st.length<;>by_cases e':x'=st.length;.rw[e,e']
  .subst e;simp[BM.put]at h1;subst h1;obtain⟨h4,h5⟩:=hold x' b2 h2 e';exact absurd h3.symm (hapart x' b2 h4 h5 hh2 hh1)
  .subst e';simp[BM.put]at h2;subst h2;obtain⟨h4,h5⟩:=hold x b1 h1 e;exact absurd h3 (hapart x b1 h4 h5 hh1 hh2)
  exact hR.inj x x' b1 b2 (hold x b1 h1 e).2 (hold x' b2 h2 e').2 hh1 hh2 h3
 .by_cases e:x=st.length;.subst e;simp[BM.put]at h;subst h;exact⟨els,YC⟩
  obtain⟨h4,h5⟩:=hold x b h e;obtain⟨VM,he⟩:=hR.live x b h5;exact⟨VM,by rw[Qs (by simpa using hR.lt h5),QH (Ne.symm h4)];exact he⟩
 rw[VR];by_cases e:x=st.length
 .subst e
  have he':some (b'.k,els)=some (k1,els1):=by simpa[Qt]using he
  simp at he';obtain⟨rfl,rfl⟩:=he';refine⟨b',by simp[BM.put],rfl,λhh=>⟨FQ hh,V7 hh,Ft hh,Fc hh,hw,λhm i hi j hj=>?_,λhm=>?_⟩,FZ⟩;.obtain⟨v,h1,h2⟩:=hv hh hm i hi j hj;exact⟨v,h1,hV _ _ h2⟩
  obtain⟨h0,es,clock,h1,h2,h3⟩:=hmv hh hm;exact⟨h0,es,clock,h1,h2,λi hi j hj=>hV _ _ (h3 i hi j hj)⟩
 have hl:x<st.length:=by
  rcases JU x st.length with h|h
  .exact h
  rw[Qt (by simpa using h),Jj (by simp;omega)]at he;cases he
 rw[Qs (by simpa using hl)]at he;by_cases e':l=x;.subst e';rw[QM hl]at he;cases he
 rw[QH e']at he;obtain⟨b,h1,h2,h3,h4⟩:=hR.blk x k1 els1 he;refine⟨b,by simp[BM.put,e,Ne.symm e',h1],h2,λhh=>(h3 hh).keep V1 (Fy _ (h3 hh).low λb1 h5 h6 h7=>e' (hR.inj l x b1 b h5 h1 h6 hh h7)) hV,h4⟩
theorem R.swap{A:Nat->Prop}{m:BM}{w:World}{st:St}(hR:R A m w st)(l:Nat)(b':LT)(els:List (Vt))(V1:w.heap.size<=w'.heap.size)(FG:w'.os=w.os)(FF:w'.tape=w.tape)(V9:w'.output=w.output)(Fy:∀B,B<w.heap.size->(∀b,m l=some b->b.has=true->b.B≠B)->w'.heap[B]?=w.heap[B]?)(Fo:b'.has=true->w.heap.size<=b'.B\/∃b,m l=some b/\b.has=true/\b.B=b'.B)(FQ:b'.has=true->b'.B<w'.heap.size)(FZ:b'.has=false->els=[])(V7:b'.has=true->∀off,off<b'.top->∃v,w'.cell? ⟨b'.B,off,none⟩=some v)(Ft:b'.has=true->∀off,off<b'.top->fz w' ⟨b'.B,off,none⟩=false)(Fc:b'.has=true->b'.o+els.length*b'.k<=b'.top)(hw:∀i (h:i<els.length),els[i].length=b'.k)(hv:b'.has=true->∀i (h:i<els.length) j (h':j<els[i].length),∃v,w'.cell? ⟨b'.B,b'.o+i*b'.k+j,none⟩=some v/\V A m st.length w els[i][j] v)(hmp:b'.mp=false:=by rfl):
  R A ((m.put l none).put st.length (some b')) w' (st.set l none++[some (b'.k,els)])/\Xs A m st.length w A ((m.put l none).put st.length (some b')) (st.length+1) w':=
 hR.swapG l b' els V1 FG FF V9 Fy Fo FQ FZ (λh _=>V7 h) (λh _=>Ft h) (λh _=>Fc h) hw (λh _=>hv h) (λ_ h=>by rw[hmp]at h;cases h)
theorem R.push{A:Nat->Prop}{m:BM}{w:World}{st:St}(hR:R A m w st)(hg:Zb w w')(b':LT)(els:List (Vt))(Fo:b'.has=true->w.heap.size<=b'.B/\b'.B<w'.heap.size)(FZ:b'.has=false->els=[])(V7:b'.has=true->∀off,off<b'.top->∃v,w'.cell? ⟨b'.B,off,none⟩=some v)(Ft:b'.has=true->∀off,off<b'.top->fz w' ⟨b'.B,off,none⟩=false)(Fc:b'.has=true->b'.o+els.length*b'.k<=b'.top)(hw:∀i (h:i<els.length),els[i].length=b'.k)(hv:b'.has=true->∀i (h:i<els.length) j (h':j<els[i].length),∃v,w'.cell? ⟨b'.B,b'.o+i*b'.k+j,none⟩=some v/\V A m st.length w els[i][j] v)(hmp:b'.mp=false:=by rfl):
  R A (m.put st.length (some b')) w' (st++[some (b'.k,els)])/\Xs A m st.length w A (m.put st.length (some b')) (st.length+1) w':=by
 have h:=hR.swap st.length b' els hg.size hg.os hg.tape hg.output (λB hB _=>hg.heap B hB) (λhh=>.inl (Fo hh).1) (λhh=>(Fo hh).2) FZ V7 Ft Fc hw hv hmp
 have e1:(m.put st.length none).put st.length (some b')=m.put st.length (some b'):=by funext x;simp only[BM.put];split<;>rfl
 have e2:st.set st.length none=st:=Jw (Qg _);rw[e1,e2]at h;exact h
theorem R.pushM{A:Nat->Prop}{m:BM}{w:World}{st:St}(hR:R A m w st):R A (m.put st.length (some ⟨true,w.heap.size,0,2,0,true⟩)) (w.alloc (.map #[] 0)) (st++[some (2,[])])/\Xs A m st.length w A (m.put st.length (some ⟨true,w.heap.size,0,2,0,true⟩)) (st.length+1) (w.alloc (.map #[] 0)):=by
 have hg:=Zb.alloc w (.map #[] 0)
 have h:=hR.swapG (w':=w.alloc (.map #[] 0)) st.length ⟨true,w.heap.size,0,2,0,true⟩ [] hg.size hg.os hg.tape hg.output (λB hB _=>hg.heap B hB) (λ_=>.inl (Qg _)) (λ_=>YC) (λh=>by cases h)
  (λ_ h=>by cases h) (λ_ h=>by cases h) (λ_ h=>by cases h) (λi hi=>by cases hi) (λ_ h=>by cases h)
  (λ_ _=>⟨rfl,#[],0,by show(w.heap.push _)[w.heap.size]?=_;simp,rfl,λi hi=>by cases hi⟩)
 have e1:(m.put st.length none).put st.length (some ⟨true,w.heap.size,0,2,0,true⟩)=m.put st.length (some ⟨true,w.heap.size,0,2,0,true⟩):=by funext x;simp only[BM.put];split<;>rfl
 have e2:st.set st.length none=st:=Jw (Qg _);rw[e1,e2]at h;exact h
theorem R.setM{A:Nat->Prop}{m:BM}{w:World}{st:St}(hR:R A m w st){els VM:List (Vt)}(hl:st[l]?=some (some (2,els))){b:LT}(hb:m l=some b)(hh:b.has=true)(hm:b.mp=true){clock:Nat}(V8:es.size=VM.length)(hk:∀i (h:i<VM.length),VM[i].length=2)(hv:∀i (h:i<VM.length) j (h':j<VM[i].length),V A m st.length w VM[i][j] (Uf es i j)):R A m { w with heap:=w.heap.set! b.B (.map es clock)} (st.set l (some (2,VM)))/\Xs A m st.length w A m st.length { w with heap:=w.heap.set! b.B (.map es clock)}:=by
 obtain⟨hbk,VW,_⟩:=hR.at hb hl;replace VW:=VW hh
 have V1:(w.heap.set! b.B (.map es clock)).size=w.heap.size:=YC
 have Fs:∀B,B≠b.B->(w.heap.set! b.B (.map es clock))[B]?=w.heap[B]?:=λB hB=>by simp[Yg,Ne.symm hB]
 have hself:(w.heap.set! b.B (.map es clock))[b.B]?=some (.map es clock):=by simp[Yg,VW.low]
 have hS:Xs A m st.length w A m st.length { w with heap:=w.heap.set! b.B (.map es clock)}:=
  ⟨Qg _,YC,λ_ h=>h,λ_ h=>.inl h,λ_ _=>.inl rfl,λl b h hh=>.inr ⟨l,b,h,hh,rfl⟩,
   λB _ ho=>Fs B (λe=>ho l b hb hh e.symm),rfl,rfl,rfl⟩
 have hV:∀av v,V A m st.length w av v->V A m st.length { w with heap:=w.heap.set! b.B (.map es clock)} av v:=λav v h=>h.step hR hS
 have hlt:l<st.length:=hR.lt hb;refine⟨⟨λB hB=>by show B<(w.heap.set! b.B _).size;rw[V1];exact hR.aLow B hB,hR.aOwn,hR.inj,λl' b' h=>?_,λl' k' els1 he=>?_⟩,hS⟩
 .obtain⟨els1,he⟩:=hR.live l' b' h;by_cases e:l'=l;.subst e;have:b'=b:=Option.some.inj (h.symm.trans hb);subst this;exact⟨VM,by simp[hlt,hbk]⟩
  exact⟨els1,by rw[QH (Ne.symm e)];exact he⟩
 rw[Jg];by_cases e:l'=l
 .subst e;rw[QM hlt]at he;simp at he;obtain⟨rfl,rfl⟩:=he
  refine⟨b,hb,hbk,λ_=>⟨by show b.B<(w.heap.set! b.B _).size;rw[V1];exact VW.low,(λh=>by rw[hm]at h;cases h),(λh=>by rw[hm]at h;cases h),(λh=>by rw[hm]at h;cases h),(λi hi=>by rw[hbk];exact hk i hi),(λh=>by rw[hm]at h;cases h),
   λ_=>⟨hbk,es,clock,hself,V8,λi hi j hj=>hV _ _ (hv i hi j hj)⟩⟩,λh=>by rw[hh]at h;cases h⟩
 rw[QH (Ne.symm e)]at he;obtain⟨b',h1,h2,h3,h4⟩:=hR.blk l' k' els1 he;refine⟨b',h1,h2,λhh'=>(h3 hh').keep (by show w.heap.size<=(w.heap.set! b.B _).size;rw[V1];exact Qg _) (Fs _ (λe'=>e (hR.inj l' l b' b h1 hb hh' hh e'))) hV,h4⟩
theorem TB(b:Nat):∀(vs:List Value) (o:Nat) (w:World) (k:Nat),k≠b->(w.setCells b o vs).heap[k]?=w.heap[k]?
 |[],_,_,_,_=>rfl
 |v::r,o,w,k,h=>by rw[World.setCells,TB b r (o+1) _ k h,Go.RowKit.Below.heap_setCell _ _ _ _ (by simpa using h)]
theorem kH(b:Nat):∀(vs:List Value) (o:Nat) (w:World),(w.setCells b o vs).heap.size=w.heap.size
 |[],_,_=>rfl
 |v::r,o,w=>by rw[World.setCells,kH b r];simp[World.setCell]
theorem uL(b:Nat):∀(vs:List Value) (o:Nat) (w:World),(w.setCells b o vs).os=w.os/\(w.setCells b o vs).tape=w.tape/\(w.setCells b o vs).output=w.output
 |[],_,_=>⟨rfl,rfl,rfl⟩
 |v::r,o,w=>by rw[World.setCells];exact uL b r (o+1) _
theorem eE(b o:Nat)(vs:List Value)(w:World)(hh:∀j,j<vs.length->∃u,w.cell? ⟨b,o+j,none⟩=some u)(off:Nat)(h:w.cell? ⟨b,off,none⟩=some v):∃v,(w.setCells b o vs).cell? ⟨b,off,none⟩=some v:=by
 by_cases ho:o<=off/\off<o+vs.length;.have:=World.cell?_setCells_in b vs o w (λj hj=>by obtain⟨u,hu⟩:=hh j hj;simp[hu]) (off-o) YA;rw[show o+(off-o)=off by omega]at this;exact⟨_,this⟩
 exact⟨v,by rw[World.cell?_setCells_out b vs o w _ (λ_ _=>by simp;omega)];exact h⟩
theorem Gl{i' k:Nat}(h:i'<i)(hj:j<k):i'*k+j<i*k:=by have h1:(i'+1)*k<=i*k:=QZ k h;rw[QV,Nat.one_mul]at h1;omega
def Ku(els:List (Vt))(i j:Nat)(cs:Vt):List (Vt):=
 match els[i]? with
 |some r=>els.set i (r.take j++cs++r.drop (j+cs.length))
 |none=>els
theorem R.store{A:Nat->Prop}{m:BM}{w:World}{st:St}(hR:R A m w st){k:Nat}{els:List (Vt)}(hl:st[l]?=some (some (k,els))){b:LT}(hb:m l=some b)(hh:b.has=true)(hm:b.mp=false)(i j:Nat)(cs:Vt)(vs:List Value)(hi:i<els.length)(hj:j+cs.length<=k)(hn:vs.length=cs.length)(hv:∀q (h:q<cs.length),V A m st.length w cs[q] (vs.getD q undef)):R A m (w.setCells b.B (b.o+i*b.k+j) vs) (st.set l (some (k,Ku els i j cs)))/\Xs A m st.length w A m st.length (w.setCells b.B (b.o+i*b.k+j) vs):=by
 obtain⟨hk,VW,_⟩:=hR.at hb hl;replace VW:=(VW hh).cells hm;have FG:=uL b.B vs (b.o+i*b.k+j) w;have V8:=kH b.B vs (b.o+i*b.k+j) w
 have hS:Xs A m st.length w A m st.length (w.setCells b.B (b.o+i*b.k+j) vs):=
  ⟨Qg _,by rw[V8];exact Qg _,λ_ h=>h,λ_ h=>.inl h,λ_ _=>.inl rfl,λl b h hh=>.inr ⟨l,b,h,hh,rfl⟩,
   λB _ ho=>TB _ _ _ _ _ (λe=>ho l b hb hh e.symm),FG.1,FG.2.1,FG.2.2⟩
 have hV:∀av v,V A m st.length w av v->V A m st.length (w.setCells b.B (b.o+i*b.k+j) vs) av v:=λav v h=>h.step hR hS;have hlt:l<st.length:=hR.lt hb;have Fz:els[i]?=some els[i]:=Qe hi;have hwi:els[i].length=k:=(VW.wide i hi).trans hk;have Fc:=VW.fit
 have Fm:b.o+i*b.k+j+vs.length<=b.top:=by
  have h1:(i+1)*b.k<=els.length*b.k:=QZ _ hi;rw[QV,Nat.one_mul]at h1;omega
 refine⟨⟨λB hB=>by rw[V8];exact hR.aLow B hB,hR.aOwn,hR.inj,λl' b' h=>?_,λl' k' VM he=>?_⟩,hS⟩
 .obtain⟨VM,he⟩:=hR.live l' b' h;by_cases e:l'=l;.subst e;have:b'=b:=Option.some.inj (h.symm.trans hb);subst this;exact⟨Ku els i j cs,by simp[hlt,hk]⟩
  exact⟨VM,by rw[QH (Ne.symm e)];exact he⟩
 rw[Jg];by_cases e:l'=l
 .subst e;rw[QM hlt]at he;simp at he;obtain⟨rfl,rfl⟩:=he
  have hsr:Ku els i j cs=els.set i (els[i].take j++cs++els[i].drop (j+cs.length)):=by simp[Ku,Fz]
  have Fp:(els[i].take j++cs++els[i].drop (j+cs.length)).length=k:=by simp;omega
  refine⟨b,hb,hk,λ_=>Be.blk ⟨by rw[V8];exact VW.low,λoff ho=>?_,λoff ho=>?_,?_,λi' VZ=>?_,λi' VZ j' hj'=>?_⟩ hm,λh=>by rw[hh]at h;cases h⟩;.obtain⟨v,h1⟩:=VW.there off ho;exact eE _ _ _ _ (λq hq=>VW.there _ YA) off h1
  .rw[uY];exact VW.free off ho
  .simpa[hsr]using VW.fit
  .simp only[hsr,J4];split;.rw[Fp,hk]
   exact VW.wide i' (by simpa[hsr]using VZ)
  have hi2:i'<els.length:=by simpa[hsr]using VZ
  have hw2:=VW.wide i' hi2;by_cases e:i=i'
  .subst e
   have hj2:j'<k:=by
    have:(Ku els i j cs)[i].length=k:=by simp[hsr];omega
    omega
   have hget:some ((Ku els i j cs)[i][j'])=(els[i].take j++cs++els[i].drop (j+cs.length))[j']?:=by
    simp[hsr]
   by_cases h1:j'<j
   .have h9:(els[i].take j++cs++els[i].drop (j+cs.length))[j']?=els[i][j']?:=by
     rw[Q4,Qs (by simp;omega),JC,YK h1]
    rw[h9,Qe (YA:j'<els[i].length)]at hget;rw[Option.some.inj hget];obtain⟨v,h2,h3⟩:=VW.val i hi j' YA;refine⟨v,?_,hV _ _ h3⟩;rw[World.cell?_setCells_out b.B vs _ w _ (λ_ _=>.inl (by simp;omega))];exact h2
   by_cases h2:j'<j+cs.length
   .have h9:(els[i].take j++cs++els[i].drop (j+cs.length))[j']?=cs[j'-j]?:=by
     rw[Qs (by simp;omega),Qt (by simp;omega)];congr 1;simp;omega
    rw[h9,Qe (YA:j'-j<cs.length)]at hget;rw[Option.some.inj hget];have h3:=World.cell?_setCells_in b.B vs (b.o+i*b.k+j) w (λq hq=>by obtain⟨u,hu⟩:=VW.there (b.o+i*b.k+j+q) YA;simp[hu]) (j'-j) YA;refine⟨_,by rw[show b.o+i*b.k+j'=b.o+i*b.k+j+(j'-j)by omega];exact h3,?_⟩;have h4:=hv (j'-j) YA;rw[Ql,Qe (YA:j'-j<vs.length)]at h4;exact hV _ _ (by simpa using h4)
   have h9:(els[i].take j++cs++els[i].drop (j+cs.length))[j']?=els[i][j']?:=by
    rw[Qt (by simp;omega),JD];congr 1;simp;omega
   rw[h9,Qe (YA:j'<els[i].length)]at hget;rw[Option.some.inj hget];obtain⟨v,h3,h4⟩:=VW.val i hi j' YA;refine⟨v,?_,hV _ _ h4⟩;rw[World.cell?_setCells_out b.B vs _ w _ (λ_ _=>.inr (by simp;omega))];exact h3
  have hget:(Ku els i j cs)[i']=els[i']:=by simp[hsr,e]
  have hj2:j'<els[i'].length:=by rw[<-hget];exact hj'
  have hget2:(Ku els i j cs)[i'][j']=els[i'][j']:=by simp[hsr,e]
  rw[hget2];obtain⟨v,h3,h4⟩:=VW.val i' hi2 j' hj2;refine⟨v,?_,hV _ _ h4⟩;rw[World.cell?_setCells_out b.B vs _ w _ (λ_ _=>?_)];.exact h3
  simp
  rcases Nat.lt_or_gt_of_ne e with h5|h5
  .right;have:=Gl (k:=b.k) (j:=b.k-1) h5 YA;omega
  left;have:=Gl (k:=b.k) (j:=j') h5 YA;omega
 rw[QH (Ne.symm e)]at he;obtain⟨b',h1,h2,h3,h4⟩:=hR.blk l' k' VM he;refine⟨b',h1,h2,λhh'=>(h3 hh').keep (by rw[V8];exact Qg _) (TB _ _ _ _ _ (λe'=>e (hR.inj l' l b' b h1 hb hh' hh e'))) hV,h4⟩
variable {m:BM}{r l:List Value}{q:Nat}{a:Option Addr}{P:Program}{st:St}
structure Rd(A:Nat->Prop)(m:BM)(nb:Nat)(w:World)(B o k:Nat)(els:List (Vt)):Prop where
 wide:∀i (h:i<els.length),els[i].length=k
 val:∀i (h:i<els.length) j (h':j<els[i].length),∃v,w.cell? ⟨B,o+i*k+j,none⟩=some v/\V A m nb w els[i][j] v
theorem Rd.flat{A m nb w B o k els}(h:Rd A m nb w B o k els):∃VV:List Value,VV.length=els.length*k/\(∀q u,VV[q]?=some u->w.cell? ⟨B,o+q,none⟩=some u)/\∀i (hi:i<els.length) j (hj:j<els[i].length),V A m nb w els[i][j] (VV.getD (i*k+j) undef):=by
 have key:∀q,q<els.length*k->∃i j,∃(hi:i<els.length) (hj:j<els[i].length),q=i*k+j:=λq hq=>by
  have hk:0<k:=by
   rcases Jr k with h|h
   .subst h;omega
   exact h
  have hi:q / k<els.length:=by rw[JZ hk];exact hq
  exact⟨q / k,q % k,hi,by rw[h.wide _ hi];exact Nat.mod_lt _ hk,by rw[Nat.mul_comm];exact(Nat.div_add_mod q k).symm⟩
 refine⟨(List.range (els.length*k)).map λq=>(w.cell? ⟨B,o+q,none⟩).getD undef,YC,λq u hu=>?_,λi hi j hj=>?_⟩
 .have hq:q<els.length*k:=by
   rcases JU q (els.length*k)with h|h
   .exact h
   rw[Jj (by simpa using h)]at hu;cases hu
  obtain⟨i,j,hi,hj,rfl⟩:=key q hq;obtain⟨v,h1,_⟩:=h.val i hi j hj;simp[hq,<-QW,h1]at hu;rw[<-hu,<-QW];exact h1
 obtain⟨v,h1,h2⟩:=h.val i hi j hj
 have hq:i*k+j<els.length*k:=by
  have:=Gl (k:=k) (j:=j) hi (by rw[<-h.wide i hi];exact hj);exact this
 have:((List.range (els.length*k)).map λq=>(w.cell? ⟨B,o+q,none⟩).getD undef).getD (i*k+j) undef=v:=by
  simp[hq,<-QW,h1]
 rw[this];exact h2
theorem Rd.sub{A m nb w B o k els}(h:Rd A m nb w B o k els)(i n:Nat):Rd A m nb w B (o+i*k) k ((els.drop i).take n):=by
 refine⟨λq hq=>?_,λq hq j hj=>?_⟩;.simp at hq ⊢;exact h.wide _ YA
 have hq':=hq;simp at hq'
 have e:((els.drop i).take n)[q]=els[i+q]' YA:=YC
 have hj':j<(els[i+q]' YA).length:=by rw[<-e];exact hj
 obtain⟨v,h1,h2⟩:=h.val (i+q) YA j hj';refine⟨v,?_,?_⟩;.rw[<-h1];congr 2;rw[QV];omega
 have e2:((els.drop i).take n)[q][j]=(els[i+q]' YA)[j]:=YC
 rw[e2];exact h2
theorem Be.rd{A m nb w b els}(h:Be A m nb w b els):Rd A m nb w b.B b.o b.k els:=⟨h.wide,h.val⟩
inductive TK where
 |int (k:IntKind)|bool|str|slc (e:TypeId)|agg (fs:List (Nat×Nat))|arr (n e:Nat)|ptr (e:TypeId)|other|bad
structure TI where
 k:TK
 size:Nat
 bytes:Nat
 zero:Value
def Ub(P:Program):TypeDesc->TK
 |.int k=>.int k
 |.bool=>.bool
 |.string=>.str
 |.slice e=>.slc e
 |.struct fs =>
  match fs.toList.mapM (λf=>(P.info? f.type).map λi=>(f.offset,i.size))with
  |some pl=>.agg pl
  |none=>.bad
 |.array n e=>.arr n e
 |.pointer e=>.ptr e
 |_=>.other
def Xk(P:Program)(t:TypeId):Option TI:=
 match P.underlying t,P.info? t with
 |some d,some i =>
  match i.zero with
  |some z=>if z.cells.size=i.size then some ⟨Ub P d,i.size,i.bytes,z⟩else none
  |none=>none
 |_,_=>none
theorem Zn{P t ti}(h:Xk P t=some ti):∃d i,P.underlying t=some d/\P.info? t=some i/\i.zero=some ti.zero/\i.size=ti.size/\i.bytes=ti.bytes/\Ub P d=ti.k/\ti.zero.cells.size=ti.size:=by
 unfold Xk at h;split at h
 .rename_i d i hd hi;split at h
  .rename_i z hz;split at h;.rename_i hs;cases h;exact⟨d,i,hd,hi,hz,rfl,rfl,rfl,hs⟩
   cases h
  cases h
 cases h
theorem Kt{P d e}(h:Ub P d=.slc e):d=.slice e:=by
 cases d<;>simp only[Ub]at h
 case slice=>cases h;rfl
 case struct=>split at h<;>cases h
 all_goals cases h
theorem qI{P d fs}(h:Ub P d=.agg fs):∃f,d=.struct f/\f.toList.mapM (λf=>(P.info? f.type).map λi=>(f.offset,i.size))=some fs:=by
 cases d<;>simp only[Ub]at h
 case struct =>
  split at h
  .rename_i pl hp;cases h;exact⟨_,rfl,hp⟩
  cases h
 all_goals cases h
theorem D2{P d}(h:Ub P d=.str):d=.string:=by
 cases d<;>simp only[Ub]at h
 case string=>rfl
 case struct=>split at h<;>cases h
 all_goals cases h
theorem xb{P d k}(h:Ub P d=.int k):d=.int k:=by
 cases d<;>simp only[Ub]at h
 case int=>cases h;rfl
 case struct=>split at h<;>cases h
 all_goals cases h
theorem yl{P d}(h:Ub P d=.bool):d=.bool:=by
 cases d<;>simp only[Ub]at h
 case bool=>rfl
 case struct=>split at h<;>cases h
 all_goals cases h
def TK.isAgg:TK->Option Bool
 |.agg _|.arr ..=>some true
 |.bad=>none
 |_=>some false
theorem SP{P t ti b}(w:World)(h:Xk P t=some ti)(ho:ti.k.isAgg=some b):(isAgg t).run P w=.ok b w:=by
 obtain⟨d,i,hd,_,_,_,_,hk,_⟩:=Zn h;simp only[isAgg,Sem.run_bind,run_underlying hd,Result.andThen_ok];rw[<-hk]at ho;cases d<;>simp only[Ub]at ho
 case struct=>split at ho<;>cases ho;rfl
 all_goals (cases ho;rfl)
theorem HH{P t ti}(w:World)(h:Xk P t=some ti):(sizeOf t).run P w=.ok ti.size w:=by obtain⟨d,i,_,hi,_,hs,_,_⟩:=Zn h;simp[sizeOf,typeInfo,hi,hs]
theorem kw{P t ti}(w:World)(h:Xk P t=some ti):(zeroValue t).run P w=.ok ti.zero w:=by obtain⟨d,i,_,hi,hz,hs,_,_⟩:=Zn h;simp[zeroValue,typeInfo,hi,hz]
def UW(st:St)(k:Nat):AV->Option (List (Vt))
 |.isl k' els=>if k'=k then some els else none
 |.msl l i n =>
  match st[l]? with
  |some (some (k',els))=>if k'=k/\i+n<=els.length then some ((els.drop i).take n)else none
  |_=>none
 |.lit (.slice none 0 0)=>some []
 |_=>none
def DZ(st:St)(k:Nat):AV->Option (List (Vt)×St)
 |.msl l i n =>
  match st[l]? with
  |some (some (k',els))=>if k'=k/\i+n<=els.length then some ((els.drop i).take n,st.set l none)else none
  |_=>none
 |.lit (.slice none 0 0)=>some ([],st)
 |_=>none
theorem uE{A m w st k av els v}(hR:R A m w st)(h:UW st k av=some els)(hv:V A m st.length w av v):(els=[]/\∃a cap,v=.slice a 0 cap)\/∃B o cap,v=.slice (some ⟨B,o,none⟩) els.length cap/\els.length<=cap/\Rd A m st.length w B o k els:=by
 cases av with
 |isl k' e =>
  simp only[UW]at h;split at h
  .rename_i hk;cases h;subst hk
   cases hv.isl_inv with
   |isl _ _ B o cap vs hA Fd hk hc Fg =>
    refine .inr ⟨B,o,cap,rfl,Fd,hk,λi hi j hj=>⟨_,hc i j hi (by rw[<-hk i hi];exact hj),.imm (Fg i hi j hj)⟩⟩
   |inil a cap=>exact .inl ⟨rfl,_,_,rfl⟩
  .cases h
 |msl l i n =>
  simp only[UW]at h;split at h
  .rename_i k' e he;split at h
   .rename_i hk;cases h;obtain⟨rfl,Fm⟩:=hk;obtain⟨hl,a,n',cap,rfl,hb⟩:=hv.msl_inv;obtain⟨b,h1,h2,h3,h4⟩:=hR.blk l _ e he;obtain⟨rfl,h5,h6⟩:=hb b h1
    have VR:((e.drop i).take n').length=n':=by simp;omega
    rcases h6 with rfl|⟨h6,hm6,rfl,h7⟩
    .exact .inl ⟨Qf YA,a,0,by rw[show n'=0 by omega]⟩
    subst h2;exact .inr ⟨b.B,_,cap,by rw[VR],YA,((h3 h6).cells hm6).rd.sub i n'⟩
   cases h
  .cases h
 |lit x =>
  simp only[UW]at h;split at h;.rename_i heq;cases heq
  .rename_i heq;cases heq
  .rename_i heq;cases heq;cases h;rw[hv.lit_inv];exact .inl ⟨rfl,none,0,rfl⟩
  .cases h
 |_=>simp[UW]at h
def KM(els:List (Vt)):Bool:=els.all λr=>r.all AV.one
structure dw(A:Nat->Prop)(m:BM)(nb:Nat)(w:World)(P:Program)(k:Nat)(tx:TypeId)(x:Value)(new:List (Vt)):Prop where
 wide:∀i (h:i<new.length),new[i].length=k
 src:∃VV,Src P k tx x new.length VV w/\∀i (hi:i<new.length) j (hj:j<new[i].length),V A m nb w new[i][j] (VV.getD (i*k+j) undef)
theorem m4(h:q<l.length):(l++r).getD q undef=l.getD q undef:=by simp[Ql,Qs h]
theorem m9:(l++r).getD (l.length+q) undef=r.getD q undef:=by simp[Ql,Qt]
theorem oP{A m w st}(hR:R A m w st){t tx ty e:TypeId}{ti:TI}{te:TI}(ht:Xk P t=some ti)(FC:ti.k=.slc e)(he:Xk P e=some te)(V8:0<te.size){s:AV}{sv x:Value}(hs:V A m st.length w s sv){old new:List (Vt)}{FE:St}(hb:DZ st te.size s=some (old,FE))(hx:dw A m st.length w P te.size tx x new)(hfits:(old.length+new.length)*te.bytes<=140737488355328)(h63:old.length+new.length<=9223372036854775807):∃v w' m',(Builtin.append_ #[t,tx] ty #[sv,x]).run P w=.ok v w'/\R A m' w' (FE++[some (te.size,old++new)])/\Xs A m st.length w A m' (FE++[some (te.size,old++new)]).length w'/\V A m' (FE++[some (te.size,old++new)]).length w' (.msl st.length 0 (old.length+new.length)) v:=by
 obtain⟨d,i0,hd,hi0,_,_,_,hdk,_⟩:=Zn ht;rw[FC]at hdk;have hd':=Kt hdk;subst hd';obtain⟨d2,i,_,hi,hz,V1,hbytes,_,hzs⟩:=Zn he;obtain⟨VV,hsrc,hval⟩:=hx.src;rw[<-V1]at hsrc;have hnl:=hsrc.newsLen;rw[V1]at hnl
 have hwide:∀q (h:q<(old++new).length),(∀i (h:i<old.length),old[i].length=te.size)->(old++new)[q].length=te.size:=λq hq ho=>by
  rw[List.getElem_append];split;.exact ho _ _
  exact hx.wide _ _
 have grow:∀(l:Nat) (sn sc:Nat) (base:Option Addr) (Ff:List Value),FE=st.set l none->sn=old.length->(∀b,m l=some b->True)->
   (∀i (h:i<old.length),old[i].length=te.size)->Ff.length=old.length*te.size->
   (∀i (hi:i<old.length) j (hj:j<old[i].length),V A m st.length w old[i][j] (Ff.getD (i*te.size+j) undef))->
   (Builtin.firstCells i.size sn (.slice base sn sc)).run P w.drew=.ok Ff.toArray w.drew->sc<sn+new.length->
   ∃v w' m',(Builtin.append_ #[t,tx] ty #[.slice base sn sc,x]).run P w=.ok v w'/\R A m' w' (FE++[some (te.size,old++new)])/\
   Xs A m st.length w A m' (FE++[some (te.size,old++new)]).length w'/\V A m' (FE++[some (te.size,old++new)]).length w' (.msl st.length 0 (old.length+new.length)) v:=by
  intro l sn sc base Ff hst1 hsn _ how hol hov hfc hlt;have hr:=run_append_grow_src (P:=P) w t tx ty e i te.zero hd hi hz base sn sc Ff hfc x new.length VV hsrc hlt YA (growslice_fits hlt (by rw[hbytes,hsn];exact hfits));refine⟨_,_,(m.put l none).put st.length (some ⟨true,w.heap.size,0,te.size,grownCap w (sn+new.length) sc e*te.size,false⟩),hr,?_⟩;subst hst1;have Fd:=grownCap_ge w (sn+new.length) sc e
  have hcl:((Ff++VV).toArray++Builtin.zeroCells te.zero.cells (grownCap w (sn+new.length) sc e-(sn+new.length))).size=grownCap w (sn+new.length) sc e*te.size:=by
   simp only[Array.size_append,List.size_toArray,Qx,size_zeroCells,hzs,hol,hnl,<-QV];congr 1;omega
  have hcell:∀off,off<grownCap w (sn+new.length) sc e*te.size->(w.drew.alloc (.cells ((Ff++VV).toArray++Builtin.zeroCells te.zero.cells (grownCap w (sn+new.length) sc e-(sn+new.length))) e)).cell? ⟨w.heap.size,off,none⟩=
    ((Ff++VV).toArray++Builtin.zeroCells te.zero.cells (grownCap w (sn+new.length) sc e-(sn+new.length)))[off]?:=λoff _=>by
   have:=World.cell?_alloc_new w.drew ((Ff++VV).toArray++Builtin.zeroCells te.zero.cells (grownCap w (sn+new.length) sc e-(sn+new.length))) e off;exact this
  have hg:Zb w (w.drew.alloc (.cells ((Ff++VV).toArray++Builtin.zeroCells te.zero.cells (grownCap w (sn+new.length) sc e-(sn+new.length))) e)):=(Zb.drew w).trans (Zb.alloc _ _)
  have h:=hR.swap l ⟨true,w.heap.size,0,te.size,grownCap w (sn+new.length) sc e*te.size,false⟩ (old++new) hg.size hg.os hg.tape hg.output (λB hB _=>hg.heap B hB)
   (λ_=>.inl (Qg _)) (λ_=>by show w.heap.size<(w.drew.alloc _).heap.size;rw[World.size_alloc];exact QL _) (λh=>by cases h)
   (λ_ off ho=>by rw[hcell off ho,QU (by rw[hcl];exact ho)];exact⟨_,rfl⟩)
   (λ_ off _=>Tw (w:=w.drew) _ e off)
   (λ_=>by simp only[Qx];rw[QN];exact QZ _ YA)
   (λq hq=>hwide q hq how)
   (λ_ q hq j hj=>by
    have hj':j<te.size:=by rw[hwide q hq how]at hj;exact hj
    have hqlt:q*te.size+j<grownCap w (sn+new.length) sc e*te.size:=by
     refine Q1 (Gl (i:=old.length+new.length) (by simpa using hq) hj') (QZ _ YA)
    have hon:q*te.size+j<(Ff++VV).length:=by
     simp only[Qx,hol,hnl,<-QV];exact Gl (by simpa using hq) hj'
    refine⟨(Ff++VV).getD (q*te.size+j) undef,?_,?_⟩;.simp only[QN];rw[hcell _ hqlt,JJ (by simpa using hon)];simp only[List.getElem?_toArray,Ql,Qe hon,Jk]
    by_cases hqo:q<old.length
    .have e1:(old++new)[q][j]=old[q][j]'(by rw[how q hqo];exact hj'):=by simp[Jx hqo]
     rw[e1,m4 (by rw[hol];exact Gl hqo hj')];exact hov q hqo j _
    have hq2:q-old.length<new.length:=by simp at hq;omega
    have e1:(old++new)[q][j]=(new[q-old.length])[j]'(by rw[hx.wide _ hq2];exact hj'):=by simp[Ym (Nat.le_of_not_lt hqo)]
    rw[e1]
    have e2:q*te.size+j=Ff.length+((q-old.length)*te.size+j):=by
     rw[hol]
     have:q=old.length+(q-old.length):=YA
     rw[this,QV];simp;omega
    rw[e2,m9]
    exact hval _ hq2 j _)
  have VR:(st.set l none++[some (te.size,old++new)]).length=st.length+1:=YC
  rw[VR];refine⟨h.1,h.2,.msl _ _ _ _ _ _ (QL _) λb hb'=>?_⟩;simp[BM.put]at hb';subst hb';exact⟨YA,YA,.inr ⟨rfl,rfl,YC,YC⟩⟩
 cases s with
 |msl l i' n =>
  simp only[DZ]at hb;split at hb
  .rename_i k' els hl;split at hb
   .rename_i hk;obtain⟨rfl,Fm⟩:=hk;cases hb;obtain⟨FU,a,n',cap,rfl,hbk⟩:=hs.msl_inv;obtain⟨b,h1,h2,h3,h4⟩:=hR.blk l _ els hl;obtain⟨rfl,h5,h6⟩:=hbk b h1
    have holen:((els.drop i').take n').length=n':=by simp;omega
    rcases h6 with rfl|⟨h6,hm6,rfl,h7⟩
    .have h0:(els.drop i').take n'=[]:=Qf YA;by_cases hne:new.length=0
     · 
      have hnews:VV=[]:=Qf (by rw[hnl,hne];simp)
      have hn0:n'=0:=YA
      subst hn0
      have hr:(Builtin.append_ #[t,tx] ty #[.slice a 0 0,x]).run P w=.ok (.slice a 0 0) w:=by
       subst hnews;have hl:=hsrc.len w;have hc:=hsrc.cells;rw[hne]at hl hc
       rcases hsrc.kind with ⟨e',hk⟩|hk<;>cases a<;>
        simp[Builtin.append_,run_underlying hd,run_underlying hk,sizeOf,typeInfo,hi,hl,hc,storeCells]
      have hnew:new=[]:=Qf hne;subst hnew
      have h:=hR.swap l ⟨false,0,0,te.size,0,false⟩ [] (Qg _) rfl rfl rfl (λ_ _ _=>rfl) (λh=>by cases h) (λh=>by cases h) (λ_=>rfl)
       (λh=>by cases h) (λh=>by cases h) (λh=>by cases h) (λq hq=>by cases hq) (λh=>by cases h)
      refine⟨_,_,(m.put l none).put st.length (some ⟨false,0,0,te.size,0,false⟩),hr,?_⟩;rw[h0]
      have VR:(st.set l none++[some (te.size,([]++[]:List (Vt)))]).length=st.length+1:=YC
      rw[VR];refine⟨h.1,h.2,.msl _ _ _ _ _ _ (QL _) λb hb'=>?_⟩;exact⟨rfl,YC,.inl rfl⟩
     .refine grow l n' 0 a [] rfl holen.symm (λ_ _=>trivial) (λq hq=>YA) (by rw[h0];simp) (λq hq=>YA) ?_ YA;rw[show n'=0 by omega];cases a<;>simp[Builtin.firstCells,loadCells,loadCellsFrom]
    have VW:=(h3 h6).cells hm6
    have hrd:Rd A m st.length w b.B (b.o+i'*b.k) te.size ((els.drop i').take n'):=by rw[<-h2];exact VW.rd.sub i' n'
    by_cases hroom:n'+new.length<=cap
    .have Fc:b.o+i'*b.k+n'*te.size+VV.length<=b.top:=by
      rw[hnl,h2]
      have:i'*te.size+(n'*te.size+new.length*te.size)<=(i'+cap)*te.size:=by
       rw[<-QV,<-QV];exact QZ _ YA
      rw[h2]at h7;omega
     have hr:=run_append_room_src (P:=P) w t tx ty e i hd hi b.B (b.o+i'*b.k) n' cap x new.length VV hsrc hroom
      (λj hj=>by obtain⟨u,hu⟩:=VW.there (b.o+i'*b.k+n'*i.size+j) (by rw[V1];omega);simp[hu])
      (λj hj=>SN (VW.free _ (by rw[V1];omega)))
     rw[V1]at hr;refine⟨_,_,(m.put l none).put st.length (some ⟨true,b.B,b.o+i'*b.k,te.size,b.top,false⟩),hr,?_⟩;have FG:=uL b.B VV (b.o+i'*b.k+n'*te.size) w;have V8:=kH b.B VV (b.o+i'*b.k+n'*te.size) w;have V7:∀j,j<VV.length->∃u,w.cell? ⟨b.B,b.o+i'*b.k+n'*te.size+j,none⟩=some u:=λj hj=>VW.there _ YA
     have h:=hR.swap l ⟨true,b.B,b.o+i'*b.k,te.size,b.top,false⟩ ((els.drop i').take n'++new) (by rw[V8];exact Qg _) FG.1 FG.2.1 FG.2.2
      (λB _ ho=>TB _ _ _ _ _ (λhe'=>ho b h1 h6 he'.symm)) (λ_=>.inr ⟨b,h1,h6,rfl⟩) (λ_=>by rw[V8];exact VW.low) (λh=>by cases h)
      (λ_ off ho=>by obtain⟨v,hv⟩:=VW.there off ho;exact eE _ _ _ _ V7 off hv)
      (λ_ off ho=>by rw[uY];exact VW.free off ho)
      (λ_=>by simp only[Qx,holen,QV];rw[<-hnl];omega)
      (λq hq=>hwide q hq hrd.wide)
      (λ_ q hq j hj=>by
       have hj':j<te.size:=by rw[hwide q hq hrd.wide]at hj;exact hj
       by_cases hqo:q<((els.drop i').take n').length
       .have e1:((els.drop i').take n'++new)[q][j]=((els.drop i').take n')[q][j]'(by rw[hrd.wide q hqo];exact hj'):=by
         simp only[Jx hqo]
        rw[e1];obtain⟨v,h8,h9⟩:=hrd.val q hqo j _;refine⟨v,?_,h9⟩;have:=Gl (i':=q) (i:=n') (k:=te.size) (j:=j) YA hj';rw[World.cell?_setCells_out b.B VV _ w _ (λ_ _=>.inl (by simp;omega))];exact h8
       have hq2:q-((els.drop i').take n').length<new.length:=by simp only[Qx]at hq;omega
       have e1:((els.drop i').take n'++new)[q][j]=(new[q-((els.drop i').take n').length])[j]'(by rw[hx.wide _ hq2];exact hj'):=by
        simp only[Ym (Nat.le_of_not_lt hqo)]
       rw[e1]
       have hlt:(q-((els.drop i').take n').length)*te.size+j<VV.length:=by rw[hnl];exact Gl hq2 hj'
       have h8:=World.cell?_setCells_in b.B VV (b.o+i'*b.k+n'*te.size) w (λj hj=>by obtain⟨u,hu⟩:=V7 j hj;simp[hu]) _ hlt;refine⟨_,?_,hval _ hq2 j _⟩;rw[Ql,Qe hlt,Jk,<-h8];congr 2;show b.o+i'*b.k+q*te.size+j=_;rw[holen]
       have:q*te.size=n'*te.size+(q-n')*te.size:=by rw[<-QV];congr 1;omega
       omega)
     have VR:(st.set l none++[some (te.size,(els.drop i').take n'++new)]).length=st.length+1:=YC
     rw[VR];refine⟨h.1,h.2,.msl _ _ _ _ _ _ (QL _) λb' hb'=>?_⟩;simp[BM.put]at hb';subst hb';refine⟨YA,YA,.inr ⟨rfl,rfl,YC,?_⟩⟩;show b.o+i'*b.k+(0+cap)*te.size<=b.top;rw[QN,h2];rw[h2,QV]at h7;omega
    obtain⟨Ff,ho1,ho2,ho3⟩:=hrd.flat;refine grow l n' cap (some ⟨b.B,b.o+i'*b.k,none⟩) Ff rfl holen.symm (λ_ _=>trivial) hrd.wide ho1 ho3 ?_ YA;refine run_firstCells_some w.drew i.size n' ⟨b.B,b.o+i'*b.k,none⟩ n' cap Ff (by rw[ho1,holen,V1]) λj v hj=>?_
    have hadd:(⟨b.B,b.o+i'*b.k,none⟩:Addr).add j=⟨b.B,b.o+i'*b.k+j,none⟩:=by unfold Addr.add;split<;>simp_all
    rw[hadd];simpa using ho2 j v hj
   cases hb
  .cases hb
 |lit y =>
  have hy:y=.slice none 0 0/\old=[]/\FE=st:=by
   simp only[DZ]at hb;split at hb;.rename_i heq;cases heq
   .rename_i heq;cases heq;cases hb;exact⟨rfl,rfl,rfl⟩
   cases hb
  obtain⟨rfl,rfl,rfl⟩:=hy;have hsv:=hs.lit_inv;subst hsv;by_cases hne:new.length=0
  .have hnews:VV=[]:=Qf (by rw[hnl,hne];simp)
   have hr:(Builtin.append_ #[t,tx] ty #[.slice none 0 0,x]).run P w=.ok (.slice none 0 0) w:=by
    subst hnews;have hl:=hsrc.len w;have hc:=hsrc.cells;rw[hne]at hl hc
    rcases hsrc.kind with ⟨e',hk⟩|hk<;>
     simp[Builtin.append_,run_underlying hd,run_underlying hk,sizeOf,typeInfo,hi,hl,hc]
   have hnew:new=[]:=Qf hne;subst hnew
   have h:=hR.push (Zb.refl w) ⟨false,0,0,te.size,0,false⟩ [] (λh=>by cases h) (λ_=>rfl)
    (λh=>by cases h) (λh=>by cases h) (λh=>by cases h) (λq hq=>by cases hq) (λh=>by cases h)
   refine⟨_,_,m.put FE.length (some ⟨false,0,0,te.size,0,false⟩),hr,?_⟩
   have VR:(FE++[some (te.size,([]++[]:List (Vt)))]).length=FE.length+1:=YC
   rw[VR];exact⟨h.1,h.2,.msl _ _ _ _ _ _ (QL _) λb hb'=>⟨rfl,YC,.inl rfl⟩⟩
  .refine grow FE.length 0 0 none [] (Jw (Qg _)).symm rfl (λ_ _=>trivial) (λq hq=>by simp at hq) YC (λq hq=>by simp at hq) ?_ YA;simp[Builtin.firstCells]
 |_=>simp[DZ]at hb
abbrev Ev:=List (Nat×AV)
def look:Ev->Nat->Option AV
 |[],_=>none
 |(k,v)::r,t=>if k=t then some v else look r t
def ev(env:Ev):Operand->Option AV
 |.tmp t=>look env t
 |.const v=>some (.lit v)
 |.func f=>some (.fn (.func f) [] [])
 |.global _=>none
structure Ly(A:Nat->Prop)(m:BM)(nb:Nat)(w:World)(n:Nat)(env:Ev)(a:Act):Prop where
 size:a.tmps.size=n
 val:∀t v,look env t=some v->t<n/\V A m nb w v (a.tmps.getD t undef)
 defers:a.defers=[]
theorem XD{A m nb w n env a x v}(h:Ly A m nb w n env a)(hx:ev env x=some v):V A m nb w v (a.eval x):=by
 cases x with
 |tmp t=>exact(h.val t v hx).2
 |const c=>cases hx;exact .imm (.lit c)
 |func f =>
  cases hx;exact .imm (.fn _ _ _ _ _ rfl (λi hi=>by cases hi) rfl (λi hi=>by cases hi))
 |global g=>cases hx
theorem Ly.step{A A' m m' Fe w w' st n env a}(h:Ly A m st.length w n env a)(hR:R A m w st)(hS:Xs A m st.length w A' m' Fe w'):Ly A' m' Fe w' n env a:=⟨h.size,λt v ht=>⟨(h.val t v ht).1,(h.val t v ht).2.step hR hS⟩,h.defers⟩
theorem Ly.put{A m nb w n env a d av v}(h:Ly A m nb w n env a)(hd:d<n)(hv:V A m nb w av v):Ly A m nb w n ((d,av)::env) (a.put (some d) v):=by
 refine⟨by simp[Act.put,h.size],λt u ht=>?_,h.defers⟩;simp only[look]at ht;split at ht
 .rename_i e;subst e;cases ht;refine⟨hd,?_⟩
  have:(a.put (some d) v).tmps.getD d undef=v:=by simp[Act.put,h.size,hd]
  rw[this];exact hv
 rename_i e;obtain⟨h1,h2⟩:=h.val t u ht;refine⟨h1,?_⟩
 have:(a.put (some d) v).tmps.getD t undef=a.tmps.getD t undef:=by simp[Act.put,JY e]
 rw[this];exact h2
theorem Ly.none{A m nb w n env a v}(h:Ly A m nb w n env a):Ly A m nb w n env (a.put none v):=h
theorem Ly.less{A m nb w n env VN a}(h:Ly A m nb w n env a)(hs:∀t v,look VN t=some v->look env t=some v):Ly A m nb w n VN a:=⟨h.size,λt v ht=>h.val t v (hs t v ht),h.defers⟩
def Hu:AV->Option (Vt)
 |.agg cs=>if cs.all AV.one then some cs else none
 |.any|.tup _=>none
 |.lit v=>if v.oneCell' then some [.lit v]else none
 |x=>some [x]
theorem Te{A m nb w av cs v}(h:Hu av=some cs)(hv:V A m nb w av v):VL A m nb w cs v.cells/\(∀u∈v.cells,u.oneCell'=true):=by
 have one1:∀u:Value,u.oneCell'=true->u.cells=#[u]:=λu hu=>by cases u<;>first|rfl|cases hu
 have mk1:∀x u,V A m nb w x u->x.one=true->VL A m nb w [x] u.cells/\(∀y∈u.cells,y.oneCell'=true):=λx u hxu h1=>by
  have ho:=hxu.one h1;rw[one1 u ho];refine⟨⟨rfl,λi hi=>?_⟩,λy hy=>by simp at hy;rw[hy];exact ho⟩
  have:i=0:=by simp at hi;exact hi
  subst this;exact hxu
 cases av with
 |any=>cases h
 |tup _=>cases h
 |lit x =>
  simp only[Hu]at h;split at h;.rename_i h1;cases h;exact mk1 _ _ hv (by simpa[AV.one]using h1)
  .cases h
 |agg ds =>
  simp only[Hu]at h;split at h
  .rename_i h1;cases h;obtain⟨a,rfl,hs,ha⟩:=hv.agg_inv;refine⟨⟨hs,ha⟩,λu hu=>?_⟩;obtain⟨i,hi,rfl⟩:=Array.mem_iff_getElem.1 hu
   have VZ:i<cs.length:=by rw[<-hs];exact hi
   have:=(ha i VZ).one (by rw[Qr]at h1;exact h1 _ (Qj VZ))
   have e:(Value.agg a).cells[i]=a.getD i undef:=by
    have hi2:i<a.size:=hi;simp[Value.cells,Qi,hi2]
   rw[e];exact this
  .cases h
 |isl _ _=>cases h;exact mk1 _ _ hv rfl
 |ipt _ _ _ _=>cases h;exact mk1 _ _ hv rfl
 |msl _ _ _=>cases h;exact mk1 _ _ hv rfl
 |mpt _ _ _=>cases h;exact mk1 _ _ hv rfl
 |fn _ _ _=>cases h;exact mk1 _ _ hv rfl
 |imp _=>cases h;exact mk1 _ _ hv rfl
 |mmp _=>cases h;exact mk1 _ _ hv rfl
def GV(st:St):AV->Option (Vt×Nat)
 |.mpt l i j =>
  match st[l]? with
  |some (some (_,els))=>(els[i]?).map (·,j)
  |_=>none
 |.ipt _ els i j=>(els[i]?).map (·,j)
 |_=>none
theorem ot{A m w st av r j v}(hR:R A m w st)(h:GV st av=some (r,j))(hv:V A m st.length w av v):∃B o,v=.pointer (some ⟨B,o+j,none⟩)/\∀q (hq:q<r.length),∃u,w.cell? ⟨B,o+q,none⟩=some u/\V A m st.length w r[q] u:=by
 cases av with
 |mpt l i j' =>
  simp only[GV]at h;split at h
  .rename_i k els he
   cases hi:els[i]? with
   |none=>rw[hi]at h;cases h
   |some r' =>
    rw[hi]at h;cases h;obtain⟨hl,a,rfl,hb⟩:=hv.mpt_inv;obtain⟨b,h1,h2,h3,h4⟩:=hR.blk l k els he;obtain⟨hh,hmh,rfl⟩:=hb b h1;obtain⟨hi1,hi2⟩:=Qb.1 hi;refine⟨b.B,b.o+i*b.k,rfl,λq hq=>?_⟩;subst hi2;exact((h3 hh).cells hmh).val i hi1 q hq
  .cases h
 |ipt k els i j' =>
  simp only[GV]at h
  cases hi:els[i]? with
  |none=>rw[hi]at h;cases h
  |some r' =>
   rw[hi]at h;cases h;obtain⟨hi1,hi2⟩:=Qb.1 hi
   cases hv.ipt_inv with
   |ipt _ _ _ _ B o vs hA hk hc Fg =>
    refine⟨B,o+i*k,rfl,λq hq=>?_⟩;subst hi2;exact⟨vs i q,hc i q hi1 (by rw[<-hk i hi1];exact hq),.imm (Fg i hi1 q hq)⟩
 |_=>simp[GV]at h
def H1(P:Program)(A:Nat->Prop)(m:BM)(w:World)(st:St)(r:Result Next)(av:AV)(VO:St):Prop:=∃nx v w' m',r=.ok nx w'/\(nx=.value v\/(nx=.skip/\v=undef))/\R A m' w' VO/\Xs A m st.length w A m' VO.length w'/\V A m' VO.length w' av v
theorem wJ{P A m w st av v}(hR:R A m w st)(hv:V A m st.length w av v):H1 P A m w st (.ok (.value v) w) av st:=⟨_,v,w,m,rfl,.inl rfl,hR,Xs.refl _ _ _ _,hv⟩
def DV(st:St)(ti:TI)(p:AV):Option AV:=
 match GV st p,ti.k.isAgg with
 |some (r,j),some true=>if j+ti.size<=r.length then some (.agg ((r.drop j).take ti.size))else none
 |some (r,j),some false=>r[j]?
 |_,_=>none
theorem HD(B o n:Nat):(⟨B,o,none⟩:Addr).add n=⟨B,o+n,none⟩:=by unfold Addr.add;split<;>simp_all
theorem lQ{A:Nat->Prop}{w:World}{t:TypeId}{ti:TI}{v:AV}{B o:Nat}{r:Vt}(ht:Xk P t=some ti)(Fz:∀q (hq:q<r.length),∃u,w.cell? ⟨B,o+q,none⟩=some u/\V A m st.length w r[q] u)(h:(match ti.k.isAgg with|some true=>if j+ti.size<=r.length then some (.agg ((r.drop j).take ti.size))else none|some false=>r[j]?|none=>none)=some v):
  ∃u,(loadVar t ⟨B,o+j,none⟩).run P w=.ok u w/\V A m st.length w v u:=by
 cases ha:ti.k.isAgg with
 |none=>rw[ha]at h;cases h
 |some b =>
  have hia:=SP w ht ha;have hso:=HH w ht;rw[ha]at h
  cases b with
  |false =>
   simp only at h;obtain⟨hj,rfl⟩:=Qb.1 h;obtain⟨u,h1,h2⟩:=Fz j hj;exact⟨u,by simp[loadVar,hia,h1],h2⟩
  |true =>
   simp only at h;split at h
   .rename_i hle;cases h
    have hcell:∀q,q<ti.size->∃u,w.cell? ⟨B,o+j+q,none⟩=some u:=λq hq=>by
     obtain⟨u,h1,_⟩:=Fz (j+q) YA;exact⟨u,by rw[QW];exact h1⟩
    have hl:=run_loadCells (P:=P) w ⟨B,o+j,none⟩ ti.size (λq=>(w.cell? ⟨B,o+j+q,none⟩).getD undef) (λq hq=>by
     rw[HD];obtain⟨u,h1⟩:=hcell q hq;rw[h1];rfl)
    refine⟨.agg ((List.range ti.size).map λq=>(w.cell? ⟨B,o+j+q,none⟩).getD undef).toArray,by simp[loadVar,hia,hso,hl],.agg _ _ (by simp;omega) λi hi=>?_⟩
    have VZ:i<ti.size:=by simp at hi;omega
    obtain⟨u,h1,h2⟩:=Fz (j+i) YA
    have e1:((r.drop j).take ti.size)[i]=r[j+i]' YA:=YC
    rw[e1]
    have e2:(((List.range ti.size).map λq=>(w.cell? ⟨B,o+j+q,none⟩).getD undef).toArray).getD i undef=u:=by
     simp[VZ];rw[QW,h1];rfl
    rw[e2];exact h2
   cases h
theorem yQ{A:Nat->Prop}{w:World}{t:TypeId}{ti:TI}{p av:AV}(hR:R A m w st)(ht:Xk P t=some ti)(hp:V A m st.length w p v)(h:DV st ti p=some av):∃u,(Instr.loadAt t v).run P w=.ok u w/\V A m st.length w av u:=by
 unfold DV at h
 cases hr:GV st p with
 |none=>rw[hr]at h;cases h
 |some rj =>
  obtain⟨r,j⟩:=rj;obtain⟨B,o,rfl,Fz⟩:=ot hR hr hp
  have h':(match ti.k.isAgg with|some true=>if j+ti.size<=r.length then some (.agg ((r.drop j).take ti.size))else none|some false=>r[j]?|none=>none)=some av:=by
   rw[hr]at h
   revert h
   cases ti.k.isAgg with
   |none=>intro h;cases h
   |some b=>cases b<;>(intro h;exact h)
  obtain⟨u,h1,h2⟩:=lQ (P:=P) ht Fz h';exact⟨u,by simp[Instr.loadAt,Instr.sureAddr,h1],h2⟩
def O1(st:St)(ti:TI)(p x:AV):Option St:=
 match p,Hu x with
 |.mpt l i j,some cs =>
  match st[l]? with
  |some (some (k,els))=>if i<els.length/\j+cs.length<=k/\cs.length=ti.size then some (st.set l (some (k,Ku els i j cs)))else none
  |_=>none
 |_,_=>none
theorem c7{P A m w st t ti p x pv xv VO}(hR:R A m w st)(ht:Xk P t=some ti)(hp:V A m st.length w p pv)(hx:V A m st.length w x xv)(h:O1 st ti p x=some VO):∃w',(Instr.storeAt t pv xv).run P w=.ok () w'/\R A m w' VO/\Xs A m st.length w A m VO.length w':=by
 unfold O1 at h;split at h
 .rename_i l i j cs F0;split at h
  .rename_i k els he;split at h
   .rename_i hc;obtain⟨hi,hj,V8⟩:=hc;cases h;obtain⟨hvl,hone⟩:=Te F0 hx;obtain⟨hl,a,rfl,hb⟩:=hp.mpt_inv;obtain⟨b,h1,h2,h3,h4⟩:=hR.blk l k els he;obtain⟨hh,hmh,rfl⟩:=hb b h1;have VW:=(h3 hh).cells hmh
    have hvsl:xv.cells.toList.length=cs.length:=by simpa using hvl.1
    have Fk:=hR.store he h1 hh hmh i j cs xv.cells.toList hi hj hvsl (λq hq=>by
     have:=hvl.2 q hq
     rwa [show xv.cells.toList.getD q undef=xv.cells.getD q undef by simp[Ql,Qi]])
    have Fc:=VW.fit
    have Fm:b.o+i*b.k+j+cs.length<=b.top:=by
     have h5:(i+1)*b.k<=els.length*b.k:=QZ _ hi;rw[QV,Nat.one_mul]at h5;omega
    have hrun:=run_storeCells_cells (P:=P) b.B (b.o+i*b.k+j) xv.cells.toList 0 w
     (λq hq=>by obtain⟨u,hu⟩:=VW.there (b.o+i*b.k+j+0+q) YA;simp only[hu];rfl)
     (λq hq=>SN (VW.free _ YA)) (λu hu=>hone u (by simpa using hu))
    simp only[Je]at hrun;refine⟨_,?_,Fk.1,by simpa using Fk.2⟩;have hso:=HH w ht
    have hsz':xv.cells.size=ti.size:=by rw[<-V8];exact hvl.1
    simp[Instr.storeAt,Instr.sureAddr,storeVar,hso,hsz',hrun]
   cases h
  cases h
 cases h
theorem vq{A m w st}(hR:R A m w st)(e:TypeId)(c:Array Value)(cs:Vt)(hv:VL A m st.length w cs c):R A (m.put st.length (some ⟨true,w.heap.size,0,cs.length,cs.length,false⟩)) (w.alloc (.cells c e)) (st++[some (cs.length,[cs])])/\Xs A m st.length w A (m.put st.length (some ⟨true,w.heap.size,0,cs.length,cs.length,false⟩)) (st++[some (cs.length,[cs])]).length (w.alloc (.cells c e))/\V A (m.put st.length (some ⟨true,w.heap.size,0,cs.length,cs.length,false⟩)) (st++[some (cs.length,[cs])]).length (w.alloc (.cells c e)) (.mpt st.length 0 0) (.pointer (some ⟨w.heap.size,0,none⟩)):=by
 have hcell:∀off,off<cs.length->(w.alloc (.cells c e)).cell? ⟨w.heap.size,off,none⟩=some (c.getD off undef):=λoff ho=>by
  have:=World.cell?_alloc_new w c e off;rw[this,QU (by rw[hv.1];exact ho)];simp[Qi,hv.1,ho]
 have h:=hR.push (Zb.alloc w (.cells c e)) ⟨true,w.heap.size,0,cs.length,cs.length,false⟩ [cs] (λ_=>⟨Qg _,YC⟩) (λh=>by cases h)
  (λ_ off ho=>⟨_,hcell off ho⟩) (λ_ off _=>Tw (w:=w) c e off) (λ_=>YC) (λi hi=>YC)
  (λ_ i hi j hj=>by
   have:i=0:=by simp at hi;exact hi
   subst this
   exact⟨_,by simpa using hcell j hj,hv.2 j hj⟩)
 have VR:(st++[some (cs.length,[cs])]).length=st.length+1:=YC
 rw[VR];refine⟨h.1,h.2,.mpt _ _ _ _ (QL _) λb hb=>?_⟩;simp[BM.put]at hb;subst hb;exact⟨rfl,YC⟩
def Zm(z:Value):Vt:=z.cells.toList.map .lit
theorem Ti(A m nb w)(z:Value):VL A m nb w (Zm z) z.cells:=
 ⟨by simp[Zm],λi hi=>by
  have VZ:i<z.cells.size:=by simpa[Zm]using hi
  have:z.cells.getD i undef=z.cells[i]:=by simp[Qi,VZ]
  rw[this]
  have:(Zm z)[i]=.lit z.cells[i]:=by simp[Zm]
  rw[this]
  exact .imm (.lit _)⟩
theorem zHS{P A m w st t ti}(hR:R A m w st)(ht:Xk P t=some ti):∃w' m',(Instr.alloc t true (.tuple #[])).run P w=.ok (.pointer (some ⟨w.heap.size,0,none⟩)) w'/\R A m' w' (st++[some (ti.size,[Zm ti.zero])])/\Xs A m st.length w A m' (st++[some (ti.size,[Zm ti.zero])]).length w'/\V A m' (st++[some (ti.size,[Zm ti.zero])]).length w' (.mpt st.length 0 0) (.pointer (some ⟨w.heap.size,0,none⟩)):=by
 obtain⟨_,_,_,_,_,_,_,_,hzs⟩:=Zn ht
 have hl:(Zm ti.zero).length=ti.size:=by simp[Zm,hzs]
 have h:=vq hR t ti.zero.cells (Zm ti.zero) (Ti _ _ _ _ _);rw[hl]at h;exact⟨_,_,by simp[Instr.alloc,kw w ht,newVar,newRow],h⟩
theorem sr{P A m w st t x xv cs}(hR:R A m w st)(hx:V A m st.length w x xv)(F0:Hu x=some cs):∃w' m',(Instr.box t xv).run P w=.ok (.pointer (some ⟨w.heap.size,0,none⟩)) w'/\R A m' w' (st++[some (cs.length,[cs])])/\Xs A m st.length w A m' (st++[some (cs.length,[cs])]).length w'/\V A m' (st++[some (cs.length,[cs])]).length w' (.mpt st.length 0 0) (.pointer (some ⟨w.heap.size,0,none⟩)):=⟨_,_,by simp[Instr.box,newVar,newRow],vq hR t xv.cells cs (Te F0 hx).1⟩
def xh(ti:TI)(p:AV)(f:Nat):Option AV:=
 match ti.k with
 |.agg fs =>
  match fs[f]? with
  |some (off,sz)=>if sz=0 then none else
   match p with
   |.mpt l i j=>some (.mpt l i (j+off))
   |.ipt k els i j=>some (.ipt k els i (j+off))
   |_=>none
  |none=>none
 |_=>none
def H4(st:St):AV->Bool
 |.mpt l _ _=>match st[l]? with|some (some _)=>true|_=>false
 |.ipt ..=>true
 |.fn (.func _) _ _=>true
 |_=>false
theorem bG{A m w st l i j v}(hR:R A m w st)(h:H4 st (.mpt l i j)=true)(hv:V A m st.length w (.mpt l i j) v):∃b,m l=some b/\b.has=true/\b.mp=false/\v=.pointer (some ⟨b.B,b.o+i*b.k+j,none⟩):=by
 simp only[H4]at h;split at h;.rename_i x he;obtain⟨k,els⟩:=x;obtain⟨hl,a,rfl,hb⟩:=hv.mpt_inv;obtain⟨b,h1,h2,h3,h4⟩:=hR.blk l k els he;obtain⟨hh,hmh,rfl⟩:=hb b h1;exact⟨b,h1,hh,hmh,rfl⟩
 cases h
theorem fG{α β:Type}{f:α->Option β}:∀{l:List α} {r:List β},l.mapM f=some r->∀(i:Nat) (y:β),r[i]?=some y->∃x:α,l[i]?=some x/\f x=some y
 |[],r,h,i,y,hy=>by simp at h;subst h;cases hy
 |x::l,r,h,i,y,hy=>by
  simp only[List.mapM_cons,Option.bind_eq_bind,Option.pure_def]at h
  cases hf:f x with
  |none=>simp[hf]at h
  |some b =>
   cases hr:l.mapM f with
   |none=>simp[hf,hr]at h
   |some r' =>
    simp[hf,hr]at h;subst h
    cases i with
    |zero=>simp at hy;subst hy;exact⟨x,rfl,hf⟩
    |succ i=>simp at hy;obtain⟨x',h1,h2⟩:=fG hr i y hy;exact⟨x',by simpa using h1,h2⟩
theorem c9{P A m w st t ti p pv f av}(hR:R A m w st)(ht:Xk P t=some ti)(hp:V A m st.length w p pv)(hal:H4 st p=true)(h:xh ti p f=some av):∃u,(Instr.fieldAt t pv f).run P w=.ok u w/\V A m st.length w av u:=by
 unfold xh at h;split at h
 .rename_i fs hk;split at h
  .rename_i off sz hf;split at h;.cases h
   rename_i V8;obtain⟨d,i0,hd,_,_,_,_,hdk,_⟩:=Zn ht;rw[hk]at hdk;obtain⟨FB,rfl,hm⟩:=qI hdk;obtain⟨fld,h1,h2⟩:=fG hm f _ hf
   have h1':FB[f]?=some fld:=by simpa using h1
   cases hi:P.info? fld.type with
   |none=>rw[hi]at h2;cases h2
   |some fi =>
    rw[hi]at h2;simp at h2;obtain⟨h3,h4⟩:=h2
    have run:∀B o,(Instr.fieldAt t (.pointer (some ⟨B,o,none⟩)) f).run P w=.ok (.pointer (some ⟨B,o+off,none⟩)) w:=λB o=>by
     have hz:¬(fi.size=0):=by rw[h4];exact V8
     simp[Instr.fieldAt,run_underlying hd,h1',Instr.sureAddr,fieldPlace,sizeOf,typeInfo,hi,hz,h3,HD]
    split at h
    .rename_i l i j;cases h;obtain⟨b,h5,h6,h6m,rfl⟩:=bG hR hal hp;refine⟨_,run _ _,.mpt _ _ _ _ (hR.lt h5) λb' hb'=>?_⟩;have:b'=b:=Option.some.inj (hb'.symm.trans h5);subst this;exact⟨h6,h6m,by simp[QW]⟩
    .rename_i k els i j;cases h
     cases hp.ipt_inv with
     |ipt _ _ _ _ B o vs hA hk hc Fg =>
      refine⟨_,run _ _,.imm ?_⟩;rw[QW (o+i*k)];exact .ipt k els i (j+off) B o vs hA hk hc Fg
    cases h
  cases h
 cases h
def D1(st:St)(sz:Nat)(x:AV)(i:Int):Option AV:=
 match x with
 |.isl k els=>if k=sz/\0<=i/\i<els.length then some (.ipt k els i.toNat 0)else none
 |.msl l o n =>
  match st[l]? with
  |some (some (k,_))=>if k=sz/\0<=i/\i<n then some (.mpt l (o+i.toNat) 0)else none
  |_=>none
 |_=>none
theorem c8{P A m w st t e ti te x xv k i av}(hR:R A m w st)(ht:Xk P t=some ti)(FC:ti.k=.slc e)(he:Xk P e=some te)(hx:V A m st.length w x xv)(h:D1 st te.size x i=some av):∃u,(Instr.indexAt t xv (.int k i)).run P w=.ok u w/\V A m st.length w av u:=by
 obtain⟨d,i0,hd,_,_,_,_,hdk,_⟩:=Zn ht;rw[FC]at hdk;have:=Kt hdk;subst this;have hso:=HH w he
 have run:∀(B o n c:Nat),0<=i->i<(n:Int)->(Instr.indexAt t (.slice (some ⟨B,o,none⟩) n c) (.int k i)).run P w=.ok (.pointer (some ⟨B,o+i.toNat*te.size,none⟩)) w:=λB o n c h1 h2=>by
  simp[Instr.indexAt,asIntOf,run_underlying hd,h1,h2,hso,HD]
 cases x with
 |isl k' els =>
  simp only[D1]at h;split at h
  .rename_i hc;obtain⟨rfl,h1,h2⟩:=hc;cases h
   cases hx.isl_inv with
   |isl _ _ B o cap vs hA Fd hk hcell Fg =>
    exact⟨_,run B o _ cap h1 h2,.imm (.ipt te.size els i.toNat 0 B o vs hA hk hcell Fg)⟩
   |inil a cap=>simp at h2;omega
  .cases h
 |msl l o n =>
  simp only[D1]at h;split at h
  .rename_i k' els he';split at h
   .rename_i hc;obtain⟨rfl,h1,h2⟩:=hc;cases h;obtain⟨hl,a,n',cap,rfl,hb⟩:=hx.msl_inv;obtain⟨b,h3,h4,h5,h6⟩:=hR.blk l _ els he';obtain⟨rfl,h7,h8⟩:=hb b h3
    rcases h8 with rfl|⟨h8,hm8,rfl,h9⟩
    .omega
    refine⟨_,run _ _ _ cap h1 h2,.mpt _ _ _ _ hl λb' hb'=>?_⟩;have:b'=b:=Option.some.inj (hb'.symm.trans h3);subst this;refine⟨h8,hm8,?_⟩;rw[h4,QV];simp[QW]
   cases h
  .cases h
 |_=>simp[D1]at h
def W0(st:St)(sz:Nat)(x:AV)(lo hi:Nat):Option AV:=
 match x with
 |.isl k els=>if k=sz/\lo<=hi/\hi<=els.length then some (.isl k ((els.drop lo).take (hi-lo)))else none
 |.msl l o n =>
  match st[l]? with
  |some (some (k,_))=>if k=sz/\lo<=hi/\hi<=n then some (.msl l (o+lo) (hi-lo))else none
  |_=>none
 |.lit (.slice none 0 0)=>if lo=0/\hi=0 then some (.lit (.slice none 0 0))else none
 |_=>none
def U7:AV->Option Nat
 |.isl _ els=>some els.length
 |.msl _ _ n=>some n
 |.lit (.slice none 0 0)=>some 0
 |.lit (.string s)=>some s.size
 |_=>none
theorem SG{w:World}{t e:TypeId}{ti te:TI}{cap lo hi:Nat}(ht:Xk P t=some ti)(FC:ti.k=.slc e)(he:Xk P e=some te)(h1:lo<=hi)(h2:hi<=cap)(ol oh:Option Value)(FI:ol=some (.int .i64 lo)\/(ol=none/\lo=0))(FD:oh=some (.int .i64 hi)\/(oh=none/\hi=n)):(Instr.sliceAt t (.slice a n cap) ol oh none).run P w=.ok (.slice (if cap=lo then a else a.map (·.add (lo*te.size))) (hi-lo) (cap-lo)) w:=by
 obtain⟨d,i0,hd,_,_,_,_,hdk,_⟩:=Zn ht;rw[FC]at hdk;have:=Kt hdk;subst this;have hso:=HH w he
 rcases FI with rfl|⟨rfl,rfl⟩<;>rcases FD with rfl|⟨rfl,rfl⟩<;>
  simp[Instr.sliceAt,Instr.slice,run_underlying hd,Instr.sliceBounds,Instr.sliceBound,asIntOf,hso,h1,h2]
theorem sq{P A m w st t e ti te x xv lo hi av}(hR:R A m w st)(ht:Xk P t=some ti)(FC:ti.k=.slc e)(he:Xk P e=some te)(hx:V A m st.length w x xv) (h:W0 st te.size x lo hi=some av) (ol oh:Option Value) (FI:ol=some (.int .i64 lo)\/(ol=none/\lo=0)) (FD:oh=some (.int .i64 hi)\/(oh=none/\U7 x=some hi)):∃u,(Instr.sliceAt t xv ol oh none).run P w=.ok u w/\V A m st.length w av u:=by
 cases x with
 |isl k els =>
  simp only[W0]at h;split at h
  .rename_i hc;obtain⟨rfl,h1,h2⟩:=hc;cases h
   have hl:((els.drop lo).take (hi-lo)).length=hi-lo:=by simp;omega
   cases hx.isl_inv with
   |isl _ _ B o cap vs hA Fd hk hcell Fg =>
    refine⟨_,SG ht FC he h1 YA ol oh FI (FD.imp id λ⟨h3,h4⟩=>⟨h3,by simp[U7]at h4;omega⟩),.imm ?_⟩;by_cases hcl:cap=lo
    .have:hi-lo=0:=by omega
     rw[YK hcl,this];exact .inil _ _ _
    .rw[YM hcl]
     have:=VI.isl (A:=A) (w:=w) te.size ((els.drop lo).take (hi-lo)) B (o+lo*te.size) (cap-lo) (λi j=>vs (lo+i) j) hA YA
      (λi VZ=>by rw[hl]at VZ;simp;exact hk _ YA)
      (λi j VZ hj=>by
       rw[hl]at VZ;rw[<-hcell (lo+i) j YA hj]
       congr 2;rw[QV];omega)
      (λi VZ j hj=>by
       have hi2:=VZ;rw[hl]at hi2
       have e1:((els.drop lo).take (hi-lo))[i]=els[lo+i]' YA:=YC
       have e2:((els.drop lo).take (hi-lo))[i][j]=(els[lo+i]' YA)[j]'(by rw[<-e1];exact hj):=YC
       rw[e2]
       exact Fg _ _ _ _)
     rw[hl]at this;simpa[HD]using this
   |inil a cap =>
    refine⟨_,SG ht FC he h1 (by simp at h2;omega) ol oh FI (FD.imp id λ⟨h3,h4⟩=>⟨h3,by simp[U7]at h4;omega⟩),.imm ?_⟩
    have e0:hi-lo=0:=by simp at h2;omega
    rw[e0];simp only[List.take_zero];exact .inil _ _ _
  .cases h
 |msl l o n =>
  simp only[W0]at h;split at h
  .rename_i k els he';split at h
   .rename_i hc;obtain⟨rfl,h1,h2⟩:=hc;cases h;obtain⟨hl,a,n',cap,rfl,hb⟩:=hx.msl_inv;obtain⟨b,h3,h4,h5,h6⟩:=hR.blk l _ els he';obtain⟨rfl,h7,h8⟩:=hb b h3;refine⟨_,SG ht FC he h1 YA ol oh FI (FD.imp id λ⟨h9,h10⟩=>⟨h9,by simp[U7]at h10;omega⟩),.msl _ _ _ _ _ _ hl λb' hb'=>?_⟩;have:b'=b:=Option.some.inj (hb'.symm.trans h3);subst this;refine⟨rfl,YA,?_⟩;by_cases hcl:cap=lo;.exact .inl YA
    rcases h8 with rfl|⟨h8,hm8,rfl,h9⟩
    .exact .inl YA
    refine .inr ⟨h8,hm8,?_,?_⟩;.rw[YM hcl];simp[HD,h4,QV,QW]
    rw[show o+lo+(cap-lo)=o+cap by omega];exact h9
   cases h
  .cases h
 |lit v =>
  unfold W0 at h;split at h;.rename_i h1;cases h1
  .rename_i h1;cases h1
  .rename_i h1;cases h1;split at h;.rename_i hc;obtain⟨rfl,rfl⟩:=hc;cases h;rw[hx.lit_inv];exact⟨_,SG (n:=0) (cap:=0) ht FC he (Qg _) (Qg _) ol oh FI (FD.imp id λ⟨h3,_⟩=>⟨h3,rfl⟩),.imm (.lit _)⟩
   cases h
  .cases h
 |_=>simp[W0]at h
theorem C6{A:Nat->Prop}{w:World}{t ty:TypeId}{ti:TI}{x:AV}{xv:Value}(ht:Xk P t=some ti)(hk:(∃e,ti.k=.slc e)\/ti.k=.str)(hx:V A m nb w x xv)(h:U7 x=some n)(hlive:∀l i n,x=.msl l i n->∃b,m l=some b)(FM:(∃s,x=.lit (.string s))↔ti.k=.str):(Builtin.len_ #[t] ty #[xv]).run P w=.ok (goInt n) w:=by
 obtain⟨d,i0,hd,_,_,_,_,hdk,_⟩:=Zn ht
 have slc:(∃e,ti.k=.slc e)->∀a c,(Builtin.len_ #[t] ty #[.slice a n c]).run P w=.ok (goInt n) w:=λ⟨e,he⟩ a c=>by
  rw[he]at hdk;have:=Kt hdk;subst this;simp[Builtin.len_,run_underlying hd]
 cases x with
 |isl k els =>
  have hs:=hk.resolve_right λh=>by have:=FM.2 h;obtain⟨s,hs⟩:=this;cases hs
  simp[U7]at h;subst h
  cases hx.isl_inv with
  |isl _ _ B o cap vs hA Fd hk hcell Fg=>exact slc hs _ _
  |inil a cap=>exact slc hs _ _
 |msl l i n' =>
  have hs:=hk.resolve_right λh=>by have:=FM.2 h;obtain⟨s,hs⟩:=this;cases hs
  simp[U7]at h;subst h;obtain⟨hl,a,n2,cap,rfl,hb⟩:=hx.msl_inv;obtain⟨b,h1⟩:=hlive l i n' rfl;obtain⟨rfl,_⟩:=hb b h1;exact slc hs a cap
 |lit v =>
  have:=hx.lit_inv;subst this;simp only[U7]at h;split at h;.rename_i heq;cases heq
  .rename_i heq;cases heq
  .rename_i heq;cases heq;cases h
   have hs:=hk.resolve_right λh=>by have:=FM.2 h;obtain⟨s,hs⟩:=this;cases hs
   exact slc hs _ _
  .rename_i s heq;cases heq;cases h;have hs:=FM.1 ⟨s,rfl⟩;rw[hs]at hdk;have:=D2 hdk;subst this;simp[Builtin.len_,run_underlying hd]
  .cases h
 |_=>simp[U7]at h
def GS:BinOp->Int->Int->Option Bool
 |.eql,a,b=>some (a==b)
 |.neq,a,b=>some (a !=b)
 |.lss,a,b=>some (a<b)
 |.leq,a,b=>some (a<=b)
 |.gtr,a,b=>some (a >b)
 |.geq,a,b=>some (a >= b)
 |_,_,_=>none
variable {x av bv:AV}{ps:Array (Nat×Operand)}{FB:Array Field}{xs:Array Value}{op:BinOp}{s:ByteArray}{els:List (Vt)}{parts:List (Nat×AV)}{pl:List (Nat×Nat)}{cs row:Vt}{l:List MapEntry}{e:MapEntry}{r:Option (Nat×AV)}{te:TI}{a b:Value}
def MN(k:IntKind):BinOp->Int->Int->Option Int
 |.add,a,b=>some (k.wrap (a+b))
 |.sub,a,b=>some (k.wrap (a-b))
 |.mul,a,b=>some (k.wrap (a*b))
 |.quo,a,b=>if b=0 then none else some (k.wrap (a.tdiv b))
 |.rem,a,b=>if b=0 then none else some (a.tmod b)
 |.and,a,b=>some (k.wrap (BitVec.ofInt k.bits a &&& BitVec.ofInt k.bits b).toNat)
 |.or,a,b=>some (k.wrap (BitVec.ofInt k.bits a |||BitVec.ofInt k.bits b).toNat)
 |.xor,a,b=>some (k.wrap (BitVec.ofInt k.bits a ^^^ BitVec.ofInt k.bits b).toNat)
 |_,_,_=>none
def Mb(k:IntKind):BinOp->Int->Int->Option Int
 |.shl,a,b=>if b<0 then none else some (k.wrap (a*2 ^ (min b.toNat k.bits)))
 |.shr,a,b=>if b<0 then none else some (a.fdiv (2 ^ (min b.toNat k.bits)))
 |_,_,_=>none
def dc:BinOp->List UInt8->List UInt8->Option AV
 |.eql,a,b=>some (.lit (.bool (a==b)))
 |.neq,a,b=>some (.lit (.bool (!(a==b))))
 |.lss,a,b=>some (.lit (.bool (Op.bytesLess a b)))
 |.add,a,b=>if a.length+b.length<=9223372036854775807 then some (.lit (.string ⟨⟨a++b⟩⟩))else none
 |_,_,_=>none
def UM(tk:TK)(op:BinOp):AV->AV->Option AV
 |.lit (.int k a),.lit (.int k' b)=>
  match Mb k op a b with
  |some r=>some (.lit (.int k r))
  |none=>if k=k' then
    match GS op a b with
    |some r=>some (.lit (.bool r))
    |none=>(MN k op a b).map λr=>.lit (.int k r)
   else none
 |.lit (.string a),.lit (.string b)=>dc op a.data.toList b.data.toList
 |.lit (.bool a),.lit (.bool b)=>
  match tk,op with
  |.bool,.eql=>some (.lit (.bool (a==b)))
  |.bool,.neq=>some (.lit (.bool (!(a==b))))
  |_,_=>none
 |_,_=>none
theorem ur(op:BinOp)(t:TypeId)(x y:Operand)(a b:Value)(w:World)(h:(∃k n,a=.int k n)\/(∃s,a=.string s)\/(∃s,a=.bool s)):(eqGuard op t x y a b).run P w=.ok () w:=by
 unfold eqGuard
 rcases h with ⟨k,n,rfl⟩|⟨s,rfl⟩|⟨s,rfl⟩<;>simp
theorem oq{w:World}{t:TypeId}(hd:P.underlying t=some .bool)(p q:Bool):(Op.equal t (.bool p) (.bool q)).run P w=.ok (p==q) w:=by
 have key:∀d,(Op.equalIn (d+1) t (.bool p) (.bool q)).run P w=.ok (p==q) w:=λd=>by
  rw[Op.equalIn];simp[run_underlying hd]
 exact key 9999
theorem zEs{A m nb w}{t:TypeId}{ti:TI}{x y:Operand}{r:AV}(ht:Xk P t=some ti)(ha:V A m nb w av a)(hb:V A m nb w bv b)(h:UM ti.k op av bv=some r):∃v,(do eqGuard op t x y a b;binOp op t a b:Sem Value).run P w=.ok v w/\V A m nb w r v:=by
 obtain⟨d,i0,hd,_,_,_,_,hdk,_⟩:=Zn ht;unfold UM at h;split at h
 .rename_i k n k' n';have ea:=ha.lit_inv;have eb:=hb.lit_inv;subst ea;subst eb;have hg:=ur (P:=P) op t x y (.int k n) (.int k' n') w (.inl ⟨k,n,rfl⟩);split at h
  .rename_i q hq;cases h;refine⟨_,?_,.imm (.lit _)⟩
   cases op<;>simp only[Mb]at hq<;>try cases hq
   all_goals
    split at hq
    .cases hq
    rename_i hn;cases hq;simp[hg,binOp,Op.shift,hn]
  rename_i hq;split at h
  .rename_i hkk;subst hkk;split at h;.rename_i q hq2;cases h;refine⟨_,?_,.imm (.lit _)⟩;cases op<;>simp only[GS]at hq2<;>cases hq2<;>simp[hg,binOp,Op.intCmp]
   rename_i hq2
   cases hr:MN k op n n' with
   |none=>rw[hr]at h;cases h
   |some q =>
    rw[hr]at h;cases h;refine⟨_,?_,.imm (.lit _)⟩
    cases op<;>simp only[MN]at hr<;>try cases hr
    case quo =>
     split at hr
     .cases hr
     rename_i hn;cases hr;simp[hg,binOp,Op.intDiv,hn]
    case rem =>
     split at hr
     .cases hr
     rename_i hn;cases hr;simp[hg,binOp,Op.intDiv,hn]
    all_goals simp[hg,binOp,Op.intArith,Op.intBits]
  cases h
 .rename_i s u;have ea:=ha.lit_inv;have eb:=hb.lit_inv;subst ea;subst eb;have hg:=ur (P:=P) op t x y (.string s) (.string u) w (.inr (.inl ⟨s,rfl⟩));have e1:∀s:ByteArray,s.toList=s.data.toList:=λs=>ByteArray.toList_eq s
  cases op<;>simp only[dc]at h<;>try cases h
  case add =>
   split at h
   .rename_i hle;cases h;refine⟨_,?_,.imm (.lit _)⟩
    have hs:¬((s.size:Int)+(u.size:Int) >IntKind.i64.max):=by
     have e2:s.size=s.data.toList.length:=YC
     have e3:u.size=u.data.toList.length:=YC
     have e4:IntKind.i64.max=9223372036854775807:=YB
     rw[e4,e2,e3];omega
    have e5:s++u=⟨⟨s.data.toList++u.data.toList⟩⟩:=by
     apply ByteArray.ext;simp
    simp only[hg,binOp,Op.stringOp,Sem.run_bind,Result.andThen_ok];rw[<-e5];simp;rw[show IntKind.i64.max=9223372036854775807 by decide]at hs;omega
   cases h
  all_goals (refine⟨_,?_,.imm (.lit _)⟩;simp[hg,binOp,Op.stringOp,e1])
 .rename_i p q;have ea:=ha.lit_inv;have eb:=hb.lit_inv;subst ea;subst eb;have hg:=ur (P:=P) op t x y (.bool p) (.bool q) w (.inr (.inr ⟨p,rfl⟩));split at h;.rename_i htk;rw[htk]at hdk;have:=yl hdk;subst this;cases h;refine⟨_,?_,.imm (.lit _)⟩;simp[hg,binOp,oq hd]
  .rename_i htk;rw[htk]at hdk;have:=yl hdk;subst this;cases h;refine⟨_,?_,.imm (.lit _)⟩;simp[hg,binOp,oq hd]
  cases h
 cases h
def RW:UnOp->AV->Option AV
 |.neg,.lit (.int k n)=>some (.lit (.int k (k.wrap (0-n))))
 |.xor,.lit (.int k n)=>some (.lit (.int k (k.wrap (BitVec.ofInt k.bits (if k.signed then -1 else k.max) ^^^ BitVec.ofInt k.bits n).toNat)))
 |.not,.lit (.bool b)=>some (.lit (.bool !b))
 |_,_=>none
theorem a8{A m nb w}{op:UnOp}{r:AV}(ha:V A m nb w av a)(h:RW op av=some r):∃v,(Op.unary op a).run P w=.ok v w/\V A m nb w r v:=by
 unfold RW at h
 split at h<;>first|(cases h;have:=ha.lit_inv;subst this;exact⟨_,by simp[Op.unary,Op.intArith,Op.intBits],.imm (.lit _)⟩)|cases h
def Zw(b:UInt8):Vt:=[.lit (.int .u8 b.toNat)]
def wt:Vt->Option UInt8
 |[.lit (.int .u8 n)]=>if((UInt8.ofNat n.toNat).toNat:Int)=n then some (UInt8.ofNat n.toNat)else none
 |_=>none
def NS:List (Vt)->Option (List UInt8)
 |[]=>some []
 |r::l=>match wt r,NS l with|some b,some bs=>some (b::bs)|_,_=>none
theorem zA4{r b}(h:wt r=some b):r=Zw b:=by
 unfold wt at h;split at h
 .rename_i n;split at h;.rename_i e;cases h;simp only[Zw,e]
  cases h
 cases h
theorem oC:∀{l:List (Vt)} {bs:List UInt8},NS l=some bs->l=bs.map Zw
 |[],bs,h=>by cases h;rfl
 |r::l,bs,h=>by
  simp only[NS]at h;split at h;.rename_i b bs' h1 h2;cases h;rw[zA4 h1,oC h2];rfl
  cases h
def RP(st:St)(ks kd:TK)(ke:TK)(x:AV):Option (AV×St):=
 match kd,x with
 |.int k,.lit (.int _ n)=>some (.lit (.int k (k.wrap n)),st)
 |.str,.lit (.string s)=>match ks with|.str=>some (.lit (.string s),st)|_=>none
 |.str,x =>
  match ks,ke with
  |.slc _,.int .u8 =>
   match UW st 1 x with
   |some els=>(NS els).map λbs=>(.lit (.string ⟨⟨bs⟩⟩),st)
   |none=>none
  |_,_=>none
 |.slc _,.lit (.string s)=>
  match ks,ke with
  |.str,.int .u8=>some (.msl st.length 0 s.data.toList.length,st++[some (1,s.data.toList.map Zw)])
  |_,_=>none
 |_,_=>none
theorem V.bytes{A m nb w b v}(h:V A m nb w (.lit (.int .u8 (b:UInt8).toNat)) v):v=.int .u8 b.toNat:=h.lit_inv
theorem zC1{A m w st}{s d e:TypeId}{is id ie:TI}{xv:Value}{VO}(hR:R A m w st)(hs:Xk P s=some is)(hd:Xk P d=some id)(hke:(∃e',is.k=.slc e'/\e'=e)\/(∃e',id.k=.slc e'/\e'=e)\/((∀e',is.k≠.slc e')/\∀e',id.k≠.slc e'))(he:Xk P e=some ie)(hx:V A m st.length w x xv)(h:RP st is.k id.k ie.k x=some (av,VO)):∃v w' m',(convert s d xv).run P w=.ok v w'/\R A m' w' VO/\Xs A m st.length w A m' VO.length w'/\V A m' VO.length w' av v:=by
 obtain⟨ds,_,hds,_,_,_,_,hdsk,_⟩:=Zn hs;obtain⟨dd,_,Fj,_,_,_,_,hddk,_⟩:=Zn hd;obtain⟨de,_,hde,_,_,_,_,hdek,_⟩:=Zn he;unfold RP at h;split at h;.rename_i k k' n hk;cases h;rw[hk]at hddk;have:=xb hddk;subst this;have:=hx.lit_inv;subst this;exact⟨_,w,m,by simp[convert,run_underlying hds,run_underlying Fj,Conv.intToInt],hR,Xs.refl _ _ _ _,.imm (.lit _)⟩
 .rename_i u hk;split at h;.rename_i Fr;cases h;rw[hk]at hddk;rw[Fr]at hdsk;have:=D2 hddk;subst this;have:=D2 hdsk;subst this;have:=hx.lit_inv;subst this;exact⟨_,w,m,by simp[convert,run_underlying hds,run_underlying Fj],hR,Xs.refl _ _ _ _,.imm (.lit _)⟩
  cases h
 .rename_i hk hns;split at h
  .rename_i e' Fr hk3;split at h
   .rename_i els hrows
    cases hb:NS els with
    |none=>rw[hb]at h;cases h
    |some bs =>
     rw[hb]at h;simp at h;obtain⟨rfl,rfl⟩:=h;rw[hk]at hddk;rw[Fr]at hdsk;rw[hk3]at hdek;have:=D2 hddk;subst this;have:=Kt hdsk;subst this;have:=xb hdek;subst this
     have hee:e'=e:=by
      rcases hke with ⟨e2,h1,h2⟩|⟨e2,h1,h2⟩|⟨h1,_⟩
      .rw[Fr]at h1;cases h1;exact h2
      .rw[hk]at h1;cases h1
      exact absurd Fr (h1 e')
     subst hee;have hels:=oC hb;subst hels
     rcases uE hR hrows hx with ⟨h0,a,cap,rfl⟩|⟨B,o,cap,rfl,Fd,hrd⟩
     .have hbs:bs=[]:=by simpa using h0
      subst hbs;refine⟨.string ⟨⟨[]⟩⟩,w,m,?_,hR,Xs.refl _ _ _ _,.imm (.lit _)⟩
      cases a with
      |none=>rw[run_convert_bytes_nil w s e' hds hde 0 cap d Fj];rfl
      |some a=>exact run_convert_bytes_back w s d e' a cap [] hds hde Fj (λj hj=>by simp at hj)
     refine⟨.string ⟨⟨bs⟩⟩,w,m,?_,hR,Xs.refl _ _ _ _,.imm (.lit _)⟩
     have hl:(bs.map Zw).length=bs.length:=YC
     rw[hl];refine run_convert_bytes_back w s d e' ⟨B,o,none⟩ cap bs hds hde Fj (λj hj=>?_);obtain⟨v,h1,h2⟩:=hrd.val j (by simpa using hj) 0 (by simp[Zw]);rw[HD]
     have h3:(List.map Zw bs)[j]'(by simpa using hj)=Zw bs[j]:=YC
     simp only[h3,Zw]at h2;simp only[Q9]at h2;rw[V.bytes h2]at h1;simpa using h1
   cases h
  cases h
 .rename_i e' u hk;split at h
  .rename_i Fr hk3;cases h;rw[hk]at hddk;rw[Fr]at hdsk;rw[hk3]at hdek;have:=Kt hddk;subst this;have:=D2 hdsk;subst this;have:=xb hdek;subst this
   have hee:e'=e:=by
    rcases hke with ⟨e2,h1,h2⟩|⟨e2,h1,h2⟩|⟨_,h1⟩
    .rw[Fr]at h1;cases h1
    .rw[hk]at h1;cases h1;exact h2
    exact absurd hk (h1 e')
   subst hee;have:=hx.lit_inv;subst this;have hr:=run_bytes_of_string (P:=P) w s d e' u hds Fj hde
   have V8:u.size=u.data.toList.length:=YC
   have hge:=grownCap_ge w u.size 0 e'
   have hbl:(bytesRow u (grownCap w u.size 0 e')).size=grownCap w u.size 0 e':=by
    have h9:u.data.size=u.size:=rfl;simp[bytesRow];omega
   have hcell:∀off,off<grownCap w u.size 0 e'->∃v,(w.drew.alloc (.cells (bytesRow u (grownCap w u.size 0 e')) e' ((bytesRow u (grownCap w u.size 0 e')).size,(bytesRow u (grownCap w u.size 0 e')).size+1))).cell? ⟨w.heap.size,off,none⟩=some v/\(bytesRow u (grownCap w u.size 0 e'))[off]?=some v:=λoff ho=>by
    have:=World.cell?_alloc_mark w.drew (bytesRow u (grownCap w u.size 0 e')) e' ((bytesRow u (grownCap w u.size 0 e')).size,(bytesRow u (grownCap w u.size 0 e')).size+1) off;rw[QU (by rw[hbl];exact ho)]at this;exact⟨_,this,QU (by rw[hbl];exact ho)⟩
   have hg:Zb w (w.drew.alloc (.cells (bytesRow u (grownCap w u.size 0 e')) e' ((bytesRow u (grownCap w u.size 0 e')).size,(bytesRow u (grownCap w u.size 0 e')).size+1))):=(Zb.drew w).trans (Zb.alloc _ _)
   have hp:=hR.push hg ⟨true,w.heap.size,0,1,grownCap w u.size 0 e',false⟩ (u.data.toList.map Zw)
    (λ_=>⟨Qg _,by show w.heap.size<(w.drew.alloc _).heap.size;rw[World.size_alloc];exact QL _⟩) (λh=>by cases h)
    (λ_ off ho=>by obtain⟨v,h1,_⟩:=hcell off ho;exact⟨v,h1⟩)
    (λ_ off ho=>by
     have hh:(w.drew.alloc (.cells (bytesRow u (grownCap w u.size 0 e')) e' ((bytesRow u (grownCap w u.size 0 e')).size,(bytesRow u (grownCap w u.size 0 e')).size+1))).heap[w.heap.size]?=some (.cells (bytesRow u (grownCap w u.size 0 e')) e' ((bytesRow u (grownCap w u.size 0 e')).size,(bytesRow u (grownCap w u.size 0 e')).size+1)):=by
      show(w.heap.push _)[w.heap.size]?=_;simp
     have ho':off<(bytesRow u (grownCap w u.size 0 e')).size:=by rw[hbl];exact ho
     simp only[fz,hh]
     have:decide ((bytesRow u (grownCap w u.size 0 e')).size<=off)=false:=by simpa using ho'
     rw[this];rfl)
    (λ_=>by simp;have:u.data.size=u.size:=rfl;omega) (λi hi=>by simp[Zw])
    (λ_ i hi j hj=>by
     have VZ:i<u.data.toList.length:=by simpa using hi
     have h3:(List.map Zw u.data.toList)[i]=Zw u.data.toList[i]:=YC
     have hj0:j=0:=by simp[h3,Zw]at hj;exact hj
     subst hj0;obtain⟨v,h1,h2⟩:=hcell i YA;refine⟨v,by simpa using h1,?_⟩
     have hv:v=.int .u8 u.data.toList[i].toNat:=by
      have h8:i<u.data.size:=by simpa using VZ
      have h9:i<u.size:=h8;simp[bytesRow,Array.getElem?_append,h9]at h2;rw[<-h2];simp
     simp only[h3,Zw,Q9,hv]
     exact .imm (.lit _))
   have VR:(st++[some (1,u.data.toList.map Zw)]).length=st.length+1:=YC
   rw[VR];refine⟨_,_,_,hr,hp.1,hp.2,.msl _ _ _ _ _ _ (QL _) λb hb=>?_⟩;simp[BM.put]at hb;subst hb;exact⟨V8,YA,.inr ⟨rfl,YC,YC⟩⟩
  cases h
 cases h
inductive EK where
 |int|bool|str
def CJ:TK->Option EK
 |.int _=>some .int
 |.bool=>some .bool
 |.str=>some .str
 |_=>none
def CI(P:Program):List Field->Option (List (Nat×EK))
 |[]=>some []
 |f::r =>
  if f.name ≠ "_" then
   match Xk P f.type,CI P r with
   |some ti,some l=>(CJ ti.k).map λk=>(f.offset,k)::l
   |_,_=>none
  else none
def qV(P:Program)(t:TypeId):Option (List (Nat×EK)):=
 match P.underlying t with
 |some (.struct fs)=>if P.stoodInHeld t=false/\P.eqGuardType P.depth t=false then CI P fs.toList else none
 |_=>none
def Nn:EK->AV->AV->Option Bool
 |.int,.lit (.int k a),.lit (.int k' b)=>if k=k' then some (a==b)else none
 |.bool,.lit (.bool a),.lit (.bool b)=>some (a==b)
 |.str,.lit (.string a),.lit (.string b)=>some (a.data.toList==b.data.toList)
 |_,_,_=>none
def Bk(cs ds:Vt):List (Nat×EK)->Option Bool
 |[]=>some true
 |(o,k)::r =>
  match cs[o]?,ds[o]?,Bk cs ds r with
  |some a,some b,some q=>(Nn k a b).map λp=>p&&q
  |_,_,_=>none
def RX(P:Program)(t:TypeId)(op:BinOp):AV->AV->Option AV
 |.agg cs,.agg ds =>
  match qV P t with
  |some l=>match op with
   |.eql=>(Bk cs ds l).map λb=>.lit (.bool b)
   |.neq=>(Bk cs ds l).map λb=>.lit (.bool (!b))
   |_=>none
  |none=>none
 |_,_=>none
theorem qF{A m nb}{w:World}(hx:VL A m nb w cs xs){o:Nat}{a:AV}(h:cs[o]?=some a):∃v,xs[o]?=some v/\V A m nb w a v:=by
 obtain⟨h1,h2⟩:=Qb.1 h;have h3:=hx.2 o h1;rw[h2]at h3
 have h4:o<xs.size:=by rw[hx.1];exact h1
 refine⟨xs[o],by simp[h4],?_⟩;simpa[Qi,h4]using h3
theorem r3{A m nb}{w:World}{t:TypeId}{ti:TI}{k:EK}{a b:AV}{x y:Value}{p:Bool}(ht:Xk P t=some ti)(hk:CJ ti.k=some k)(ha:V A m nb w a x)(hb:V A m nb w b y)(h:Nn k a b=some p)(d:Nat):(Op.equalIn (d+1) t x y).run P w=.ok p w/\ti.k.isAgg=some false:=by
 obtain⟨dd,i0,hd,_,_,_,_,hdk,_⟩:=Zn ht;unfold CJ at hk;split at hk<;>cases hk
 .rename_i kk hkk;refine⟨?_,by rw[hkk];rfl⟩;unfold Nn at h;split at h
  .split at h
   .rename_i he;subst he;cases h;rw[ha.lit_inv,hb.lit_inv];rw[hkk]at hdk
    have:∃k3,dd=.int k3:=by cases dd<;>simp[Ub]at hdk<;>first|exact⟨_,rfl⟩|(split at hdk<;>cases hdk)
    obtain⟨k3,rfl⟩:=this;exact run_equalIn_int w d t _ k3 _ _ hd
   cases h
  .contradiction
  .contradiction
  cases h
 .rename_i hkk;refine⟨?_,by rw[hkk];rfl⟩;unfold Nn at h;split at h;.contradiction
  .cases h;rw[ha.lit_inv,hb.lit_inv];rw[hkk]at hdk
   have:dd=.bool:=by cases dd<;>simp[Ub]at hdk<;>first|rfl|(split at hdk<;>cases hdk)
   subst this;exact run_equalIn_bool' w d t _ _ hd
  .contradiction
  cases h
 rename_i hkk;refine⟨?_,by rw[hkk];rfl⟩;unfold Nn at h;split at h;.contradiction
 .contradiction
 .cases h;rw[ha.lit_inv,hb.lit_inv];rw[hkk]at hdk
  have:dd=.string:=by cases dd<;>simp[Ub]at hdk<;>first|rfl|(split at hdk<;>cases hdk)
  subst this;have:=run_equalIn_string (P:=P) w d t;rw[this _ _ hd,ByteArray.toList_eq,ByteArray.toList_eq]
 cases h
theorem bY{P:Program}{A m nb}{w:World}{cs ds:Vt}{xs ys:Array Value}(hx:VL A m nb w cs xs)(hy:VL A m nb w ds ys)(d:Nat):∀{fs:List Field} {l:List (Nat×EK)} {b:Bool},CI P fs=some l->Bk cs ds l=some b->(Op.eqFields (d+1) xs ys fs).run P w=.ok b w
 |[],l,b,h,h2=>by cases h;cases h2;simp[Op.eqFields]
 |f::fs,l,b,h,h2=>by
  unfold CI at h;split at h
  .rename_i hn;split at h
   .rename_i ti l' ht FU
    cases hk:CJ ti.k with
    |none=>rw[hk]at h;cases h
    |some k =>
     rw[hk]at h;cases h;unfold Bk at h2;split at h2
     .rename_i a b' q ha hb hq
      cases hp:Nn k a b' with
      |none=>rw[hp]at h2;cases h2
      |some p =>
       rw[hp]at h2;cases h2;obtain⟨x,hx1,hx2⟩:=qF hx ha;obtain⟨y,hy1,hy2⟩:=qF hy hb;obtain⟨h3,h4⟩:=r3 ht hk hx2 hy2 hp d;have hia:=SP w ht h4;have ih:=bY hx hy d FU hq
       have px:(part f.type xs f.offset).run P w=.ok x w:=by simp[part,hia,hx1]
       have py:(part f.type ys f.offset).run P w=.ok y w:=by simp[part,hia,hy1]
       unfold Op.eqFields;rw[YK hn];simp only[Sem.run_bind,px,py,h3,Result.andThen_ok,Sem.run_ite]
       cases p with
       |true=>simpa using ih
       |false=>simp
     cases h2
   cases h
  cases h
theorem zEb{A m nb w}{t:TypeId}{x y:Operand}{r:AV}(ha:V A m nb w av a)(hb:V A m nb w bv b)(h:RX P t op av bv=some r):
  ∃v,(do eqGuard op t x y a b;binOp op t a b:Sem Value).run P w=.ok v w/\V A m nb w r v:=by
 unfold RX at h;split at h
 .rename_i cs ds;split at h
  .rename_i l hl;obtain⟨xs,rfl,hx⟩:=ha.agg_inv;obtain⟨ys,rfl,hy⟩:=hb.agg_inv;unfold qV at hl;split at hl
   .rename_i fs hfs;split at hl
    .rename_i hc
     have hfo:P.fieldsOf t=fs:=by unfold Program.fieldsOf;rw[hfs]
     have hg:(eqGuard op t x y (.agg xs) (.agg ys)).run P w=.ok () w:=run_eqGuard_agg w op t x y xs ys hc.2
     have key:∀p,Bk cs ds l=some p->(Op.equalIn 10000 t (.agg xs) (.agg ys)).run P w=.ok p w:=λp hp=>by
      rw[run_equalIn_agg w 9999 t xs ys (by rw[hfo];exact hfs) hc.1,hfo];exact bY hx hy 9998 hl hp
     cases hp:Bk cs ds l with
     |none=>rw[hp]at h;cases op<;>cases h
     |some p =>
      rw[hp]at h;cases op<;>cases h;.exact⟨.bool p,by simp only[Sem.run_bind,hg,Result.andThen_ok,run_eql_struct,key p hp],.imm (.lit _)⟩
      exact⟨.bool (!p),by simp only[Sem.run_bind,hg,Result.andThen_ok,run_neq_struct,key p hp],.imm (.lit _)⟩
    cases hl
   cases hl
  cases h
 cases h
theorem uj(off:Nat):∀(l:List Value) (j0:Nat) (arr:Array Value),
  ((l.zipIdx j0).foldl (λcs (x:Value×Nat)=>cs.setIfInBounds (off+x.2) x.1) arr).size=arr.size/\
  ∀q,q<arr.size->((l.zipIdx j0).foldl (λcs (x:Value×Nat)=>cs.setIfInBounds (off+x.2) x.1) arr).getD q undef =
   if off+j0<=q/\q<off+j0+l.length then l.getD (q-(off+j0)) undef else arr.getD q undef
 |[],j0,arr=>⟨rfl,λq hq=>by simp;omega⟩
 |v::l,j0,arr=>by
  obtain⟨h1,h2⟩:=uj off l (j0+1) (arr.setIfInBounds (off+j0) v);simp only[List.zipIdx_cons,Qz];refine⟨by rw[h1];simp,λq hq=>?_⟩;rw[h2 q (by simpa using hq)];by_cases h3:off+(j0+1)<=q/\q<off+(j0+1)+l.length
  .rw[YK h3,YK (by simp;omega)]
   have e:q-(off+j0)=(q-(off+(j0+1)))+1:=YA
   rw[e];simp[Ql]
  rw[YM h3];by_cases h4:q=off+j0;.subst h4;rw[YK YC];simp[hq]
  rw[YM (by simp;omega)];simp only[Qi];rw[JY (Ne.symm h4)]
def ON(pl:List (Nat×Nat)):Vt->List (Nat×AV)->Option (Vt)
 |cs,[]=>some cs
 |cs,(i,x)::r =>
  match pl[i]?,Hu x with
  |some (off,size),some xs=>if xs.length=size/\off+size<=cs.length then ON pl (cs.take off++xs++cs.drop (off+size)) r else none
  |_,_=>none
theorem tD{xs:Vt}{off:Nat}(h:off+xs.length<=cs.length):(cs.take off++xs++cs.drop (off+xs.length))[q]?=if off<=q/\q<off+xs.length then xs[q-off]? else cs[q]?:=by
 have hl:(cs.take off).length=off:=by simp;omega
 by_cases h1:q<off;.rw[YM YA,Q4,Qs YA,JC,YK h1]
 by_cases h2:q<off+xs.length;.rw[YK YA,Qs (by simp;omega),Qt YA,hl]
 rw[YM YA,Qt (by simp;omega),JD];congr 1;simp;omega
theorem VL.get{A m nb w cs a}(h:VL A m nb w cs a)(hx:cs[q]?=some x):V A m nb w x (a.getD q undef):=by obtain⟨hq,rfl⟩:=Qb.1 hx;exact h.2 q hq
theorem VL.of{A m nb w}{a:Array Value}(hs:a.size=cs.length)(h:∀q x,cs[q]?=some x->V A m nb w x (a.getD q undef)):VL A m nb w cs a:=⟨hs,λi hi=>h i _ (Qe hi)⟩
theorem uy{A m nb w}{pl:List (Nat×Nat)}{place:Nat->Option (Nat×Nat)}(hpl:∀i y,pl[i]?=some y->place i=some y):
  ∀(parts:List (Nat×AV)) (vs:List (Nat×Value)) (cs:Vt) (a:Array Value) (r:Vt),parts.length=vs.length->
   (∀i (h:i<parts.length) (h':i<vs.length),vs[i].1=parts[i].1/\V A m nb w parts[i].2 vs[i].2)->VL A m nb w cs a->ON pl cs parts=some r->
   ∃b,Instr.fill place a vs=some b/\VL A m nb w r b
 |[],[],cs,a,r,_,_,hv,h=>by cases h;exact⟨a,rfl,hv⟩
 |(i,x)::parts,(i',v)::vs,cs,a,r,hl,hp,hv,h=>by
  obtain⟨h1,h2⟩:=hp 0 YC YC;simp at h1 h2;subst h1;simp only[ON]at h;split at h
  .rename_i off size xs hoff hxs;split at h
   .rename_i hc;obtain⟨rfl,Fc⟩:=hc;obtain⟨hvx,_⟩:=Te hxs h2;obtain⟨f1,f2⟩:=uj off v.cells.toList 0 a
    have hvs:v.cells.toList.length=xs.length:=by simpa using hvx.1
    have hfa:v.cells.zipIdx.foldl (λcs (x:Value×Nat)=>cs.setIfInBounds (off+x.2) x.1) a=(v.cells.toList.zipIdx 0).foldl (λcs (x:Value×Nat)=>cs.setIfInBounds (off+x.2) x.1) a:=by
     rw[<-Array.foldl_toList];simp
    have ih:=uy hpl parts vs (cs.take off++xs++cs.drop (off+xs.length)) _ r (by simpa using hl)
     (λj hj hj'=>hp (j+1) (by simp;omega) (by simp;omega))
     (VL.of (a:=(v.cells.toList.zipIdx 0).foldl (λcs (x:Value×Nat)=>cs.setIfInBounds (off+x.2) x.1) a) (by rw[f1,hv.1];simp;omega) λq y hq=>by
      rw[tD Fc]at hq
      have hqa:q<a.size:=by
       rw[hv.1];split at hq;.omega
       exact(Qb.1 hq).1
      rw[f2 q hqa];simp only[Je];split at hq
      .rename_i hc;rw[YK (by rw[hvs];exact hc)];have:=hvx.get hq
       rwa [show v.cells.toList.getD (q-off) undef=v.cells.getD (q-off) undef by simp[Ql,Qi]]
      rename_i hc;rw[YM (by rw[hvs];exact hc)]
      exact hv.get hq) h
    obtain⟨b,hb1,FV⟩:=ih;refine⟨b,?_,FV⟩;simp only[Instr.fill,hpl _ _ hoff];rw[YM];.rw[hfa];exact hb1
    have e1:v.cells.size=xs.length:=hvx.1;simp[e1];rw[hv.1];omega
   cases h
  .cases h
 |[],_::_,_,_,_,hl,_,_,_=>by simp at hl
 |_::_,[],_,_,_,hl,_,_,_=>by simp at hl
def Dc(env:Ev):List (Nat×Operand)->Option (List (Nat×AV))
 |[]=>some []
 |(i,x)::r=>match ev env x,Dc env r with|some v,some l=>some ((i,v)::l)|_,_=>none
theorem kq{A m nb w n env a}(h:Ly A m nb w n env a):∀{ps:List (Nat×Operand)} {l:List (Nat×AV)},Dc env ps=some l->
  l.length=(ps.map λp=>(p.1,a.eval p.2)).length/\∀i (h1:i<l.length) (h2:i<(ps.map λp=>(p.1,a.eval p.2)).length),(ps.map λp=>(p.1,a.eval p.2))[i].1=l[i].1/\V A m nb w l[i].2 (ps.map λp=>(p.1,a.eval p.2))[i].2
 |[],l,hl=>by cases hl;exact⟨rfl,λi h1=>by simp at h1⟩
 |(i,x)::ps,l,hl=>by
  simp only[Dc]at hl;split at hl
  .rename_i v l' hv FU;cases hl;obtain⟨h1,h2⟩:=kq h FU;refine⟨by simpa using h1,λj hj hj'=>?_⟩
   cases j with
   |zero=>exact⟨rfl,XD h hv⟩
   |succ j=>exact h2 j (by simpa using hj) (by simpa using hj')
  cases hl
def DY(env:Ev):List Operand->Option (Vt)
 |[]=>some []
 |x::r=>match ev env x,DY env r with|some v,some l=>some (v::l)|_,_=>none
theorem Ps{A m nb w n env a}(h:Ly A m nb w n env a):∀{ps:List Operand} {l:Vt},DY env ps=some l->VL A m nb w l (ps.map a.eval).toArray
 |[],l,hl=>by cases hl;exact⟨rfl,λi h1=>by cases h1⟩
 |x::ps,l,hl=>by
  simp only[DY]at hl;split at hl
  .rename_i v l' hv FU;cases hl;have ih:=Ps h FU;refine⟨by simpa using ih.1,λj hj=>?_⟩
   cases j with
   |zero=>simpa using XD h hv
   |succ j=>simpa using ih.2 j (by simpa using hj)
  cases hl
theorem zDA{w:World}(h:FB.toList.mapM (λf=>(P.info? f.type).map λi=>(f.offset,i.size))=some pl):
  (FB.mapM λf=>do pure (f.offset,<-sizeOf f.type):Sem (Array (Nat×Nat))).run P w=.ok pl.toArray w:=by
 have:=run_places (P:=P) w FB.toList pl h;simp[Yn,this]
theorem vw{A m nb w n env a}{t:TypeId}{ti:TI}{r:Vt}(hE:Ly A m nb w n env a)(ht:Xk P t=some ti)(hpl:ti.k=.agg pl\/(∃n e te,ti.k=.arr n e/\Xk P e=some te/\pl=(List.range n).map λi=>(i*te.size,te.size)))(hp:Dc env ps.toList=some parts)(h:ON pl (Zm ti.zero) parts=some r):∃v,(Instr.build t (ps.map λ(i,x)=>(i,a.eval x))).run P w=.ok v w/\V A m nb w (.agg r) v:=by
 obtain⟨d,i0,hd,_,_,_,_,hdk,hzs⟩:=Zn ht;have hz:=kw w ht;obtain⟨e1,e2⟩:=kq hE hp
 have hm:(ps.map λ(i,x)=>(i,a.eval x)).toList=ps.toList.map λp=>(p.1,a.eval p.2):=YC
 have hm':(ps.toList.map λp=>(p.1,a.eval p.2))=(ps.map λ(i,x)=>(i,a.eval x)).toList:=hm.symm
 rcases hpl with hk|⟨cnt,e,te,hk,he,rfl⟩
 .rw[hk]at hdk;obtain⟨FB,rfl,hmm⟩:=qI hdk;obtain⟨b,hb,hv⟩:=uy (place:=(pl.toArray[·]?)) (λi y hy=>by simpa using hy) parts _ _ ti.zero.cells r e1 e2 (Ti A m nb w ti.zero) h;have hpr:=zDA (P:=P) (w:=w) hmm;refine⟨.agg b,?_,.agg _ _ hv.1 hv.2⟩;rw[<-hm]at hb;simp only[Instr.build,Sem.run_bind,hz,Result.andThen_ok,run_underlying hd];simp only[hpr,Result.andThen_ok,hb,Sem.run_pure]
 rw[hk]at hdk
 have:d=.array cnt e:=by
  cases d<;>simp only[Ub]at hdk
  case array=>cases hdk;rfl
  case struct=>split at hdk<;>cases hdk
  all_goals cases hdk
 subst this;have hso:=HH w he
 obtain⟨b,hb,hv⟩:=uy (place:=λi=>some (i*te.size,te.size)) (λi y hy=>by
  simp[Jn,List.getElem?_range]at hy;obtain⟨j,h1,h2⟩:=hy;obtain⟨h3,rfl⟩:=Qb.1 h1
  rw[<-h2];simp) parts _ _ ti.zero.cells r e1 e2 (Ti A m nb w ti.zero) h
 refine⟨.agg b,?_,.agg _ _ hv.1 hv.2⟩;rw[<-hm]at hb;simp only[Instr.build,Sem.run_bind,hz,Result.andThen_ok,run_underlying hd];simp only[hso,Result.andThen_ok,hb,Sem.run_pure]
def Nm(size:Nat):List (Vt)->List (Nat×AV)->Option (List (Vt))
 |VY,[]=>some VY
 |VY,(i,x)::r =>
  match Hu x with
  |some xs=>if xs.length=size/\i<VY.length then Nm size (VY.set i xs) r else none
  |none=>none
def dC(A:Nat->Prop)(m:BM)(nb:Nat)(w:World)(size:Nat)(VY:List (Vt))(a:Array Value):Prop:=a.size=VY.length*size/\(∀i (h:i<VY.length),VY[i].length=size)/\∀i (h:i<VY.length) j (h':j<VY[i].length),V A m nb w VY[i][j] (a.getD (i*size+j) undef)
theorem oy{A m nb w}{size:Nat}:
  ∀(parts:List (Nat×AV)) (vs:List (Nat×Value)) (VY:List (Vt)) (a:Array Value) (r:List (Vt)),parts.length=vs.length->
   (∀i (h:i<parts.length) (h':i<vs.length),vs[i].1=parts[i].1/\V A m nb w parts[i].2 vs[i].2)->dC A m nb w size VY a->Nm size VY parts=some r->
   ∃b,Instr.fill (λi=>some (i*size,size)) a vs=some b/\dC A m nb w size r b/\r.length=VY.length
 |[],[],cs,a,r,_,_,hv,h=>by cases h;exact⟨a,rfl,hv,rfl⟩
 |(i,x)::parts,(i',v)::vs,VY,a,r,hl,hp,hv,h=>by
  obtain⟨h1,h2⟩:=hp 0 YC YC;simp at h1 h2;subst h1;simp only[Nm]at h;split at h
  .rename_i xs hxs;split at h
   .rename_i hc;obtain⟨hxl,Fc⟩:=hc;obtain⟨hvx,_⟩:=Te hxs h2;obtain⟨f1,f2⟩:=uj (i'*size) v.cells.toList 0 a
    have hvs:v.cells.toList.length=size:=by rw[<-hxl];simpa using hvx.1
    have hfa:v.cells.zipIdx.foldl (λcs (x:Value×Nat)=>cs.setIfInBounds (i'*size+x.2) x.1) a=(v.cells.toList.zipIdx 0).foldl (λcs (x:Value×Nat)=>cs.setIfInBounds (i'*size+x.2) x.1) a:=by
     rw[<-Array.foldl_toList];simp
    have hend:i'*size+size<=a.size:=by
     rw[hv.1];have h5:(i'+1)*size<=VY.length*size:=QZ _ Fc;rw[QV,Nat.one_mul]at h5;exact h5
    have ih:=oy parts vs (VY.set i' xs) ((v.cells.toList.zipIdx 0).foldl (λcs (x:Value×Nat)=>cs.setIfInBounds (i'*size+x.2) x.1) a) r (by simpa using hl)
     (λj hj hj'=>hp (j+1) (by simp;omega) (by simp;omega))
     ⟨by rw[f1,hv.1];simp,λq hq=>by
      simp only[J4];split;.exact hxl
      .exact hv.2.1 q (by simpa using hq),λq hq j hj=>by
      have hq':q<VY.length:=by simpa using hq
      have hj':j<size:=by
       have:((VY.set i' xs)[q]).length=size:=by
        simp only[J4];split;.exact hxl
        exact hv.2.1 q hq'
       omega
      have hqa:q*size+j<a.size:=by rw[hv.1];exact Gl hq' hj'
      rw[f2 _ hqa];simp only[Je];by_cases e:i'=q
      .subst e;rw[YK (by rw[hvs];omega)]
       have e3:(VY.set i' xs)[i'][j]=xs[j]' YA:=YC
       rw[e3];have:=hvx.2 j YA
       rwa [show v.cells.toList.getD (i'*size+j-i'*size) undef=v.cells.getD j undef by simp[Ql,Qi]]
      rw[YM]
      .have e3:(VY.set i' xs)[q][j]=VY[q][j]'(by rw[hv.2.1 q hq'];exact hj'):=by simp[e]
       rw[e3];exact hv.2.2 q hq' j _
      rw[hvs]
      rcases Nat.lt_or_gt_of_ne e with h5|h5
      .have:=Gl (i':=i') (i:=q) (k:=size) (j:=size-1) h5 YA;omega
      have:=Gl (i':=q) (i:=i') (k:=size) (j:=j) h5 hj'
      omega⟩ h
    obtain⟨b,hb1,FV,hb3⟩:=ih;refine⟨b,?_,FV,by rw[hb3];simp⟩;simp only[Instr.fill];rw[YM];.rw[hfa];exact hb1
    have e1:v.cells.size=size:=by rw[<-hvs];simp
    simp[e1];omega
   cases h
  .cases h
 |[],_::_,_,_,_,hl,_,_,_=>by simp at hl
 |_::_,[],_,_,_,hl,_,_,_=>by simp at hl
theorem lZ{A m w st n env a}{t e:TypeId}{ti:TI}{len:Nat}{r:List (Vt)}(hR:R A m w st)(hE:Ly A m st.length w n env a)(ht:Xk P t=some ti)(FC:ti.k=.slc e)(he:Xk P e=some te)(V8:0<te.size)(hmax:len*te.size<=16777216)(hp:Dc env ps.toList=some parts)(h:Nm te.size (List.replicate len (Zm te.zero)) parts=some r):∃v w' m',(Instr.buildSlice t len (ps.map λ(i,x)=>(i,a.eval x))).run P w=.ok v w'/\R A m' w' (st++[some (te.size,r)])/\Xs A m st.length w A m' (st++[some (te.size,r)]).length w'/\V A m' (st++[some (te.size,r)]).length w' (.msl st.length 0 len) v:=by
 obtain⟨d,i0,hd,_,_,_,_,hdk,_⟩:=Zn ht;obtain⟨_,_,_,_,_,_,_,_,hzs⟩:=Zn he;rw[FC]at hdk;have:=Kt hdk;subst this;have hso:=HH w he;have hz:=kw w he;obtain⟨e1,e2⟩:=kq hE hp
 have hm:(ps.map λ(i,x)=>(i,a.eval x)).toList=ps.toList.map λp=>(p.1,a.eval p.2):=YC
 have hzl:(Zm te.zero).length=te.size:=by simp[Zm,hzs]
 have hstart:dC A m st.length w te.size (List.replicate len (Zm te.zero)) ((Array.range (len*te.size)).map (te.zero.cells[· % te.zero.cells.size]!)):=by
  refine⟨YC,λi hi=>by simp[hzl],λi hi j hj=>?_⟩
  have VZ:i<len:=by simpa using hi
  have hj':j<te.size:=by simpa[hzl]using hj
  have hq:i*te.size+j<len*te.size:=Gl VZ hj'
  have hmod:(i*te.size+j) % te.size=j:=by rw[Yh,Nat.add_mul_mod_self_right,Nat.mod_eq_of_lt hj']
  have e3:(List.replicate len (Zm te.zero))[i][j]=(Zm te.zero)[j]'(by rw[hzl];exact hj'):=YC
  rw[e3];have h4:=(Ti A m st.length w te.zero).2 j (by rw[hzl];exact hj')
  have e5:((Array.range (len*te.size)).map (te.zero.cells[· % te.zero.cells.size]!)).getD (i*te.size+j) undef=te.zero.cells.getD j undef:=by
   have hjz:j<te.zero.cells.size:=by rw[hzs];exact hj'
   simp[Qi,hq,hzs,hmod];rw[getElem!_pos te.zero.cells j hjz,getElem?_pos te.zero.cells j hjz];rfl
  rw[e5];exact h4
 obtain⟨b,hb,hv,Fp⟩:=oy parts _ _ _ r e1 e2 hstart h
 have hrl':r.length=len:=by rw[Fp];simp
 rw[<-hm]at hb
 have hcell:∀off,off<len*te.size->(w.alloc (.cells b e)).cell? ⟨w.heap.size,off,none⟩=some (b.getD off undef):=λoff ho=>by
  have:=World.cell?_alloc_new w b e off;rw[this,QU (by rw[hv.1,hrl'];exact ho)]
  have ho2:off<b.size:=by rw[hv.1,hrl'];exact ho
  simp[Qi,ho2]
 have hpu:=hR.push (Zb.alloc w (.cells b e)) ⟨true,w.heap.size,0,te.size,len*te.size,false⟩ r (λ_=>⟨Qg _,YC⟩) (λh=>by cases h)
  (λ_ off ho=>⟨_,hcell off ho⟩) (λ_ off _=>Tw (w:=w) b e off) (λ_=>by simp[hrl']) hv.2.1
  (λ_ i hi j hj=>by
   have hj':j<te.size:=by rw[<-hv.2.1 i hi];exact hj
   exact⟨_,by simpa using hcell _ (Gl (hrl'▸hi) hj'),hv.2.2 i hi j hj⟩)
 have VR:(st++[some (te.size,r)]).length=st.length+1:=YC
 rw[VR];refine⟨.slice (some ⟨w.heap.size,0,none⟩) len len,_,_,?_,hpu.1,hpu.2,.msl _ _ _ _ _ _ (QL _) λb' hb'=>?_⟩
 .have h16:¬(len*te.size > 2 ^ 24):=by simpa using hmax
  by_cases h0:len*te.size=0
  .have hl0:len=0:=by
    rcases Nat.mul_eq_zero.1 h0 with h|h
    .exact h
    omega
   subst hl0
   have e0:∀(f:Nat->Value),(Array.range (0*te.size)).map f=#[]:=λf=>YC
   rw[e0]at hb;simp only[Instr.buildSlice,Sem.run_bind,run_underlying hd,Result.andThen_ok,hso,h16,YT];simp only[h0,YQ,Sem.run_pure,Sem.run_bind,Result.andThen_ok];rw[show(Array.range 0).map (λ(x:Nat)=>(#[]:Array Value)[x % (#[]:Array Value).size]!)=#[]by simp];rw[hm]at hb ⊢;simp only[hb];simp[newRow]
  simp only[Instr.buildSlice,Sem.run_bind,run_underlying hd,Result.andThen_ok,hso,h16,YT];simp only[h0,YT,Sem.run_bind,Sem.run_pure,Result.andThen_ok,hz,hb];simp[newRow]
 simp[BM.put]at hb';subst hb';exact⟨rfl,Qg _,.inr ⟨rfl,YC,YC⟩⟩
def xw(P:Program)(t:TypeId)(f:Nat)(x:AV):Option AV:=
 match P.underlying t,x with
 |some (.struct FB),.agg cs =>
  match FB[f]? with
  |some fld =>
   match Xk P fld.type with
   |some ti=>(match ti.k.isAgg with|some true=>if fld.offset+ti.size<=cs.length then some (.agg ((cs.drop fld.offset).take ti.size))else none|some false=>cs[fld.offset]?|none=>none)
   |none=>none
  |none=>none
 |_,_=>none
theorem zFA{A m nb}{w:World}{t:TypeId}{f:Nat}(hx:V A m nb w x v)(h:xw P t f x=some av):∃u,(Instr.field t v f).run P w=.ok u w/\V A m nb w av u:=by
 unfold xw at h;split at h
 case h_2=>cases h
 rename_i FB cs hu;split at h
 case h_2=>cases h
 rename_i fld hf;split at h
 case h_2=>cases h
 rename_i ti ht;obtain⟨a,rfl,V8,hv⟩:=hx.agg_inv
 cases ha:ti.k.isAgg with
 |none=>rw[ha]at h;cases h
 |some b =>
  have hia:=SP w ht ha;have hso:=HH w ht;rw[ha]at h
  cases b with
  |false =>
   simp only at h;obtain⟨hj,rfl⟩:=Qb.1 h
   have hj':fld.offset<a.size:=by rw[V8];exact hj
   refine⟨a.getD fld.offset undef,?_,hv _ hj⟩;simp[Instr.field,run_underlying hu,hf,part,asAgg,hia,hj',Qi,Result.andThen]
  |true =>
   simp only at h;split at h
   .rename_i hle;cases h;refine⟨.agg (a.extract fld.offset (fld.offset+ti.size)),?_,.agg _ _ (by simp;omega) λi hi=>?_⟩;.simp[Instr.field,run_underlying hu,hf,part,asAgg,hia,hso,Result.andThen]
    have VZ:i<ti.size:=by simp at hi;omega
    have h1:=hv (fld.offset+i) YA
    have e1:((cs.drop fld.offset).take ti.size)[i]=cs[fld.offset+i]' YA:=YC
    have e2:(a.extract fld.offset (fld.offset+ti.size)).getD i undef=a.getD (fld.offset+i) undef:=by
     simp only[Qi,Array.getElem?_extract];rw[YK YA]
    rw[e1,e2];exact h1
   cases h
def dq(te:TI)(cs:Vt)(n:Nat)(i:Int):Option AV:=if 0<=i/\i<n then(match te.k.isAgg with|some true=>if i.toNat*te.size+te.size<=cs.length then some (.agg ((cs.drop (i.toNat*te.size)).take te.size))else none|some false=>cs[i.toNat*te.size]?|none=>none)else none
theorem zFB{A m nb}{w:World}{t e:TypeId}{ti:TI}{k:IntKind}{i:Int}(ht:Xk P t=some ti)(hk:ti.k=.arr n e)(he:Xk P e=some te)(hx:V A m nb w (.agg cs) v)(h:dq te cs n i=some av):∃u,(Instr.index t v (.int k i)).run P w=.ok u w/\V A m nb w av u:=by
 unfold dq at h;split at h
 case isFalse=>cases h
 rename_i hi0;obtain⟨d,i0,hd,_,_,_,_,hdk,_⟩:=Zn ht;rw[hk]at hdk
 have hda:d=.array n e:=by
  cases d<;>simp only[Ub]at hdk
  case array=>cases hdk;rfl
  case struct=>split at hdk<;>cases hdk
  all_goals cases hdk
 subst hda;obtain⟨a,rfl,V8,hv⟩:=hx.agg_inv;have hso:=HH w he
 cases ha:te.k.isAgg with
 |none=>rw[ha]at h;cases h
 |some b =>
  have hia:=SP w he ha;rw[ha]at h
  cases b with
  |false =>
   simp only at h;obtain⟨hj,rfl⟩:=Qb.1 h
   have hj':i.toNat*te.size<a.size:=by rw[V8];exact hj
   refine⟨a.getD (i.toNat*te.size) undef,?_,hv _ hj⟩;simp[Instr.index,asIntOf,run_underlying hd,hi0.1,hi0.2,part,hia,hso,hj',Qi,Result.andThen]
  |true =>
   simp only at h;split at h
   .rename_i hle;cases h;refine⟨.agg (a.extract (i.toNat*te.size) (i.toNat*te.size+te.size)),?_,.agg _ _ (by simp;omega) λq hq=>?_⟩;.simp[Instr.index,asIntOf,run_underlying hd,hi0.1,hi0.2,part,hia,hso,Result.andThen]
    have VZ:q<te.size:=by simp at hq;omega
    have h1:=hv (i.toNat*te.size+q) YA
    have e1:((cs.drop (i.toNat*te.size)).take te.size)[q]=cs[i.toNat*te.size+q]' YA:=YC
    have e2:(a.extract (i.toNat*te.size) (i.toNat*te.size+te.size)).getD q undef=a.getD (i.toNat*te.size+q) undef:=by
     simp only[Qi,Array.getElem?_extract];rw[YK YA]
    rw[e1,e2];exact h1
   cases h
def GU(P:Program)(t:TypeId):Option TypeId:=
 match P.underlying t with
 |some (.map k e)=>match P.underlying k with|some .string=>some e|_=>none
 |_=>none
theorem wO{t e:TypeId}(h:GU P t=some e):∃k,P.underlying t=some (.map k e)/\P.underlying k=some .string:=by
 unfold GU at h;split at h
 .rename_i k e' hu;split at h;.rename_i hk;cases h;exact⟨k,hu,hk⟩
  cases h
 cases h
def Uw(k:List UInt8):List (Vt)->Nat->Option (Option (Nat×AV))
 |[],_=>some none
 |[.lit (.string s),v]::r,i=>match decide (k=s.data.toList)with|true=>some (some (i,v))|false=>Uw k r (i+1)
 |_::_,_=>none
def CF(k:ByteArray)(v:AV)(els:List (Vt)):Option (List (Vt)):=
 match Uw k.data.toList els 0 with
 |some (some (i,_))=>some (els.set i [.lit (.string k),v])
 |some none=>some (els++[[.lit (.string k),v]])
 |none=>none
def OQ:Value->AV
 |.agg a=>.agg (a.toList.map .lit)
 |v=>.lit v
theorem qm{A m nb}{w:World}(z:Value):V A m nb w (OQ z) z:=by
 cases z with
 |agg a =>
  refine .imm (.agg _ _ YC λi hi=>?_)
  have VZ:i<a.size:=by simpa using hi
  have e:(List.map AV.lit a.toList)[i]=.lit (a.getD i undef):=by simp[Qi,VZ]
  rw[e];exact .lit _
 |_=>exact .imm (.lit _)
def OS(st:St):AV->Option (List (Vt))
 |.imp els=>some els
 |.mmp l=>match st[l]? with|some (some (2,els))=>some els|_=>none
 |.lit (.map none)=>some []
 |_=>none
theorem qX(a b:ByteArray):(a==b)=decide (a.data.toList=b.data.toList):=by
 cases h:decide (a.data.toList=b.data.toList)with
 |true =>
  have h1:=YO h;refine(MapKept.bytes_beq a b).2 ?_;obtain⟨⟨x⟩⟩:=a;obtain⟨⟨y⟩⟩:=b;have:x=y:=h1;rw[this]
 |false =>
  have h1:=YR h
  cases hb:a==b with
  |false=>rfl
  |true=>exact absurd (by rw[(MapKept.bytes_beq a b).1 hb]) h1
theorem zEO:Uf ⟨e::l⟩ (i+1) j=Uf ⟨l⟩ i j:=by
 unfold Uf
 have:(⟨e::l⟩:Array MapEntry)[i+1]?=(⟨l⟩:Array MapEntry)[i]?:=YC
 rw[this]
theorem zAL{k:List UInt8}(h:Uw k (row::els) i=some r):∃s v,row=[.lit (.string s),v]:=by
 unfold Uw at h;split at h;.rename_i heq;cases heq
 .rename_i heq;cases heq;exact⟨_,_,rfl⟩
 cases h
theorem zDu{k:List UInt8}{v:AV}:Uw k ([.lit (.string s),v]::els) i=(match decide (k=s.data.toList)with|true=>some (some (i,v))|false=>Uw k els (i+1)):=rfl
theorem N7{A m nb}{w:World}(k:ByteArray){es:Array MapEntry}:∀{els:List (Vt)} {l:List MapEntry} {i0:Nat} {r:Option (Nat×AV)},
    l.length=els.length->(∀i (h:i<els.length) j (h':j<els[i].length),V A m nb w els[i][j] (Uf ⟨l⟩ i j))->(∀i (h:i<els.length),els[i].length=2)->Uw k.data.toList els i0=some r->
    (match r with
     |none=>Instr.findNow .string (.string k) l i0=some none
     |some (i,v)=>∃u s,Instr.findNow .string (.string k) l i0=some (some (i,u))/\V A m nb w v u/\i0<=i/\els[i-i0]?=some [.lit (.string s),v]/\s.data.toList=k.data.toList/\∃e,l[i-i0]?=some e/\e.key=.string k)
  |[],l,i0,r,hl,hv,hk,h=>by
    unfold Uw at h;cases h;have:l=[]:=Qf hl;subst this;rfl
  |row::els,[],i0,r,hl,hv,hk,h=>by cases hl
  |row::els,e::l,i0,r,hl,hv,hk,h=>by
    have tail:∀i (h:i<els.length) j (h':j<els[i].length),V A m nb w els[i][j] (Uf ⟨l⟩ i j):=λi hi j hj=>by
      have h1:=hv (i+1) (by simp;omega) j hj;rw[zEO]at h1;exact h1
    obtain⟨s,v,rfl⟩:=zAL h;rw[zDu]at h;have h0:=hv 0 YC 0 YC;have h1:=hv 0 YC 1 YC;have hkey:e.key=.string s:=h0.lit_inv;have hval:V A m nb w v e.val:=h1
    have hnow:Instr.sameNow .string (.string k) e.key=some (k==s):=by rw[hkey];rfl
    split at h
    · rename_i hd;have hd:=YO hd;cases h;refine⟨e.val,s,?_,hval,Qg _,YC,hd.symm,e,YC,?_⟩
      · unfold Instr.findNow;rw[hnow,qX,YH hd]
      · rw[hkey];congr 1;obtain⟨⟨x⟩⟩:=k;obtain⟨⟨y⟩⟩:=s;have:x=y:=hd;rw[this]
    · rename_i hd;have hd:=YR hd
      have hstep:Instr.findNow .string (.string k) (e::l) i0=Instr.findNow .string (.string k) l (i0+1):=by
        rw[Instr.findNow,hnow,qX,YI hd]
      have ih:=N7 k (es:=es) (els:=els) (l:=l) (by simpa using hl) tail (λi hi=>hk (i+1) (by simp;omega)) h
      cases r with
      |none=>rw[hstep];exact ih
      |some p =>
        obtain⟨i,v'⟩:=p;obtain⟨u,s',h2,h3,h4,h5,h6,e',h7,h8⟩:=ih;refine⟨u,s',by rw[hstep];exact h2,h3,YA,?_,h6,e',?_,h8⟩
        · rw[show i-i0=(i-(i0+1))+1 by omega];simpa using h5
        · rw[show i-i0=(i-(i0+1))+1 by omega];simpa using h7
theorem zAO{A m w st}(hR:R A m w st)(h:OS st x=some els)(hv:V A m st.length w x v):(els=[]/\v=.map none)\/∃r es clock,v=.map (some r)/\w.heap[r]?=some (.map es clock)/\es.size=els.length/\(∀i (h:i<els.length),els[i].length=2)/\∀i (h:i<els.length) j (h':j<els[i].length),V A m st.length w els[i][j] (Uf es i j):=by
 unfold OS at h;split at h
 .cases h
  cases hv.imp_inv with
  |imp _ r es clock hA hh hs hk hv2=>exact .inr ⟨r,es,clock,rfl,hh,hs,hk,λi hi j hj=>.imm (hv2 i hi j hj)⟩
 .rename_i l;split at h;.rename_i VM hq;cases h;obtain⟨hl,a,rfl,hb⟩:=hv.mmp_inv;obtain⟨b,h1,h2,h3,h4⟩:=hR.blk l 2 els hq;obtain⟨h6,hm6,rfl⟩:=hb b h1;obtain⟨h0,es,clock,h7,h8,h9⟩:=(h3 h6).mval hm6;exact .inr ⟨b.B,es,clock,rfl,h7,h8,λi hi=>by rw[(h3 h6).wide i hi,h0],h9⟩
  cases h
 .cases h;exact .inl ⟨rfl,hv.lit_inv⟩
 cases h
variable {r:AV}{after:Array Edge}{b:Bool}{new:List (Vt)}{VV:List Value}{x:Operand}{guard:Option (Nat×Bool)}{dst:Option Tmp}{s:Sem Value}{VO:St}{pos:String}{tix:TI}{sv:Value}
def Bl(P:Program)(st:St)(t:TypeId)(mv:AV)(k:List UInt8)(ok:Bool):Option AV:=
 match GU P t with
 |some e =>
  match Xk P e,OS st mv with
  |some te,some els =>
   match Uw k els 0 with
   |some (some (_,v))=>some (match ok with|true=>.tup [v,.lit (.bool true)]|false=>v)
   |some none=>some (match ok with|true=>.tup [OQ te.zero,.lit (.bool false)]|false=>OQ te.zero)
   |none=>none
  |_,_=>none
 |none=>none
theorem rD{A m nb}{w:World}{x:AV}(h:V A m nb w x v):V A m nb w (.tup [x,.lit (.bool b)]) (.tuple #[v,.bool b]):=by
 refine .tup _ _ rfl λi hi=>?_
 match i,hi with
 |0,_=>exact h
 |1,_=>exact .imm (.lit _)
theorem wu{A m nb}{w:World}{x:AV}(b ok:Bool)(h:V A m nb w x v):V A m nb w (match ok with|true=>.tup [x,.lit (.bool b)]|false=>x) (if ok then .tuple #[v,.bool b]else v):=by
 cases ok with
 |true=>exact rD h
 |false=>exact h
theorem zFD{A m w st}{t:TypeId}{mv:AV}{k:ByteArray}{ok:Bool}(hR:R A m w st)(hv:V A m st.length w mv v)(h:Bl P st t mv k.data.toList ok=some av):∃u,(Instr.lookup t v (.string k) ok).run P w=.ok u w/\V A m st.length w av u:=by
 unfold Bl at h;split at h
 case h_2=>cases h
 rename_i e hm;obtain⟨kt,hu,Fx⟩:=wO hm;split at h
 case h_2=>cases h
 rename_i te els FC hrows
 have hz:(zeroValue e).run P w=.ok te.zero w:=by
  obtain⟨d,i,h1,h2,h3,_⟩:=Zn FC;simp[zeroValue,typeInfo,h2,h3]
 have hc:∀b,(Instr.checkKey b 10000 kt (.string k)).run P w=.ok () w:=λb=>MapKept.run_checkKey (k:=.string k) Fx (by simp[MapKept.IsKey]) b 9999
 rcases zAO hR hrows hv with ⟨rfl,rfl⟩|⟨r,es,clock,rfl,hb,V8,Fr,hvs⟩
 .simp only[Uw]at h;cases h;have hf:Instr.findNow .string (.string k) ([]:List MapEntry) 0=some none:=rfl;refine⟨if ok then .tuple #[te.zero,.bool false]else te.zero,?_,?_⟩;.have hfk:(Instr.findKey kt (.string k) (#[]:Array MapEntry).toList).run P w=.ok none w:=MapKept.run_findKey Fx hf;have hc':=hc true;simp only[Instr.lookup,Sem.run_bind,run_underlying hu,Result.andThen_ok,Sem.run_pure];simp[hc',hfk,hz,Result.andThen]
  exact wu _ _ (qm te.zero)
 have hl:es.toList.length=els.length:=by simpa using V8
 split at h
 .rename_i i x hf;cases h;obtain⟨u,s,h2,h3,_⟩:=N7 k (es:=es) (l:=es.toList) hl (by simpa using hvs) Fr hf;refine⟨if ok then .tuple #[u,.bool true]else u,?_,wu _ _ h3⟩;simp[Instr.lookup,run_underlying hu,MapKept.run_getObj_map hb,hc,MapKept.run_findKey Fx h2,Result.andThen]
 .rename_i hf;cases h;have h2:=N7 k (es:=es) (l:=es.toList) hl (by simpa using hvs) Fr hf;refine⟨if ok then .tuple #[te.zero,.bool false]else te.zero,?_,wu _ _ (qm te.zero)⟩;simp[Instr.lookup,run_underlying hu,MapKept.run_getObj_map hb,hc,MapKept.run_findKey Fx h2,hz,Result.andThen]
 cases h
def R7(P:Program)(st:St)(t:TypeId)(mv:AV)(k:ByteArray)(x:AV):Option St:=
 match GU P t,mv with
 |some _,.mmp l =>
  match st[l]? with
  |some (some (2,els))=>(match CF k x els with|some VM=>some (st.set l (some (2,VM)))|none=>none)
  |_=>none
 |_,_=>none
theorem zFE{A m w st}{t:TypeId}{mv x:AV}{u:Value}{k:ByteArray}(hR:R A m w st)(hv:V A m st.length w mv v)(hx:V A m st.length w x u)(h:R7 P st t mv k x=some VO):∃w',(Instr.mapUpdate t v (.string k) u).run P w=.ok () w'/\R A m w' VO/\Xs A m st.length w A m VO.length w':=by
 unfold R7 at h;split at h
 case h_2=>cases h
 rename_i e l hm;obtain⟨kt,hu,Fx⟩:=wO hm;split at h
 case h_2=>cases h
 rename_i els hq;split at h
 case h_2=>cases h
 rename_i VM hput;cases h;obtain⟨hl,a,rfl,hb'⟩:=hv.mmp_inv;obtain⟨b,h1,h2,h3,h4⟩:=hR.blk l 2 els hq;obtain⟨h6,hm6,rfl⟩:=hb' b h1;obtain⟨h0,es,clock,h7,h8,h9⟩:=(h3 h6).mval hm6
 have Fr:∀i (h:i<els.length),els[i].length=2:=λi hi=>by rw[(h3 h6).wide i hi,h0]
 have hle:es.toList.length=els.length:=by simpa using h8
 have hc:(Instr.checkKey false 10000 kt (.string k)).run P w=.ok () w:=MapKept.run_checkKey (k:=.string k) Fx (by simp[MapKept.IsKey]) false 9999;have Fk:(Instr.keyThatStays (.string k) (.string k)).run P w=.ok (.string k) w:=MapKept.run_keyThatStays (d:=.string) (by simp[MapKept.IsKey]);unfold CF at hput;split at hput
 .rename_i i x0 hf;cases hput;obtain⟨u0,s,n1,n2,n3,n4,n5,e0,n6,n7⟩:=N7 k (es:=es) (l:=es.toList) hle (by simpa using h9) Fr hf;simp only[Nat.sub_zero]at n4 n6;have hi:i<els.length:=(Qb.1 n4).1
  have hie:es[i]?=some e0:=by simpa using n6
  have hrun:(Instr.mapUpdate t (.map (some b.B)) (.string k) u).run P w=.ok () { w with heap:=w.heap.setIfInBounds b.B (.map (es.modify i λe=>{ e with key:=.string k,val:=u}) clock)}:=by
   simp[Instr.mapUpdate,run_underlying hu,MapKept.run_getObj_map h7,hc,MapKept.run_findKey Fx n1,hie,n7,Fk,MapKept.run_setObj_map _ h7,Result.andThen]
  refine⟨_,hrun,?_⟩
  have h:=hR.setM (es:=es.modify i λe=>{ e with key:=.string k,val:=u}) (clock:=clock) (VM:=els.set i [.lit (.string k),x]) hq h1 h6 hm6 (by simp[h8]) (λq hq'=>by
   rw[J4];split;.rfl
   .exact Fr q (by simpa using hq')) (λq hq' j hj=>by
   have hqe:q<els.length:=by simpa using hq'
   have hqs:q<es.size:=by rw[h8];exact hqe
   by_cases e1:i=q
   .subst e1
    have e2:(els.set i [.lit (.string k),x])[i]=[.lit (.string k),x]:=YC
    have e3:∀j,Uf (es.modify i λe=>{ e with key:=.string k,val:=u}) i j=(match j with|0=>.string k|_=>u):=λj=>by
     unfold Uf;rw[Jb,YK rfl,hie];rfl
    rw[e3]
    have hj2:j<2:=by rw[e2]at hj;exact hj
    match j,hj2 with
    |0,_=>simp only[e2,Q9];exact .imm (.lit _)
    |1,_=>simp only[e2,List.getElem_cons_succ,Q9];exact hx
   have e2:(els.set i [.lit (.string k),x])[q]=els[q]:=by simp[e1]
   have e3:Uf (es.modify i λe=>{ e with key:=.string k,val:=u}) q j=Uf es q j:=by
    unfold Uf;rw[Jb,YM e1]
   rw[e3]
   have hj':j<els[q].length:=by rw[<-e2];exact hj
   have e4:(els.set i [.lit (.string k),x])[q][j]=els[q][j]:=by simp[e1]
   rw[e4]
   exact h9 q hqe j hj')
  refine⟨h.1,?_⟩;rw[Jg];exact h.2
 .rename_i hf;cases hput;have n1:=N7 k (es:=es) (l:=es.toList) hle (by simpa using h9) Fr hf;simp only at n1
  have hrun:(Instr.mapUpdate t (.map (some b.B)) (.string k) u).run P w=.ok () { w with heap:=w.heap.setIfInBounds b.B (.map (es.push { key:=.string k,val:=u,born:=clock}) (clock+1))}:=by
   simp[Instr.mapUpdate,run_underlying hu,MapKept.run_getObj_map h7,hc,MapKept.run_findKey Fx n1,MapKept.run_setObj_map _ h7,Result.andThen]
  refine⟨_,hrun,?_⟩
  have h:=hR.setM (es:=es.push { key:=.string k,val:=u,born:=clock}) (clock:=clock+1) (VM:=els++[[.lit (.string k),x]]) hq h1 h6 hm6 (by simp[h8]) (λq hq'=>by
   rw[List.getElem_append];split;.exact Fr q _
   .simp at hq'
    simp) (λq hq' j hj=>by
   by_cases e1:q<els.length
   .have e4:(els++[[.lit (.string k),x]])[q]=els[q]:=Jx e1
    have hj':j<els[q].length:=by rw[<-e4];exact hj
    have e5:(els++[[.lit (.string k),x]])[q][j]=els[q][j]:=by simp[Jx e1]
    have e3:Uf (es.push { key:=.string k,val:=u,born:=clock}) q j=Uf es q j:=by
     unfold Uf;rw[Array.getElem?_push,YM YA]
    rw[e3,e5];exact h9 q e1 j hj'
   have hq2:q=els.length:=by simp at hq';omega
   subst hq2
   have e2:(els++[[.lit (.string k),x]])[els.length]=[.lit (.string k),x]:=YC
   have e3:∀j,Uf (es.push { key:=.string k,val:=u,born:=clock}) els.length j=(match j with|0=>.string k|_=>u):=λj=>by
    unfold Uf;rw[Array.getElem?_push,YK YA]<;>rfl
   rw[e3]
   have hj2:j<2:=by rw[e2]at hj;exact hj
   match j,hj2 with
   |0,_=>simp only[e2,Q9];exact .imm (.lit _)
   |1,_=>simp only[e2,List.getElem_cons_succ,Q9];exact hx)
  refine⟨h.1,?_⟩;rw[Jg];exact h.2
 cases hput
def Ed:List (Vt)->Nat->List (Vt)->List (Vt)
 |els,_,[]=>els
 |els,i,r::rs=>Ed (Ku els i 0 r) (i+1) rs
theorem eH(b:Nat):∀(vs us:List Value) (o:Nat) (w:World),w.setCells b o (vs++us)=(w.setCells b o vs).setCells b (o+vs.length) us
 |[],_,_,_=>rfl
 |v::r,us,o,w=>by
  simp only[J5,World.setCells,Qw];rw[eH b r us (o+1)];congr 1;omega
theorem lv(els:List (Vt))(i j:Nat)(cs:Vt):(Ku els i j cs).length=els.length:=by unfold Ku;split<;>simp
theorem zA9{l:Nat}{x y:Option (Nat×List (Vt))}:(st.set l x).set l y=st.set l y:=by simp
theorem R.storeRows{A:Nat->Prop}{m:BM}{l k:Nat}{b:LT}(hb:m l=some b)(hh:b.has=true)(hm:b.mp=false):∀(VY:List (Vt)) (vs:List Value) (i:Nat) (els:List (Vt)) (w:World) (st:St),R A m w st->
  st[l]?=some (some (k,els))->b.k=k->i+VY.length<=els.length->(∀q (h:q<VY.length),VY[q].length=k)->vs.length=VY.length*k->
  (∀q (h:q<VY.length) j (h':j<VY[q].length),V A m st.length w VY[q][j] (vs.getD (q*k+j) undef))->
  R A m (w.setCells b.B (b.o+i*b.k) vs) (st.set l (some (k,Ed els i VY)))/\Xs A m st.length w A m st.length (w.setCells b.B (b.o+i*b.k) vs)
 |[],vs,i,els,w,st,hR,hl,hk,_,_,hn,_=>by
  have:vs=[]:=Qf (by simpa using hn);subst this
  have e:st.set l (some (k,els))=st:=by
   apply List.ext_getElem?;intro q;by_cases hq:q=l
   .subst hq
    rw[QM (by rcases JU q st.length with h|h;exact h;rw[Jj h]at hl;cases hl),hl]
   rw[QH (Ne.symm hq)]
  simp only[Ed,World.setCells,e];exact⟨hR,Xs.refl _ _ _ _⟩
 |r::rs,vs,i,els,w,st,hR,hl,hk,hi,hw,hn,hv=>by
  have hrk:r.length=k:=hw 0 YC
  have hvl:vs.length=k+rs.length*k:=by rw[hn];simp[QV];omega
  have h1:=hR.store hl hb hh hm i 0 r (vs.take k) (by simp at hi;omega) YA (by simp;omega) (λq hq=>by
   have h:=hv 0 YC q hq
   have e:(vs.take k).getD q undef=vs.getD (0*k+q) undef:=by
    rw[Nat.zero_mul,QN];simp only[Ql,JC];rw[YK YA]
   rw[e]
   exact h)
  simp only[Je]at h1
  have hll:l<st.length:=by rcases JU l st.length with h|h;exact h;rw[Jj h]at hl;cases hl
  have h2:=R.storeRows hb hh hm rs (vs.drop k) (i+1) (Ku els i 0 r) _ _ h1.1 (by rw[QM hll]) hk (by rw[lv];simp at hi;omega)
   (λq hq=>hw (q+1) (by simp;omega)) (by simp;omega) (λq hq j hj=>by
    have h:=hv (q+1) (by simp;omega) j (by simpa using hj)
    have e:(vs.drop k).getD (q*k+j) undef=vs.getD ((q+1)*k+j) undef:=by
     simp only[Ql,JD];congr 2;rw[QV];omega
    rw[e,Jg]
    exact V.step hR h1.2 h)
  have e1:b.o+i*b.k+(vs.take k).length=b.o+(i+1)*b.k:=by
   rw[QV];simp;omega
  have e2:w.setCells b.B (b.o+i*b.k) vs=(w.setCells b.B (b.o+i*b.k) (vs.take k)).setCells b.B (b.o+(i+1)*b.k) (vs.drop k):=by
   rw[<-e1,<-eH,List.take_append_drop]
  rw[e2,Ed];refine⟨?_,?_⟩
  .have:=h2.1
   rwa [zA9]at this
  have h3:=h2.2;rw[Jg]at h3;exact h1.2.trans h3
def dB(st:St)(k:Nat)(d s:AV):Option (AV×St):=
 match d,UW st k s with
 |.msl l i n,some new =>
  match st[l]? with
  |some (some (k',els))=>if k'=k/\i+n<=els.length/\KM new=true then some (.lit (goInt (min new.length n:Nat)),st.set l (some (k,Ed els i (new.take n))))else none
  |_=>none
 |_,_=>none
theorem zAR{A m nb w}{k:Nat}(hw:∀q (h:q<new.length),new[q].length=k)(n1:VV.length=new.length*k)(n3:∀i (hi:i<new.length) j (hj:j<new[i].length),V A m nb w new[i][j] (VV.getD (i*k+j) undef))(h1:KM new=true):∀u∈VV,u.oneCell'=true:=by
 intro u hu;obtain⟨q,hq,rfl⟩:=List.mem_iff_getElem.1 hu
 have hk0:0<k:=by
  rcases Jr k with h|h
  .subst h;rw[n1]at hq;omega
  exact h
 rw[n1]at hq
 have hi:q / k<new.length:=by rw[JZ hk0];exact hq
 have hj:q % k<new[q / k].length:=by rw[hw _ hi];exact Nat.mod_lt _ hk0
 have h4:=n3 (q / k) hi (q % k) hj
 have h5:q / k*k+q % k=q:=by rw[Nat.mul_comm];exact Nat.div_add_mod q k
 rw[h5,Ql,Qe (by rw[n1];exact hq),Jk]at h4;refine h4.one ?_;simp only[KM,Qr]at h1;exact h1 _ (Qj hi) _ (Qj hj)
theorem zAl(n:Nat)(h:KM els=true):KM (els.take n)=true:=by simp only[KM,Qr]at h ⊢;exact λr hr=>h r (Yb hr)
theorem cq{A m w st k}{s:AV}(hR:R A m w st)(h:UW st k s=some new)(hs:V A m st.length w s sv)(h1:KM new=true)(n:Nat):(Builtin.lenOf sv).run P w=.ok new.length w/\(∀q (h:q<(new.take n).length),(new.take n)[q].length=k)/\∃VV:List Value,VV.length=(new.take n).length*k/\(Builtin.firstCells k (Nat.min new.length n) sv).run P w=.ok VV.toArray w/\(∀q (h:q<(new.take n).length) j (h':j<(new.take n)[q].length),V A m st.length w (new.take n)[q][j] (VV.getD (q*k+j) undef))/\∀u∈VV,u.oneCell'=true:=by
 rcases uE hR h hs with ⟨rfl,a,cap,rfl⟩|⟨B,o,cap,rfl,Fd,hrd⟩
 .refine⟨rfl,λq hq=>by simp at hq,[],YC,?_,λq hq=>by simp at hq,λu hu=>by cases hu⟩
  have e:Nat.min ([]:List (Vt)).length n=0:=YC
  rw[e];cases a<;>simp[Builtin.firstCells,loadCells,loadCellsFrom]
 have hrd':=hrd.sub 0 n;rw[Nat.zero_mul,Je,Yj]at hrd';obtain⟨VV,n1,n2,n3⟩:=hrd'.flat
 have e:Nat.min new.length n=(new.take n).length:=by rw[QO];exact Nat.min_comm _ _
 refine⟨rfl,hrd'.wide,VV,n1,?_,n3,zAR hrd'.wide n1 n3 (zAl n h1)⟩;rw[e];exact run_firstCells_some w k _ ⟨B,o,none⟩ _ cap VV n1 (λj v hj=>by rw[HD];exact n2 j v hj)
theorem zC2{A m w st}(hR:R A m w st){t tx ty e:TypeId}{ti:TI}(ht:Xk P t=some ti)(FC:ti.k=.slc e)(he:Xk P e=some te){d s:AV}{dv:Value}(hd:V A m st.length w d dv)(hs:V A m st.length w s sv)(h:dB st te.size d s=some (r,VO)):∃v w' m',(Builtin.copy_ #[t,tx] ty #[dv,sv]).run P w=.ok v w'/\R A m' w' VO/\Xs A m st.length w A m' VO.length w'/\V A m' VO.length w' r v:=by
 obtain⟨dd,i0,Fj,_,_,_,_,hdk,_⟩:=Zn ht;rw[FC]at hdk;have:=Kt hdk;subst this;have hso:=HH w he;unfold dB at h;split at h
 .rename_i l i n new hnew;split at h
  .rename_i k' els hl;split at h
   .rename_i hc;obtain⟨rfl,Fm,h1⟩:=hc;cases h;obtain⟨hll,a,n',cap,rfl,hbk⟩:=hd.msl_inv;obtain⟨b,hb1,FV,hb3,hb4⟩:=hR.blk l _ els hl;obtain⟨rfl,h5,h6⟩:=hbk b hb1;obtain⟨q1,q2,VV,q3,q4,q5,q6⟩:=cq (P:=P) hR hnew hs h1 n'
    have run0:∀w',((match a with|some a=>storeCells a VV|none=>pure ():Sem Unit).run P w=.ok () w')->
      (Builtin.copy_ #[t,tx] ty #[.slice a n' cap,sv]).run P w=.ok (goInt (min new.length n':Nat)) w':=λw' hw'=>by
     cases a<;>simp_all[Builtin.copy_,run_underlying Fj]
    rcases h6 with rfl|⟨h6,hm6,rfl,h7⟩
    .have hn0:n'=0:=by omega
     subst hn0;have hnews:VV=[]:=Qf (by rw[q3];simp);subst hnews
     have e:st.set l (some (te.size,Ed els i (new.take 0)))=st:=by
      apply List.ext_getElem?;intro q;by_cases hq:q=l;.subst hq;rw[QM hll,hl];rfl
      rw[QH (Ne.symm hq)]
     rw[e];exact⟨_,w,m,run0 w (by cases a<;>rfl),hR,Xs.refl _ _ _ _,.imm (.lit _)⟩
    have VW:=(hb3 h6).cells hm6
    have hlt:(new.take n').length<=n':=by rw[QO];exact Nat.min_le_left _ _
    have Fk:=R.storeRows hb1 h6 hm6 (new.take n') VV i els w st hR hl FV YA q2 q3 q5;have Fc:=VW.fit
    have htop:b.o+i*b.k+VV.length<=b.top:=by
     have h8:(i+(new.take n').length)*b.k<=els.length*b.k:=QZ _ YA;rw[QV]at h8;rw[q3,<-FV];omega
    have hrun:=run_storeCells_cells (P:=P) b.B (b.o+i*b.k) VV 0 w
     (λq hq=>by obtain⟨u,hu⟩:=VW.there (b.o+i*b.k+0+q) YA;simp only[hu];rfl)
     (λq hq=>SN (VW.free _ YA)) q6
    simp only[Je]at hrun;exact⟨_,_,m,run0 _ hrun,Fk.1,by simpa using Fk.2,.imm (.lit _)⟩
   cases h
  cases h
 cases h
def CH:AV->Bool
 |.isl _ _=>true
 |.msl _ _ _=>true
 |.lit (.slice none 0 0)=>true
 |_=>false
theorem zDl{A m nb w}{s:AV}(h:CH s=true)(hs:V A m nb w s v):∃a n cap,v=.slice a n cap:=by
 cases s with
 |isl k els =>
  cases hs.isl_inv with
  |isl=>exact⟨_,_,_,rfl⟩
  |inil=>exact⟨_,_,_,rfl⟩
 |msl l i n=>obtain⟨_,a,n',cap,rfl,_⟩:=hs.msl_inv;exact⟨_,_,_,rfl⟩
 |lit x =>
  rw[hs.lit_inv];simp only[CH]at h;split at h;.rename_i e;cases e
  .rename_i e;cases e
  .rename_i e;cases e;exact⟨_,_,_,rfl⟩
  .cases h
 |_=>cases h
theorem lb{A m w st}(hR:R A m w st){t e:TypeId}{ti:TI}(ht:Xk P t=some ti)(FC:ti.k=.slc e)(he:Xk P e=some te){s:AV}(h:CH s=true)(hs:V A m st.length w s sv)(ol:Option Value)(hol:ol=some (.int .i64 0)\/ol=none):∃v w' m',(Instr.sliceAt t sv ol (some (.int .i64 0)) (some (.int .i64 0))).run P w=.ok v w'/\R A m' w' (st++[some (te.size,[])])/\Xs A m st.length w A m' (st++[some (te.size,[])]).length w'/\V A m' (st++[some (te.size,([]:List (Vt)))]).length w' (.msl st.length 0 0) v:=by
 obtain⟨d,i0,hd,_,_,_,_,hdk,_⟩:=Zn ht;rw[FC]at hdk;have:=Kt hdk;subst this;have hso:=HH w he;obtain⟨a,n,cap,rfl⟩:=zDl h hs
 have hr:(Instr.sliceAt t (.slice a n cap) ol (some (.int .i64 0)) (some (.int .i64 0))).run P w=.ok (.slice a 0 0) w:=by
  rcases hol with rfl|rfl<;>
   simp[Instr.sliceAt,Instr.slice,run_underlying hd,Instr.sliceBounds,Instr.sliceBound,asIntOf,hso]
 have h:=hR.push (Zb.refl w) ⟨false,0,0,te.size,0,false⟩ [] (λh=>by cases h) (λ_=>rfl)
  (λh=>by cases h) (λh=>by cases h) (λh=>by cases h) (λq hq=>by cases hq) (λh=>by cases h)
 refine⟨_,_,m.put st.length (some ⟨false,0,0,te.size,0,false⟩),hr,?_⟩
 have VR:(st++[some (te.size,([]:List (Vt)))]).length=st.length+1:=YC
 rw[VR];exact⟨h.1,h.2,.msl _ _ _ _ _ _ (QL _) λb hb'=>⟨rfl,YC,.inl rfl⟩⟩
def dE(s:TypeId)(a b:TK):TypeId:=
 match a with
 |.slc e=>e
 |_=>match b with|.slc e=>e|_=>s
def RK:AV->Option Nat
 |.lit (.int .i64 n)=>if 0<=n then some n.toNat else none
 |_=>none
def Z6(env:Ev)(dflt:Nat):Option Operand->Option Nat
 |none=>some dflt
 |some x=>match ev env x with|some v=>RK v|none=>none
def dz(s:List UInt8)(i:Int):Option AV:=if 0<=i then(s[i.toNat]?).map λb=>.lit (.int .u8 b.toNat)else none
def D0(P:Program)(env:Ev)(st:St)(x:Operand)(t:TypeId):Option (AV×St):=
 match Xk P t,ev env x with
 |some ti,some v =>
  match v,ti.k with
  |.lit (.string s),.str=>some (.lit (.int .i64 s.data.toList.length),st)
  |.isl _ els,.slc _=>some (.lit (.int .i64 els.length),st)
  |.msl l _ n,.slc _=>match st[l]? with|some (some _)=>some (.lit (.int .i64 n),st)|_=>none
  |.lit (.slice none 0 0),.slc _=>some (.lit (.int .i64 0),st)
  |_,_=>none
 |_,_=>none
def NI(P:Program)(env:Ev)(st:St)(s x:Operand)(t tx:TypeId):Option (AV×St):=
 match Xk P t,ev env s,ev env x,Xk P tx with
 |some ti,some sv,some xv,some tix =>
  match ti.k with
  |.slc e =>
   match Xk P e with
   |some te =>
    match DZ st te.size sv with
    |some (old,FE)=>
     match tix.k,xv with
     |.slc _,xv =>
      match UW st te.size xv with
      |some new=>if 0<te.size/\KM new=true/\(old.length+new.length)*te.bytes<=140737488355328/\old.length+new.length<=9223372036854775807 then
        some (.msl st.length 0 (old.length+new.length),FE++[some (te.size,old++new)])else none
      |none=>none
     |.str,.lit (.string u)=>if te.size=1/\(old.length+u.data.toList.length)*te.bytes<=140737488355328/\old.length+u.data.toList.length<=9223372036854775807 then
        some (.msl st.length 0 (old.length+u.data.toList.length),FE++[some (te.size,old++u.data.toList.map Zw)])else none
     |_,_=>none
    |none=>none
   |none=>none
  |_=>none
 |_,_,_,_=>none
def xf(env:Ev)(st:St)(x y:Operand):Option (AV×St):=
 match ev env x,ev env y with
 |some (.lit (.int k a)),some (.lit (.int _ b))=>some (.lit (.int k (if b<a then b else a)),st)
 |_,_=>none
def C3(P:Program)(st:St)(t:TypeId)(a b:AV):Option (AV×St):=
 match Xk P t,a,b with
 |some ti,.lit (.int _ n),.lit (.int _ n')=>
  match ti.k with
  |.slc e =>
   match Xk P e with
   |some te=>if n=n'/\0<=n/\0<te.size/\n.toNat*te.size<=16777216/\(te.bytes:Int)*n<=281474976710656 then some (.msl st.length 0 n.toNat,st++[some (te.size,List.replicate n.toNat (Zm te.zero))])else none
   |none=>none
  |_=>none
 |_,_,_=>none
def wj(P:Program)(env:Ev)(st:St)(x y:Operand)(t:TypeId):Option (AV×St):=
 match Xk P t,ev env x,ev env y with
 |some ti,some d,some s =>
  match ti.k with
  |.slc e=>match Xk P e with|some te=>dB st te.size d s|none=>none
  |_=>none
 |_,_,_=>none
def yW(P:Program)(env:Ev)(st:St)(t:TypeId)(x:Operand)(lo:Option Operand)(hi mx:Operand):Option (AV×St):=
 match Xk P t,ev env x,Z6 env 0 lo,Z6 env 0 (some hi),Z6 env 0 (some mx)with
 |some ti,some v,some 0,some 0,some 0 =>
  match ti.k with
  |.slc e=>match Xk P e with|some te=>if CH v then some (.msl st.length 0 0,st++[some (te.size,[])])else none|none=>none
  |_=>none
 |_,_,_,_,_=>none
def HE(P:Program)(env:Ev)(st:St)(c:Call):Option (AV×St):=
 match c.callee,c.args.toList,c.argTypes.toList with
 |.builtin .len,[x],[t]=>D0 P env st x t
 |.builtin .append,[s,x],[t,tx]=>NI P env st s x t tx
 |.builtin .min,[x,y],_=>xf env st x y
 |.builtin .copy,[x,y],[t,_]=>wj P env st x y t
 |_,_,_=>none
def Rz(op:BinOp)(b:Bool):Option AV:=match op with|.eql=>some (.lit (.bool b))|.neq=>some (.lit (.bool (!b)))|_=>none
def RG(k:TK)(st:St)(op:BinOp)(a b:AV):Option AV:=
 match k,a,b with
 |.slc _,.lit (.slice none 0 0),.lit (.slice none 0 0)=>match op with|.eql=>some (.lit (.bool true))|.neq=>some (.lit (.bool false))|_=>none
 |.slc _,.msl l _ n,.lit (.slice none 0 0)=>if 0<n then match st[l]?,op with|some (some _),.eql=>some (.lit (.bool false))|some (some _),.neq=>some (.lit (.bool true))|_,_=>none else none
 |.ptr _,.lit (.pointer none),.lit (.pointer none)=>Rz op true
 |.ptr _,.mpt l i j,.lit (.pointer none)=>match st[l]? with|some (some _)=>Rz op false|_=>none
 |.ptr _,.ipt _ _ _ _,.lit (.pointer none)=>Rz op false
 |_,_,_=>none
def OJ(st:St)(same:Bool)(ks ke:TK)(x:AV):Option (AV×St):=
 match same,ks,ke,x with
 |true,.slc _,.int .u8,.msl l i n=>if 0<n then match st[l]? with|some (some (1,_))=>some (.msl l i n,st)|_=>none else none
 |_,_,_,_=>none
def Lh(P:Program)(env:Ev)(st:St):Op->Option (AV×St)
 |.move x|.assign x=>(ev env x).map λv=>(v,st)
 |.pick c a b =>
  match ev env c with
  |some (.lit (.bool true))=>(ev env a).map λv=>(v,st)
  |some (.lit (.bool false))=>(ev env b).map λv=>(v,st)
  |_=>none
 |.binOp op t x y _ =>
  match Xk P t,ev env x,ev env y with
  |some ti,some a,some b=>(match UM ti.k op a b with|some v=>some v|none=>match RX P t op a b with|some v=>some v|none=>RG ti.k st op a b).map λv=>(v,st)
  |_,_,_=>none
 |.unOp op _ x=>match ev env x with|some a=>(RW op a).map λv=>(v,st)|none=>none
 |.convert s d x =>
  match Xk P s,Xk P d,ev env x with
  |some is,some id,some v=>match Xk P (dE s is.k id.k)with|some ie=>(match RP st is.k id.k ie.k v with|some r=>some r|none=>OJ st (s==d) is.k ie.k v)|none=>none
  |_,_,_=>none
 |.extract t i=>match ev env t with|some (.tup vs)=>(vs[i]?).map λv=>(v,st)|_=>none
 |.alloc t=>match Xk P t with|some ti=>some (.mpt st.length 0 0,st++[some (ti.size,[Zm ti.zero])])|none=>none
 |.box _ x=>match ev env x with|some v=>(Hu v).map λcs=>(.mpt st.length 0 0,st++[some (cs.length,[cs])])|none=>none
 |.load t p=>match Xk P t,ev env p with|some ti,some v=>(DV st ti v).map λr=>(r,st)|_,_=>none
 |.store t p x=>match Xk P t,ev env p,ev env x with|some ti,some pv,some xv=>(O1 st ti pv xv).map λs=>(.lit undef,s)|_,_,_=>none
 |.fieldAddr t x f=>match Xk P t,ev env x with|some ti,some v=>if H4 st v then(xh ti v f).map λr=>(r,st)else none|_,_=>none
 |.indexAddr t x ix =>
  match Xk P t,ev env x,ev env ix with
  |some ti,some v,some (.lit (.int _ i))=>match ti.k with|.slc e=>(match Xk P e with|some te=>(D1 st te.size v i).map λr=>(r,st)|none=>none)|_=>none
  |_,_,_=>none
 |.index t x ix =>
  match Xk P t,ev env x,ev env ix with
  |some ti,some (.lit (.string s)),some (.lit (.int _ i))=>match ti.k with|.str=>(dz s.data.toList i).map λr=>(r,st)|_=>none
  |some ti,some (.agg cs),some (.lit (.int _ i))=>match ti.k with|.arr n e=>(match Xk P e with|some te=>(dq te cs n i).map λr=>(r,st)|none=>none)|_=>none
  |_,_,_=>none
 |.slice t x lo hi none =>
  match Xk P t,ev env x with
  |some ti,some v =>
   match ti.k,U7 v with
   |.slc e,some n =>
    match Xk P e,Z6 env 0 lo,Z6 env n hi with
    |some te,some l,some h=>(W0 st te.size v l h).map λr=>(r,st)
    |_,_,_=>none
   |.str,some n =>
    match v,Z6 env 0 lo,Z6 env n hi with
    |.lit (.string s),some l,some h=>if l<=h/\h<=n then some (.lit (.string ⟨⟨(s.data.toList.drop l).take (h-l)⟩⟩),st)else none
    |_,_,_=>none
   |_,_=>none
  |_,_=>none
 |.build t ps =>
  match Xk P t,Dc env ps.toList with
  |some ti,some parts =>
   match ti.k with
   |.agg pl=>(ON pl (Zm ti.zero) parts).map λr=>(.agg r,st)
   |.arr n e=>match Xk P e with|some te=>(ON ((List.range n).map λi=>(i*te.size,te.size)) (Zm ti.zero) parts).map λr=>(.agg r,st)|none=>none
   |_=>none
  |_,_=>none
 |.buildSlice t len ps =>
  match Xk P t,Dc env ps.toList with
  |some ti,some parts =>
   match ti.k with
   |.slc e =>
    match Xk P e with
    |some te=>if 0<te.size/\len*te.size<=16777216 then(Nm te.size (List.replicate len (Zm te.zero)) parts).map λr=>(.msl st.length 0 len,st++[some (te.size,r)])else none
    |none=>none
   |_=>none
  |_,_=>none
 |.nilCheck x=>match ev env x with|some v=>if H4 st v then some (v,st)else none|none=>none
 |.makeFunc (.func f) first Fu=>match DY env first.toList,DY env Fu.toList with|some a,some b=>some (.fn (.func f) a b,st)|_,_=>none
 |.field t x f=>match ev env x with|some v=>(xw P t f v).map λr=>(r,st)|none=>none
 |.makeMap t none=>match GU P t with|some _=>some (.mmp st.length,st++[some (2,[])])|none=>none
 |.mapUpdate t m k x =>
  match ev env m,ev env k,ev env x with
  |some mv,some (.lit (.string s)),some xv=>(R7 P st t mv s xv).map λs=>(.lit undef,s)
  |_,_,_=>none
 |.lookup t m k ok =>
  match ev env m,ev env k with
  |some mv,some (.lit (.string s))=>(Bl P st t mv s.data.toList ok).map λr=>(r,st)
  |_,_=>none
 |.makeSlice t l c =>
  match ev env l,ev env c with
  |some a,some b=>C3 P st t a b
  |_,_=>none
 |.call c=>HE P env st c
 |.slice t x lo (some hi) (some mx)=>yW P env st t x lo hi mx
 |_=>none
theorem zFm{v:AV}(h:RK v=some n):v=.lit (.int .i64 n):=by
 unfold RK at h;split at h
 .rename_i q;split at h;.rename_i hq;cases h;rw[Int.toNat_of_nonneg hq]
  cases h
 cases h
theorem Ez{A m nb w n env a}(hE:Ly A m nb w n env a){d:Nat}{x:Option Operand}(h:Z6 env d x=some q):x.map a.eval=some (.int .i64 q)\/(x.map a.eval=none/\q=d):=by
 cases x with
 |none=>simp[Z6]at h;exact .inr ⟨rfl,h.symm⟩
 |some y =>
  simp only[Z6]at h;split at h;.rename_i v hv;have h1:=XD hE hv;rw[zFm h]at h1;exact .inl (by simp[h1.lit_inv])
  cases h
theorem cr{A m w st}{k:Nat}{tx:TypeId}{e':TypeId}{xv:AV}{x:Value}(hR:R A m w st)(ht:Xk P tx=some tix)(hk:tix.k=.slc e')(hr:UW st k xv=some new)(hx:V A m st.length w xv x)(h1:KM new=true):dw A m st.length w P k tx x new:=by
 obtain⟨d,i0,hd,_,_,_,_,hdk,_⟩:=Zn ht;rw[hk]at hdk;have:=Kt hdk;subst this
 rcases uE hR hr hx with ⟨rfl,a,cap,rfl⟩|⟨B,o,cap,rfl,Fd,hrd⟩
 .refine⟨λi hi=>by simp at hi,[],?_,λi hi=>by simp at hi⟩
  cases a with
  |none=>exact Src.ofNil w hd cap
  |some a=>exact Src.ofSlice w hd a 0 cap [] YC (λj u hu=>by cases hu) (λu hu=>by cases hu)
 obtain⟨VV,n1,n2,n3⟩:=hrd.flat;refine⟨hrd.wide,VV,Src.ofSlice w hd _ _ cap VV n1 (λj u hu=>by rw[HD];exact n2 j u hu) (λu hu=>?_),n3⟩;obtain⟨q,hq,rfl⟩:=List.mem_iff_getElem.1 hu
 have hk0:0<k:=by
  rcases Jr k with h|h
  .subst h;rw[n1]at hq;omega
  exact h
 rw[n1]at hq
 have hi:q / k<new.length:=by rw[JZ hk0];exact hq
 have hj:q % k<new[q / k].length:=by rw[hrd.wide _ hi];exact Nat.mod_lt _ hk0
 have h4:=n3 (q / k) hi (q % k) hj
 have h5:q / k*k+q % k=q:=by rw[Nat.mul_comm];exact Nat.div_add_mod q k
 rw[h5,Ql,Qe (by rw[n1];exact hq),Jk]at h4;refine h4.one ?_;simp only[KM,Qr]at h1;exact h1 _ (Qj hi) _ (Qj hj)
theorem tg{A m w st}{tx:TypeId}(s:ByteArray)(ht:Xk P tx=some tix)(hk:tix.k=.str):dw A m (List.length (α:=Option (Nat×List (Vt))) st) w P 1 tx (.string s) (s.data.toList.map Zw):=by
 obtain⟨d,i0,hd,_,_,_,_,hdk,_⟩:=Zn ht;rw[hk]at hdk;have:=D2 hdk;subst this;refine⟨λi hi=>by simp[Zw],byteCells s,?_,λi hi j hj=>?_⟩
 .have:=Src.ofString w hd s
  have e:(s.data.toList.map Zw).length=s.size:=YC
  rw[e];exact this
 have VZ:i<s.data.toList.length:=by simpa using hi
 have h3:(List.map Zw s.data.toList)[i]=Zw s.data.toList[i]:=YC
 have hj0:j=0:=by simp[h3,Zw]at hj;exact hj
 subst hj0;simp only[h3,Zw,Q9]
 have e:(byteCells s).getD (i*1+0) undef=.int .u8 s.data.toList[i].toNat:=by
  have h8:i<s.data.size:=by simpa using VZ
  simp[byteCells,Ql];rw[QU h8];rfl
 rw[e];exact .imm (.lit _)
theorem TG(ρ:Operand->Value)(o:Oper)(b:Builtin)(args:Array Operand)(at_:Array TypeId)(ho:o.op=.call { callee:=.builtin b,args:=args,argTypes:=at_})(P:Program)(w:World):∃cs,(execOp ρ o).run P w=(builtin b at_ o.type cs (args.map ρ)).run P w:=by refine⟨args.map fun|.const _=>true|_=>false,?_⟩;.simp only[execOp,ho,resolve,Sem.run_bind,Sem.run_pure,Result.andThen_ok,invoke];rfl
theorem Da{A m w st}(h:∃v w' m',s.run P w=.ok v w'/\R A m' w' VO/\Xs A m st.length w A m' VO.length w'/\V A m' VO.length w' av v):
  H1 P A m w st ((do pure (.value (<-s)):Sem Next).run P w) av VO:=by
 obtain⟨v,w',m',h1,h2,h3,h4⟩:=h;exact⟨.value v,v,w',m',by simp[h1],.inl rfl,h2,h3,h4⟩
theorem UY{A m w st}(hR:R A m w st)(h:∃v,s.run P w=.ok v w/\V A m st.length w av v):
  H1 P A m w st ((do pure (.value (<-s)):Sem Next).run P w) av st:=by
 obtain⟨v,h1,h4⟩:=h;exact Da ⟨v,w,m,h1,hR,Xs.refl _ _ _ _,h4⟩
theorem map_some{α β:Type}{f:α->β}{o:Option α}{y:β}(h:o.map f=some y):∃x,o=some x/\f x=y:=by
 cases o with
 |none=>cases h
 |some x=>exact⟨x,rfl,Option.some.inj h⟩
theorem f8{A m w st n env a}{ty:TypeId}{t:TypeId}(hR:R A m w st)(hE:Ly A m st.length w n env a)(h:D0 P env st x t=some (av,VO)):H1 P A m w st ((execOp a.eval { dst:=dst,op:=.call { callee:=.builtin .len,args:=#[x],argTypes:=#[t]},type:=ty,pos:=pos,after:=after,guard:=guard}).run P w) av VO:=by
 obtain⟨cs,hrun⟩:=TG a.eval { dst:=dst,op:=.call { callee:=.builtin .len,args:=#[x],argTypes:=#[t]},type:=ty,pos:=pos,after:=after,guard:=guard} .len #[x] #[t] rfl P w;rw[hrun];unfold D0 at h;split at h
 .rename_i ti v ht hv;have Fg:=XD hE hv
  have go:∀(q:Nat),(Builtin.len_ #[t] ty #[a.eval x]).run P w=.ok (goInt q) w->H1 P A m w st ((builtin .len #[t] ty cs (#[x].map a.eval)).run P w) (.lit (.int .i64 q)) st:=λq hq=>by
   refine⟨.value (goInt q),goInt q,w,m,?_,.inl rfl,hR,Xs.refl _ _ _ _,.imm (.lit _)⟩;simp[builtin,hq]
  split at h
  .rename_i s hk;cases h;exact go _ (C6 ht (.inr hk) Fg (by simp[U7]) (λl i n e=>by cases e) ⟨λ_=>hk,λ_=>⟨s,rfl⟩⟩)
  .rename_i k els e hk;cases h;exact go _ (C6 ht (.inl ⟨e,hk⟩) Fg rfl (λl i n e=>by cases e) ⟨(λ⟨s,e⟩=>(by cases e)),(λe=>(by rw[hk]at e;cases e))⟩)
  .rename_i l i q e hk;split at h;.rename_i kk hl;cases h;refine go _ (C6 ht (.inl ⟨e,hk⟩) Fg rfl (λl' i' n' e=>?_) ⟨(λ⟨s,e⟩=>(by cases e)),(λe=>(by rw[hk]at e;cases e))⟩);cases e;obtain⟨k2,els⟩:=kk;obtain⟨b,h1,_⟩:=hR.blk l k2 els hl;exact⟨b,h1⟩
   cases h
  .rename_i e hk;cases h;exact go 0 (C6 ht (.inl ⟨e,hk⟩) Fg rfl (λl i n e=>by cases e) ⟨(λ⟨s,e⟩=>(by cases e)),(λe=>(by rw[hk]at e;cases e))⟩)
  cases h
 cases h
theorem lI{A m w st n env a}{ty:TypeId}{s:Operand}{t tx:TypeId}(hR:R A m w st)(hE:Ly A m st.length w n env a)(h:NI P env st s x t tx=some (av,VO)):H1 P A m w st ((execOp a.eval { dst:=dst,op:=.call { callee:=.builtin .append,args:=#[s,x],argTypes:=#[t,tx]},type:=ty,pos:=pos,after:=after,guard:=guard}).run P w) av VO:=by
 obtain⟨cs,hrun⟩:=TG a.eval { dst:=dst,op:=.call { callee:=.builtin .append,args:=#[s,x],argTypes:=#[t,tx]},type:=ty,pos:=pos,after:=after,guard:=guard} .append #[s,x] #[t,tx] rfl P w;rw[hrun];unfold NI at h;split at h
 .rename_i ti sv xv tix ht hs hx htx;split at h
  .rename_i e hk;split at h
   .rename_i te he;split at h
    .rename_i old FE hb
     have fin:(∃v w' m',(Builtin.append_ #[t,tx] ty #[a.eval s,a.eval x]).run P w=.ok v w'/\R A m' w' VO/\Xs A m st.length w A m' VO.length w'/\V A m' VO.length w' av v)->
       H1 P A m w st ((builtin .append #[t,tx] ty cs (#[s,x].map a.eval)).run P w) av VO:=λ⟨v,w',m',h1,h2,h3,h4⟩=>
      ⟨.value v,v,w',m',by simp[builtin,h1],.inl rfl,h2,h3,h4⟩
     split at h
     .rename_i e' Fr;split at h
      .rename_i new hr;split at h;.rename_i hc;cases h;exact fin (oP hR ht hk he hc.1 (XD hE hs) hb (cr hR htx Fr hr (XD hE hx) hc.2.1) hc.2.2.1 hc.2.2.2)
       cases h
      cases h
     .rename_i u Fr;split at h
      .rename_i hc;cases h;have e2:=(XD hE hx).lit_inv
       have hl:(u.data.toList.map Zw).length=u.data.toList.length:=YC
       have h9:=oP (P:=P) (ty:=ty) (tx:=tx) hR ht hk he (by rw[hc.1];decide) (XD hE hs) hb (x:=a.eval x) (new:=u.data.toList.map Zw) (by rw[e2,hc.1];exact tg u htx Fr)
        (by rw[hl];exact hc.2.1) (by rw[hl];exact hc.2.2)
       rw[hl]at h9;exact fin h9
      cases h
     cases h
    cases h
   cases h
  cases h
 cases h
set_option maxHeartbeats 1000000 in
theorem N4(op:BinOp)(t:TypeId)(x y:Operand)(a b:Option Addr)(n1 n2 c1 c2:Nat)(w:World):(eqGuard op t x y (.slice a n1 c1) (.slice b n2 c2)).run P w=.ok () w:=by unfold eqGuard;simp
theorem S9{w:World}{t:TypeId}{e:TypeId}(hd:P.underlying t=some (.slice e))(a:Option Addr)(n c:Nat):(Op.equal t (.slice a n c) (.slice none 0 0)).run P w=.ok a.isNone w:=by
 have key:∀d,(Op.equalIn (d+1) t (.slice a n c) (.slice none 0 0)).run P w=.ok a.isNone w:=λd=>by
  rw[Op.equalIn];cases a<;>simp[run_underlying hd]
 exact key 9999
theorem bO(op:BinOp)(t:TypeId)(x y:Operand)(a b:Option Addr)(w:World):(eqGuard op t x y (.pointer a) (.pointer b)).run P w=.ok () w:=by unfold eqGuard;simp
theorem zDN{w:World}{t e:TypeId}(hd:P.underlying t=some (.pointer e))(a:Option Addr):(Op.equal t (.pointer a) (.pointer none)).run P w=.ok a.isNone w:=by
 have key:∀d,(Op.equalIn (d+1) t (.pointer a) (.pointer none)).run P w=.ok a.isNone w:=λd=>by
  rw[Op.equalIn];cases a<;>simp[run_underlying hd]
 exact key 9999
theorem dK{P d e}(h:Ub P d=.ptr e):d=.pointer e:=by
 cases d<;>simp only[Ub]at h
 case pointer=>cases h;rfl
 case struct=>split at h<;>cases h
 all_goals cases h
theorem ut{A m nb}{w:World}{t e:TypeId}{y:Operand}(hd:P.underlying t=some (.pointer e))(a:Option Addr)(hb:a.isNone=b)(h:Rz op b=some r):
  ∃v,(do eqGuard op t x y (.pointer a) (.pointer none);binOp op t (.pointer a) (.pointer none):Sem Value).run P w=.ok v w/\V A m nb w r v:=by
 have e1:=zDN (P:=P) (w:=w) hd a;subst hb;unfold Rz at h;split at h;.cases h;exact⟨_,by simp only[Sem.run_bind,bO,Result.andThen_ok,binOp,e1];rfl,.imm (.lit _)⟩
 .cases h;exact⟨_,by simp only[Sem.run_bind,bO,Result.andThen_ok,binOp,e1];rfl,.imm (.lit _)⟩
 cases h
theorem zCT{A m w st}{t:TypeId}{ti:TI}{y:Operand}{b:Value}(hR:R A m w st)(ht:Xk P t=some ti)(ha:V A m st.length w av a)(hb:V A m st.length w bv b)(h:RG ti.k st op av bv=some r):∃v,(do eqGuard op t x y a b;binOp op t a b:Sem Value).run P w=.ok v w/\V A m st.length w r v:=by
 obtain⟨d,i0,hd,_,_,_,_,hdk,_⟩:=Zn ht;unfold RG at h;split at h
 .rename_i e hk;rw[hk]at hdk;have Fj:=Kt hdk;subst Fj;have ea:=ha.lit_inv;have eb:=hb.lit_inv;subst ea;subst eb;have e1:=S9 (w:=w) hd none 0 0;split at h;.cases h;exact⟨_,by simp only[Sem.run_bind,N4,Result.andThen_ok,binOp,e1];rfl,.imm (.lit _)⟩
  .cases h;exact⟨_,by simp only[Sem.run_bind,N4,Result.andThen_ok,binOp,e1];rfl,.imm (.lit _)⟩
  cases h
 .rename_i e l i n hk;rw[hk]at hdk;have Fj:=Kt hdk;subst Fj;have eb:=hb.lit_inv;subst eb;split at h
  .rename_i hn;obtain⟨hl,a',n',cap,rfl,hb'⟩:=ha.msl_inv;split at h
   .rename_i q hq;obtain⟨kk,els⟩:=q;obtain⟨b,h1,h2,h3,h4⟩:=hR.blk l kk els hq;obtain⟨rfl,Fd,hc⟩:=hb' b h1
    rcases hc with h5|⟨h6,hm6,rfl,Fc⟩
    .omega
    cases h;have e1:=S9 (w:=w) hd (some ⟨b.B,b.o+i*b.k,none⟩) n' cap;exact⟨_,by simp only[Sem.run_bind,N4,Result.andThen_ok,binOp,e1];rfl,.imm (.lit _)⟩
   .rename_i q hq;obtain⟨kk,els⟩:=q;obtain⟨b,h1,h2,h3,h4⟩:=hR.blk l kk els hq;obtain⟨rfl,Fd,hc⟩:=hb' b h1
    rcases hc with h5|⟨h6,hm6,rfl,Fc⟩
    .omega
    cases h;have e1:=S9 (w:=w) hd (some ⟨b.B,b.o+i*b.k,none⟩) n' cap;exact⟨_,by simp only[Sem.run_bind,N4,Result.andThen_ok,binOp,e1];rfl,.imm (.lit _)⟩
   cases h
  cases h
 .rename_i e hk;rw[hk]at hdk;have Fj:=dK hdk;subst Fj;rw[ha.lit_inv,hb.lit_inv];exact ut hd none rfl h
 .rename_i e l i j hk;rw[hk]at hdk;have Fj:=dK hdk;subst Fj;rw[hb.lit_inv];split at h;.rename_i q hq;obtain⟨kk,els⟩:=q;obtain⟨hl,a',rfl,hb'⟩:=ha.mpt_inv;obtain⟨b,h1,h2,h3,h4⟩:=hR.blk l kk els hq;obtain⟨h6,hm6,rfl⟩:=hb' b h1;exact ut hd _ rfl h
  cases h
 .rename_i e k els i j hk;rw[hk]at hdk;have Fj:=dK hdk;subst Fj;rw[hb.lit_inv]
  cases ha.ipt_inv with
  |ipt _ _ _ _ B o vs hA hk hc hv=>exact ut hd _ rfl h
 cases h
theorem zDs{A m w st}{t:TypeId}{a b:AV}{x y:Value}(hR:R A m w st)(ha:V A m st.length w a x)(hb:V A m st.length w b y)(h:C3 P st t a b=some (av,VO)):∃v w' m',(Instr.makeSlice t x y).run P w=.ok v w'/\R A m' w' VO/\Xs A m st.length w A m' VO.length w'/\V A m' VO.length w' av v:=by
 unfold C3 at h;split at h
 case h_2=>cases h
 rename_i ti kl n kc n' ht;split at h
 case h_2=>cases h
 rename_i e hk;split at h
 case h_2=>cases h
 rename_i te he;split at h
 case isFalse=>cases h
 rename_i hc;obtain⟨rfl,h0,hs1,hn,hbytes⟩:=hc;cases h;obtain⟨d,i0,hd,_,_,_,_,hdk,_⟩:=Zn ht;rw[hk]at hdk;have:=Kt hdk;subst this;obtain⟨d2,i,_,hi,hz,V8,hby,_,hzs⟩:=Zn he;rw[ha.lit_inv,hb.lit_inv]
 have hN:n<=16777216:=by
  have:n.toNat*1<=n.toNat*te.size:=Nat.mul_le_mul_left _ hs1;omega
 have hrun:=run_makeSlice (P:=P) w t e i te.zero hd hi hz kl kc n n h0 (Int.le_refl _) (by rw[V8];exact hn) (by rw[hby];exact hbytes) YA
 have hcl:(Zm te.zero).length=te.size:=by simp[Zm,hzs]
 have hg:=Zb.alloc w (.cells (madeCells te.zero.cells (n.toNat*i.size)) e)
 have F0:(madeCells te.zero.cells (n.toNat*i.size)).size=n.toNat*te.size:=by rw[size_madeCells,V8]
 have hcell:∀off,off<n.toNat*te.size->(w.alloc (.cells (madeCells te.zero.cells (n.toNat*i.size)) e)).cell? ⟨w.heap.size,off,none⟩=some (te.zero.cells[off % te.size]!):=λoff ho=>by
  have hh:(w.alloc (.cells (madeCells te.zero.cells (n.toNat*i.size)) e)).heap[w.heap.size]?=some (.cells (madeCells te.zero.cells (n.toNat*i.size)) e):=by
   show(w.heap.push _)[w.heap.size]?=_;simp
  simp only[World.cell?,hh];unfold madeCells;rw[V8,hzs];simp[ho]
 have hp:=hR.push hg ⟨true,w.heap.size,0,te.size,n.toNat*te.size,false⟩ (List.replicate n.toNat (Zm te.zero)) (λ_=>⟨Qg _,YC⟩) (λh=>by cases h)
  (λ_ off ho=>⟨_,hcell off ho⟩) (λ_ off ho=>Tw _ _ _) (λ_=>YC) (λq hq=>by rw[List.getElem_replicate];exact hcl)
  (λ_ q hq j hj=>by
   have hq':q<n.toNat:=by simpa using hq
   simp only[List.getElem_replicate]at hj ⊢
   have hj':j<te.size:=by rw[<-hcl];exact hj
   have hlt:q*te.size+j<n.toNat*te.size:=by
    have h1:(q+1)*te.size<=n.toNat*te.size:=QZ _ hq';rw[Nat.succ_mul]at h1;omega
   have hm:(q*te.size+j) % te.size=j:=by rw[Nat.mul_comm,Nat.mul_add_mod];exact Nat.mod_eq_of_lt hj'
   have hzj:j<te.zero.cells.size:=by rw[hzs];exact hj'
   refine⟨te.zero.cells[j],by
    have:=hcell (q*te.size+j) hlt;rw[hm,getElem!_pos te.zero.cells j hzj]at this
    simpa using this,?_⟩
   have e1:(Zm te.zero)[j]=.lit te.zero.cells[j]:=by simp[Zm]
   rw[e1]
   exact .imm (.lit _))
 refine⟨_,_,_,hrun,hp.1,by simpa using hp.2,.msl _ _ _ _ _ _ YC λb hb=>?_⟩;simp[BM.put]at hb;subst hb;exact⟨rfl,Qg _,.inr ⟨rfl,rfl,YC,YC⟩⟩
theorem R.freeze{A:Nat->Prop}{m:BM}{w:World}{st:St}(hR:R A m w st){l k:Nat}{els:List (Vt)}(hl:st[l]?=some (some (k,els))){b:LT}(hb:m l=some b)(hh:b.has=true){e:TypeId}{c:Nat}(FT:w.shape? b.B=some (e,c)):R A m (w.freeze ⟨b.B,c,none⟩ 1) st/\Xs A m st.length w A m st.length (w.freeze ⟨b.B,c,none⟩ 1):=by
 have VW:=(hR.at hb hl).2.1 hh
 obtain⟨C,lo,hi,hO,rfl⟩:∃C lo hi,w.heap[b.B]?=some (.cells C e (lo,hi))/\C.size=c:=by
  unfold World.shape? at FT;split at FT;.rename_i C e' mk hq;cases FT;exact⟨C,mk.1,mk.2,hq,rfl⟩
  cases FT
 have FG:(w.freeze ⟨b.B,C.size,none⟩ 1).os=w.os/\(w.freeze ⟨b.B,C.size,none⟩ 1).tape=w.tape/\(w.freeze ⟨b.B,C.size,none⟩ 1).output=w.output:=by
  unfold World.freeze;rw[YM YB];exact⟨rfl,rfl,rfl⟩
 have V8:(w.freeze ⟨b.B,C.size,none⟩ 1).heap.size=w.heap.size:=by
  unfold World.freeze;rw[YM YB];show(w.heap.modify _ _).size=_;simp
 have hne:∀B,B≠b.B->(w.freeze ⟨b.B,C.size,none⟩ 1).heap[B]?=w.heap[B]?:=λB h=>by
  unfold World.freeze;rw[YM YB];show(w.heap.modify _ _)[B]?=_;rw[Jb,YM (Ne.symm h)]
 have hat:(w.freeze ⟨b.B,C.size,none⟩ 1).heap[b.B]?=some (.cells C e (if lo==hi then(C.size,C.size+1)else(min lo C.size,max hi (C.size+1)))):=by
  unfold World.freeze;rw[YM YB];show(w.heap.modify _ _)[b.B]?=_;rw[Jb,YK rfl,hO];rfl
 have hcell:∀B off,(w.freeze ⟨b.B,C.size,none⟩ 1).cell? ⟨B,off,none⟩=w.cell? ⟨B,off,none⟩:=λB off=>by
  by_cases h:B=b.B;.subst h;simp only[World.cell?,hat,hO]
  simp only[World.cell?,hne B h]
 have hS:Xs A m st.length w A m st.length (w.freeze ⟨b.B,C.size,none⟩ 1):=
  ⟨Qg _,by rw[V8];exact Qg _,λ_ h=>h,λ_ h=>.inl h,λ_ _=>.inl rfl,λl b h hh=>.inr ⟨l,b,h,hh,rfl⟩,
   λB _ ho=>hne B (λe=>ho l b hb hh e.symm),FG.1,FG.2.1,FG.2.2⟩
 refine⟨⟨λB hB=>by rw[V8];exact hR.aLow B hB,hR.aOwn,hR.inj,hR.live,λl' k' VM he=>?_⟩,hS⟩;obtain⟨b',h1,h2,h3,h4⟩:=hR.blk l' k' VM he;refine⟨b',h1,h2,λhh'=>?_,h4⟩;have ho:=h3 hh'
 refine⟨by rw[V8];exact ho.low,λhm off h=>by rw[hcell];exact ho.there hm off h,λhm off h=>?_,ho.fit,ho.wide,λhm i hi j hj=>by
  obtain⟨v,h5,h6⟩:=ho.val hm i hi j hj
  exact⟨v,by rw[hcell];exact h5,h6.step hR hS⟩,λhm=>by
  obtain⟨h0,es,clock,h5,h6,h7⟩:=ho.mval hm;refine⟨h0,es,clock,?_,h6,λi hi j hj=>(h7 i hi j hj).step hR hS⟩;by_cases hB:b'.B=b.B;.rw[hB,hO]at h5;cases h5
  rw[hne _ hB];exact h5⟩
 by_cases hB:b'.B=b.B
 .have hfr:=ho.free hm off h;obtain⟨v,hv⟩:=ho.there hm off h;rw[hB]at hfr hv ⊢
  have hlt:off<C.size:=by
   simp only[World.cell?,hO]at hv
   rcases JU off C.size with h7|h7
   .exact h7
   simp[Array.getElem?_eq_none h7]at hv
  simp only[fz,hO]at hfr;by_cases e:lo=hi;.subst e;simp only[fz,hat,YL,YQ];simp;omega
  have e2:(lo==hi)=false:=beq_eq_false_iff_ne.2 e;rw[e2]at hfr;simp only[fz,hat,e2,JE,YT];simp at hfr ⊢;omega
 have hfr:=ho.free hm off h;simp only[fz,hne _ hB];exact hfr
variable {Fw:Act->World->Prop}{VU:Array Edge}{VS:Array Oper}{c:Code}{env:Ev}{K:Ev->St->Prop}{Q:Exit->Act->World->Prop}{Q':Exit->Ev->St->Prop}{f:FuncId}{args:Vt}{nb0 id:Nat}{o:Oper}{d:Option Tmp}
theorem zEJ{A m w st}{s e:TypeId}{is ie:TI}{x:AV}{xv:Value}{VO}(hR:R A m w st)(hs:Xk P s=some is)(hk:is.k=.slc e)(he:Xk P e=some ie)(hx:V A m st.length w x xv)(h:OJ st true is.k ie.k x=some (av,VO)):∃v w' m',(convert s s xv).run P w=.ok v w'/\R A m' w' VO/\Xs A m st.length w A m' VO.length w'/\V A m' VO.length w' av v:=by
 obtain⟨ds,_,hds,_,_,_,_,hdsk,_⟩:=Zn hs;obtain⟨de,_,hde,_,_,_,_,hdek,_⟩:=Zn he;rw[hk]at hdsk;have h1:=Kt hdsk;subst h1;unfold OJ at h;split at h
 .rename_i e2 l i n _ Fr hk3;rw[hk3]at hdek;have h2:=xb hdek;subst h2;split at h
  .rename_i hn;split at h
   .rename_i els hq;cases h;have hx0:=hx;obtain⟨hl,a,n',cap,rfl,hb'⟩:=hx.msl_inv;obtain⟨b,h1,h2,h3,h4⟩:=hR.blk l 1 els hq;obtain⟨rfl,Fd,hc⟩:=hb' b h1
    rcases hc with h5|⟨h6,hm6,rfl,Fc⟩
    .omega
    have VW:=(h3 h6).cells hm6
    have FT:∃e c,w.shape? b.B=some (e,c):=by
     rw[h2,Nat.mul_one]at Fc;obtain⟨v,hv⟩:=VW.there 0 YA;unfold World.cell? at hv;unfold World.shape?;split at hv;.rename_i C e' mk hO;simp only at hO;rw[hO];exact⟨_,_,rfl⟩
     cases hv
    obtain⟨e',c,FT⟩:=FT;obtain⟨k1,k2⟩:=hR.freeze hq h1 h6 FT;refine⟨_,_,m,?_,k1,k2,hx0.step hR k2⟩;simp[convert,run_underlying hds,run_underlying hde,markStringish,FT]
   cases h
  cases h
 cases h
theorem f6{A m w st n env a}{ty:TypeId}{y:Operand}{ats:Array TypeId}(hR:R A m w st)(hE:Ly A m st.length w n env a)(h:xf env st x y=some (av,VO)):H1 P A m w st ((execOp a.eval { dst:=dst,op:=.call { callee:=.builtin .min,args:=#[x,y],argTypes:=ats},type:=ty,pos:=pos,after:=after,guard:=guard}).run P w) av VO:=by
 obtain⟨cs,hrun⟩:=TG a.eval { dst:=dst,op:=.call { callee:=.builtin .min,args:=#[x,y],argTypes:=ats},type:=ty,pos:=pos,after:=after,guard:=guard} .min #[x,y] ats rfl P w;rw[hrun];unfold xf at h;split at h;.rename_i k p k' q hp hq;cases h;have e1:=(XD hE hp).lit_inv;have e2:=(XD hE hq).lit_inv;refine⟨.value (.int k (if q<p then q else p)),_,w,m,?_,.inl rfl,hR,Xs.refl _ _ _ _,.imm (.lit _)⟩;simp[builtin,Builtin.min_,Builtin.min2,e1,e2]
 cases h
theorem lK{A m w st n env a}{ty:TypeId}{y:Operand}{t tx:TypeId}(hR:R A m w st)(hE:Ly A m st.length w n env a)(h:wj P env st x y t=some (av,VO)):H1 P A m w st ((execOp a.eval { dst:=dst,op:=.call { callee:=.builtin .copy,args:=#[x,y],argTypes:=#[t,tx]},type:=ty,pos:=pos,after:=after,guard:=guard}).run P w) av VO:=by
 obtain⟨cs,hrun⟩:=TG a.eval { dst:=dst,op:=.call { callee:=.builtin .copy,args:=#[x,y],argTypes:=#[t,tx]},type:=ty,pos:=pos,after:=after,guard:=guard} .copy #[x,y] #[t,tx] rfl P w;rw[hrun];unfold wj at h;split at h
 .rename_i ti d s ht hd hs;split at h
  .rename_i e hk;split at h;.rename_i te he;obtain⟨v,w',m',h1,h2,h3,h4⟩:=zC2 (P:=P) (tx:=tx) (ty:=ty) hR ht hk he (XD hE hd) (XD hE hs) h;exact⟨.value v,v,w',m',by simp[builtin,h1],.inl rfl,h2,h3,h4⟩
   cases h
  cases h
 cases h
theorem vT{A m nb w n env a}(hE:Ly A m nb w n env a){y:Operand}(h:Z6 env 0 (some y)=some q):a.eval y=.int .i64 q:=by
 rcases Ez hE h with h3|⟨h3,_⟩
 .simpa using h3
 cases h3
theorem bC{A m w st n env a}(hR:R A m w st)(hE:Ly A m st.length w n env a)(h:Lh P env st o.op=some (av,VO)):H1 P A m w st ((execOp a.eval o).run P w) av VO:=by
 obtain⟨dst,op,ty,pos,after,guard⟩:=o;simp only at h;unfold Lh at h;split at h;.obtain⟨x,h1,h2⟩:=map_some h;cases h2;exact wJ hR (XD hE h1)
 .obtain⟨x,h1,h2⟩:=map_some h;cases h2;exact wJ hR (XD hE h1)
 .rename_i c x y;split at h;.rename_i hc;obtain⟨z,h1,h2⟩:=map_some h;cases h2;have e:=(XD hE hc).lit_inv;refine⟨_,_,w,m,?_,.inl rfl,hR,Xs.refl _ _ _ _,XD hE h1⟩;simp[execOp,e,asBool]
  .rename_i hc;obtain⟨z,h1,h2⟩:=map_some h;cases h2;have e:=(XD hE hc).lit_inv;refine⟨_,_,w,m,?_,.inl rfl,hR,Xs.refl _ _ _ _,XD hE h1⟩;simp[execOp,e,asBool]
  cases h
 .split at h
  .rename_i ti x' y' ht hx hy;obtain⟨z,h1,h2⟩:=map_some h;cases h2;split at h1;.rename_i hb;cases h1;exact UY hR (zEs ht (XD hE hx) (XD hE hy) hb)
   split at h1
   .rename_i hb;cases h1;exact UY hR (zEb (XD hE hx) (XD hE hy) hb)
   exact UY hR (zCT hR ht (XD hE hx) (XD hE hy) h1)
  cases h
 .split at h
  .rename_i x' hx;obtain⟨z,h1,h2⟩:=map_some h;cases h2;exact UY hR (a8 (XD hE hx) h1)
  cases h
 .rename_i s0 d0 x0;split at h
  .rename_i is id v hs hd hx;split at h
   .rename_i ie he;split at h
    .rename_i r hr;cases h;refine Da (zC1 hR hs hd ?_ he (XD hE hx) hr);simp only[dE];cases hk:is.k<;>simp
     all_goals (cases Fr:id.k<;>simp)
    have hsd:s0=d0:=by
     cases hq:(s0==d0)with
     |true=>exact beq_iff_eq.1 hq
     |false=>rw[hq]at h;simp[OJ]at h
    subst hsd;rw[YL]at h
    have hk:∃e2,is.k=.slc e2:=by
     cases hq:is.k<;>first|exact⟨_,rfl⟩|(rw[hq]at h;simp[OJ]at h)
    obtain⟨e2,hk⟩:=hk
    have hel:dE s0 is.k id.k=e2:=by rw[hk];rfl
    rw[hel]at he;exact Da (zEJ hR hs hk he (XD hE hx) h)
   cases h
  cases h
 .split at h
  .rename_i t i o vs hv;obtain⟨z,h1,h2⟩:=map_some h;cases h2;obtain⟨b,e,h3⟩:=(XD hE hv).tup_inv;refine UY hR ⟨b.getD i undef,?_,h3.get h1⟩
   have hi:i<b.size:=by rw[h3.1];exact(Qb.1 h1).1
   simp[Instr.extract,e,hi,Qi]
  cases h
 .split at h
  .rename_i ti ht;cases h;obtain⟨w',m',h1,h2⟩:=zHS hR ht;exact Da ⟨_,w',m',h1,h2⟩
  cases h
 .split at h
  .rename_i t x o v hv;obtain⟨cs,h1,h2⟩:=map_some h;cases h2;obtain⟨w',m',h3,h4⟩:=sr (P:=P) (t:=t) hR (XD hE hv) h1;exact Da ⟨_,w',m',h3,h4⟩
  cases h
 .split at h
  .rename_i ti v ht hv;obtain⟨z,h1,h2⟩:=map_some h;cases h2;exact UY hR (yQ hR ht (XD hE hv) h1)
  cases h
 .split at h
  .rename_i ti pv xv ht hp hx;obtain⟨z,h1,h2⟩:=map_some h;cases h2;obtain⟨w',h3,h4,h5⟩:=c7 hR ht (XD hE hp) (XD hE hx) h1;refine⟨.skip,undef,w',m,?_,.inr ⟨rfl,rfl⟩,h4,h5,.imm (.lit _)⟩;simp[execOp,h3]
  cases h
 .split at h
  .rename_i ti v ht hv;split at h;.rename_i hal;obtain⟨z,h1,h2⟩:=map_some h;cases h2;exact UY hR (c9 hR ht (XD hE hv) hal h1)
   cases h
  cases h
 .split at h
  .rename_i ti v k i ht hv hix;split at h
   .rename_i e hk;split at h;.rename_i te he;obtain⟨z,h1,h2⟩:=map_some h;cases h2;have e1:=(XD hE hix).lit_inv;refine UY hR ?_;rw[e1];exact c8 hR ht hk he (XD hE hv) h1
    cases h
   cases h
  cases h
 .split at h
  .rename_i ti s k i ht hv hix;split at h
   .rename_i hk;obtain⟨z,h1,h2⟩:=map_some h;cases h2;have e1:=(XD hE hix).lit_inv;have e2:=(XD hE hv).lit_inv;obtain⟨d,i0,hd,_,_,_,_,hdk,_⟩:=Zn ht;rw[hk]at hdk;have:=D2 hdk;subst this;unfold dz at h1;split at h1
    .rename_i h0;obtain⟨b,h3,h4⟩:=map_some h1;cases h4;obtain⟨h5,h6⟩:=Qb.1 h3;refine UY hR ⟨.int .u8 b.toNat,?_,.imm (.lit _)⟩
     have h7:s[i.toNat]?=some b:=by
      have h8:i.toNat<s.size:=by simpa using h5
      rw[getElem?_pos s i.toNat h8];rw[<-h6];rfl
     rw[e1,e2];simp[Instr.index,asIntOf,run_underlying hd,h0,h7]
    cases h1
   cases h
  .rename_i ti cs k i ht hv hix;split at h
   .rename_i n e hk;split at h;.rename_i te he;obtain⟨z,h1,h2⟩:=map_some h;cases h2;obtain⟨u,u1,u2⟩:=zFB (k:=k) ht hk he (XD hE hv) h1;refine UY hR ⟨u,?_,u2⟩;have e1:=(XD hE hix).lit_inv;rw[e1];exact u1
    cases h
   cases h
  cases h
 .split at h
  .rename_i t x lo hi o1 o2 ti v ht hv;split at h
   .rename_i e q hk hl;split at h
    .rename_i te l hh he FI FD;obtain⟨z,h1,h2⟩:=map_some h;cases h2;refine UY hR ?_;refine sq hR ht hk he (XD hE hv) h1 _ _ (Ez hE FI) ?_
     rcases Ez hE FD with h3|⟨h3,rfl⟩
     .exact .inl h3
     exact .inr ⟨h3,hl⟩
    cases h
   .rename_i q hk hl;split at h
    .rename_i s l hh FI FD;split at h
     .rename_i hc;cases h;obtain⟨d,i0,hd,_,_,_,_,hdk,_⟩:=Zn ht;rw[hk]at hdk;have:=D2 hdk;subst this;have e2:=(XD hE hv).lit_inv;simp[U7]at hl;refine UY hR ⟨_,?_,.imm (.lit _)⟩
      have hex:s.extract l hh=⟨⟨(s.data.toList.drop l).take (hh-l)⟩⟩:=by
       apply ByteArray.ext;apply Array.ext';simp[List.extract_eq_take_drop]
      rw[<-hex,e2]
      rcases Ez hE FI with h3|⟨h3,rfl⟩<;>rcases Ez hE FD with h4|⟨h4,rfl⟩<;>
       simp[Instr.sliceAt,Instr.slice,run_underlying hd,h3,h4,Instr.sliceBounds,Instr.sliceBound,asIntOf,hc.1,hc.2,hl]
      all_goals (first|omega|(apply ByteArray.ext;apply Array.ext';simp[<-hl]))
     cases h
    cases h
   cases h
  cases h
 .split at h
  .rename_i ti parts ht hp;split at h;.rename_i pl hk;obtain⟨z,h1,h2⟩:=map_some h;cases h2;exact UY hR (vw hE ht (.inl hk) hp h1)
   .rename_i cnt e hk;split at h;.rename_i te he;obtain⟨z,h1,h2⟩:=map_some h;cases h2;exact UY hR (vw hE ht (.inr ⟨cnt,e,te,hk,he,rfl⟩) hp h1)
    cases h
   cases h
  cases h
 .split at h
  .rename_i ti parts ht hp;split at h
   .rename_i e hk;split at h
    .rename_i te he;split at h;.rename_i hc;obtain⟨z,h1,h2⟩:=map_some h;cases h2;exact Da (lZ hR hE ht hk he hc.1 hc.2 hp h1)
     cases h
    cases h
   cases h
  cases h
 .split at h
  .rename_i x o v hv;split at h
   .rename_i hal;cases h;have Fg:=XD hE hv;refine⟨.value (a.eval x),a.eval x,w,m,?_,.inl rfl,hR,Xs.refl _ _ _ _,Fg⟩;simp only[execOp];generalize a.eval x=u at Fg
    cases av with
    |mpt l i j =>
     obtain⟨b,_,_,e⟩:=bG hR hal Fg;simp[e]
    |ipt k els i j =>
     cases Fg.ipt_inv with
     |ipt _ _ _ _ B o' vs hA hk hc hv2=>rfl
    |fn f cs ds =>
     obtain⟨p,q,e,_⟩:=Fg.fn_inv;subst e
     cases f with
     |func g=>rfl
     |_=>cases hal
    |_=>cases hal
   cases h
  cases h
 .split at h
  .rename_i f first Fu o1 o2 p q hp hq
   cases h;have h1:=Ps hE hp;have h2:=Ps hE hq
   refine UY hR ⟨.func (.func f) (first.map a.eval) (Fu.map a.eval),rfl,?_⟩
   have e1:(first.toList.map a.eval).toArray=first.map a.eval:=by apply Array.ext';simp
   have e2:(Fu.toList.map a.eval).toArray=Fu.map a.eval:=by apply Array.ext';simp
   rw[e1]at h1;rw[e2]at h2;exact .fn _ _ _ _ _ h1.1 h1.2 h2.1 h2.2
  cases h
 .split at h
  .rename_i v hv;obtain⟨z,h1,h2⟩:=map_some h;cases h2;exact UY hR (zFA (XD hE hv) h1)
  cases h
 .split at h
  .rename_i t e hm;cases h;obtain⟨k1,k2⟩:=hR.pushM;refine Da ⟨.map (some w.heap.size),_,_,by simp[Instr.makeMap],k1,by simpa using k2,.mmp _ _ YC λb hb=>?_⟩;simp[BM.put]at hb;subst hb;exact⟨rfl,rfl,rfl⟩
  cases h
 .split at h
  .rename_i mv s xv hm hk hx;obtain⟨z,h1,h2⟩:=map_some h;cases h2;have e1:=(XD hE hk).lit_inv;obtain⟨w',h3,h4,h5⟩:=zFE (P:=P) hR (XD hE hm) (XD hE hx) h1;refine⟨.skip,undef,w',m,?_,.inr ⟨rfl,rfl⟩,h4,h5,.imm (.lit _)⟩;simp[execOp,e1,h3]
  cases h
 .split at h
  .rename_i mv s hm hk;obtain⟨z,h1,h2⟩:=map_some h;cases h2;have e1:=(XD hE hk).lit_inv;refine UY hR ?_;rw[e1];exact zFD hR (XD hE hm) h1
  cases h
 .split at h
  .rename_i a b ha hb;exact Da (zDs hR (XD hE ha) (XD hE hb) h)
  cases h
 .rename_i c;obtain⟨callee,args,argTypes⟩:=c;unfold HE at h;split at h
  .rename_i x t hcal hargs hat;simp only at hcal hargs hat;subst hcal
   obtain rfl:args=#[x]:=by rw[<-Jd (xs:=args),hargs]
   obtain rfl:argTypes=#[t]:=by rw[<-Jd (xs:=argTypes),hat]
   exact f8 hR hE h
  .rename_i s x t tx hcal hargs hat;simp only at hcal hargs hat;subst hcal
   obtain rfl:args=#[s,x]:=by rw[<-Jd (xs:=args),hargs]
   obtain rfl:argTypes=#[t,tx]:=by rw[<-Jd (xs:=argTypes),hat]
   exact lI hR hE h
  .rename_i x y hcal hargs;simp only at hcal hargs;subst hcal
   obtain rfl:args=#[x,y]:=by rw[<-Jd (xs:=args),hargs]
   exact f6 hR hE h
  .rename_i x y t tx hcal hargs hat;simp only at hcal hargs hat;subst hcal
   obtain rfl:args=#[x,y]:=by rw[<-Jd (xs:=args),hargs]
   obtain rfl:argTypes=#[t,tx]:=by rw[<-Jd (xs:=argTypes),hat]
   exact lK hR hE h
  cases h
 .rename_i o1 t x lo hi mx;unfold yW at h;split at h
  .rename_i ti v ht hv FI FD hmx;split at h
   .rename_i e hk;split at h
    .rename_i te he;split at h
     .rename_i hc;cases h;have e1:=vT hE FD;have e2:=vT hE hmx
      have e3:lo.map a.eval=some (.int .i64 0)\/lo.map a.eval=none:=by
       rcases Ez hE FI with h3|⟨h3,_⟩
       .exact .inl h3
       exact .inr h3
      have:=lb (P:=P) hR ht hk he hc (XD hE hv) _ e3;apply Da;simp only[QS,e1,e2];exact this
     cases h
    cases h
   cases h
  cases h
 cases h
def xL (P : Program) (f : FuncId) : Prop := ∃ fn, P.funcs[f]? = some fn ∧ (fn.name == "runtime.NumGoroutine") = false ∧ fn.body.isNone = false
def US(P:Program)(f:FuncId)(args:Vt)(st:St)(K:AV->St->Prop):Prop:=
 xL P f/\∀A m w VX,R A m w st->VL A m st.length w args VX->Calls P f VX w λe w' =>
  ∃v A' m' VO av,e=.returned v/\R A' m' w' VO/\Xs A m st.length w A' m' VO.length w'/\V A' m' VO.length w' av v/\K av VO
theorem US.mono{P f args st K K'}(h:US P f args st K)(hk:∀av VO,K av VO->K' av VO):US P f args st K':=⟨h.1,λA m w VX hR hv=>(h.2 A m w VX hR hv).mono λ_ _ ⟨v,A',m',VO,av,h1,h2,h3,h4,h5⟩=>⟨v,A',m',VO,av,h1,h2,h3,h4,hk _ _ h5⟩⟩
def KG(env:Ev):Op->Option (FuncId×Vt)
 |.call c =>
  match c.callee with
  |.value f =>
   match ev env f,DY env c.args.toList with
   |some (.fn (.func g) first Fu),some args=>some (g,first++args++Fu)
   |_,_=>none
  |_=>none
 |_=>none
def ZW:Op->Bool
 |.call c=>match c.callee with|.value _=>true|_=>false
 |_=>false
def ZQ(all:List Oper)(env:Ev)(o:Oper):Option Bool:=
 match o.guard with
 |none=>some true
 |some (j,V0)=>
  match(all[j]?).bind (·.dst)with
  |some d =>
   match look env d with
   |some (.lit (.bool b))=>some (b==V0)
   |some (.lit (.tuple _))=>some false
   |_=>none
  |none=>none
def aput(d:Option Tmp)(v:AV)(env:Ev):Ev:=
 match d with
 |some d=>(d,v)::env
 |none=>env
def F8(P:Program)(o:Oper)(env:Ev)(st:St)(K:Ev->St->Prop):Prop:=
 match ZW o.op with
 |true =>
  match KG env o.op with
  |some (g,args)=>US P g args st λav VO=>K (aput o.dst av env) VO
  |none=>False
 |false =>
  match Lh P env st o.op with
  |some (av,VO)=>K (aput o.dst av env) VO
  |none=>False
def OK(P:Program)(all:List Oper):List Oper->Ev->St->(Ev->St->Prop)->Prop
 |[],env,st,K=>K env st
 |o::Fi,env,st,K =>
  match ZQ all env o with
  |some true=>F8 P o env st (λenv st=>OK P all Fi env st K)
  |some false=>OK P all Fi (aput o.dst (.lit undef) env) st K
  |none=>False
theorem Wk{A m nb w n env a}(hE:Ly A m nb w n env a)(h:ZQ VS.toList env o=some b):Region.wanted o (yielded VS a.tmps)=b:=by
 unfold ZQ at h;unfold Region.wanted;split at h;.rename_i hg;cases h;simp[hg]
 rename_i j V0 hg;split at h
 .rename_i d hd
  have hd':(VS[j]?).bind (·.dst)=some d:=by simpa using hd
  simp only[hg,yielded,hd',Qa];split at h
  .rename_i q hl;cases h;obtain⟨h1,h2⟩:=hE.val d _ hl;have h3:=h2.lit_inv
   have h4:a.tmps[d]?=some (.bool q):=by
    rw[QU (by rw[hE.size];exact h1)];simp[Qi,hE.size,h1]at h3;rw[h3]
   rw[h4];simp
  .rename_i vs hl;cases h;obtain⟨h1,h2⟩:=hE.val d _ hl;have h3:=h2.lit_inv
   have h4:a.tmps[d]?=some (.tuple vs):=by
    rw[QU (by rw[hE.size];exact h1)];simp[Qi,hE.size,h1]at h3;rw[h3]
   rw[h4];simp
  cases h
 cases h
theorem Ly.aput{A m nb w n env a av v}{d:Option Tmp}(h:Ly A m nb w n env a)(hd:d.all (·<n)=true)(hv:V A m nb w av v):Ly A m nb w n (aput d av env) (a.put d v):=by
 cases d with
 |none=>exact h
 |some d=>exact h.put (by simpa using hd) hv
theorem VL.append{A m nb w cs ds}{a b:Array Value}(h:VL A m nb w cs a)(k:VL A m nb w ds b):VL A m nb w (cs++ds) (a++b):=by
 refine VL.of (by simp[h.1,k.1]) λq x hx=>?_;by_cases hq:q<cs.length
 .rw[Qs hq]at hx;have:=h.get hx
  rwa [show(a++b).getD q undef=a.getD q undef by simp[Qi,JJ (by rw[h.1];exact hq:q<a.size)]]
 rw[Qt YA]at hx;have:=k.get hx
 rwa [show(a++b).getD q undef=b.getD (q-cs.length) undef by simp[Qi,Array.getElem?_append_right (by rw[h.1];omega:a.size<=q),h.1]]
theorem eD(hc:xL P f)(args:Array Value)(w:World):(callFunc f args).run P w=.ok (.enter f args) w:=by
 obtain⟨fn,h1,h2,h3⟩:=hc
 have h2' : ¬ (fn.name = "runtime.NumGoroutine") := by simpa using h2
 have h3':¬(fn.body=none):=λh=>by rw[h]at h3;cases h3
 simp[callFunc,h1,h2',h3']
def KN(A:Nat->Prop)(m:BM)(nb:Nat)(w:World)(n:Nat)(K:Ev->St->Prop)(a':Act)(w':World):Prop:=∃A' m' VN VO,R A' m' w' VO/\Ly A' m' VO.length w' n VN a'/\Xs A m nb w A' m' VO.length w'/\K VN VO
theorem qk{A m w st n env a}(hR:R A m w st)(hE:Ly A m st.length w n env a)(hd:o.dst.all (·<n)=true)(h:F8 P o env st K)(hk:∀a' w',KN A m st.length w n K a' w'->Fw a' w'):o.wp P a w Fw Q:=by
 unfold F8 at h;unfold Oper.wp;split at h
 .rename_i hic;clear hic;split at h
  case h_2=>exact h.elim
  rename_i g args hc;have hs:=h;clear h;obtain⟨dst,op,ty,pos,after,guard⟩:=o;simp only at hc hd hs;unfold KG at hc;split at hc
  .rename_i c;split at hc
   .rename_i f hf;split at hc
    .rename_i g' first Fu V6 hfv hargs
     cases hc;have h1:=XD hE hfv;obtain⟨p,q,e,hp,hq⟩:=h1.fn_inv;have hargs':=Ps hE hargs;obtain⟨callee,cargs,cat⟩:=c;simp only at hf hargs hargs';subst hf
     have e2:(cargs.toList.map a.eval).toArray=cargs.map a.eval:=by apply Array.ext';simp
     rw[e2]at hargs'
     have hrun:(execOp a.eval { dst:=dst,op:=.call { callee:=.value f,args:=cargs,argTypes:=cat},type:=ty,pos:=pos,after:=after,guard:=guard}).run P w=.ok (.enter g (p++cargs.map a.eval++q)) w:=by
      have hce:=eD hs.1 (p++cargs.map a.eval++q) w;simp only[execOp,resolve,e,Deferred.ofValue,Sem.run_bind,Sem.run_pure,Result.andThen_ok,invoke];exact hce
     rw[hrun];simp only[Oper.upon];refine(hs.2 A m w _ hR ((hp.append hargs').append hq)).mono λe w' ⟨v,A',m',VO,av,h1,h2,h3,h4,h5⟩=>?_;subst h1;exact hk _ _ ⟨A',m',_,VO,h2,(hE.step hR h3).aput hd h4,h3,h5⟩
    cases hc
   cases hc
  cases hc
 split at h
 case h_2=>exact h.elim
 rename_i av VO ha;have hK:=h;obtain⟨nx,v,w',m',h1,h2,h3,h4,h5⟩:=bC hR hE ha;rw[h1];have hE':=(hE.step hR h4).aput hd h5
 rcases h2 with rfl|⟨rfl,rfl⟩
 .exact hk _ _ ⟨A,m',_,VO,h3,hE',h4,hK⟩
 exact hk _ _ ⟨A,m',_,VO,h3,hE',h4,hK⟩
theorem sk(hd:VS.toList.all (λo=>o.dst.all (·<n))=true):∀(Fi:List Oper) (i:Nat) (env:Ev) (st:St) (A:Nat->Prop) (m:BM) (w:World) (a:Act),VS.toList.drop i=Fi->R A m w st->Ly A m st.length w n env a->OK P VS.toList Fi env st K->(∀a' w',KN A m st.length w n K a' w'->Q .normal a' w')->wpOps P VS Q (List.range' i Fi.length) a w:=by
 intro Fi
 induction Fi with
 |nil =>
  intro i env st A m w a _ hR hE h hQ;simp only[Q6,List.range'_zero,wpOps];exact hQ _ _ ⟨A,m,env,st,hR,hE,Xs.refl _ _ _ _,h⟩
 |cons o Fi ih =>
  intro i env st A m w a hdrop hR hE h hQ
  have hi:VS[i]?=some o:=by
   have:VS.toList[i]?=some o:=by
    have h1:(VS.toList.drop i)[0]?=some o:=by rw[hdrop];rfl
    simpa using h1
   simpa using this
  have hdrop':VS.toList.drop (i+1)=Fi:=by
   have:=congrArg List.tail hdrop;simpa[List.tail_drop]using this
  have hdo:o.dst.all (·<n)=true:=by
   rw[Qr]at hd;exact hd o (Qc (by simpa using hi:VS.toList[i]?=some o))
  simp only[Qw,J6,wpOps,hi];unfold OK at h;split at h
  case h_3=>exact h.elim
  case h_2 hb =>
   have hw:=Wk hE hb;rw[hw];simp only[JE,YT];exact ih (i+1) _ st A m w _ hdrop' hR (hE.aput hdo (.imm (.lit _))) h hQ
  case h_1 hb =>
   have hw:=Wk hE hb;rw[hw];simp only[YQ];refine .inl (qk hR hE hdo h λa' w' ⟨A',m',VN,VO,h1,h2,h3,h4⟩=>?_);exact ih (i+1) VN VO A' m' w' a' hdrop' h1 h2 h4 λa2 w2 ⟨A2,m2,e2,s2,k1,k2,k3,k4⟩=>hQ _ _ ⟨A2,m2,e2,s2,k1,k2,h3.trans k3,k4⟩
def SW(P:Program)(n nb0:Nat)(c:Code)(Q:Exit->Ev->St->Prop)(env:Ev)(st:St):Prop:=∀A m w a,nb0<=st.length->R A m w st->Ly A m st.length w n env a->c.wp P (λe a' w'=>KN A m nb0 w n (Q e) a' w') a w
section
variable {Q:Exit->Ev->St->Prop}
theorem Xs.refl0(A:Nat->Prop)(m:BM)(nb:Nat)(w:World)(h:nb0<=nb):Xs A m nb0 w A m nb w:=(Xs.refl A m nb w).weak h
theorem SW.mono(h:SW P n nb0 c Q env st)(hq:∀e env st,Q e env st->Q' e env st):SW P n nb0 c Q' env st:=λA m w a h0 hR hE=>wp_mono (h A m w a h0 hR hE) λ_ _ _ ⟨A',m',e',s',h1,h2,h3,h4⟩=>⟨A',m',e',s',h1,h2,h3,hq _ _ _ h4⟩
theorem zc(h:Q .normal env st):SW P n nb0 .skip Q env st:=λA m _ _ h0 hR hE=>wp_skip ⟨A,m,env,st,hR,hE,Xs.refl0 _ _ _ _ h0,h⟩
theorem zr(h:Q (.exit id) env st):SW P n nb0 (.exit id) Q env st:=λA m _ _ h0 hR hE=>wp_exit ⟨A,m,env,st,hR,hE,Xs.refl0 _ _ _ _ h0,h⟩
theorem zA(h:Q .ret env st):SW P n nb0 .ret Q env st:=λA m _ _ h0 hR hE=>wp_ret ⟨A,m,env,st,hR,hE,Xs.refl0 _ _ _ _ h0,h⟩
def Ng(Fw:Ev->St->Prop)(Q:Exit->Ev->St->Prop):Exit->Ev->St->Prop
 |.normal,env,st=>Fw env st
 |e,env,st=>Q e env st
theorem KN.trans{A m nb w n K a' w'}{A1 m1 nb1 w1}(h:Xs A m nb w A1 m1 nb1 w1)(k:KN A1 m1 nb w1 n K a' w'):KN A m nb w n K a' w':=
 let ⟨A',m',e',s',k1,k2,k3,k4⟩:=k
 ⟨A',m',e',s',k1,k2,h.trans0 k3,k4⟩
theorem ze{x y:Code}(h:SW P n nb0 x (Ng (SW P n nb0 y Q) Q) env st):SW P n nb0 (.seq x y) Q env st:=by
 intro A m w a h0 hR hE;refine wp_seq (wp_mono (h A m w a h0 hR hE) λe a' w' ho=>?_);obtain⟨A',m',e',s',h1,h2,h3,h4⟩:=ho
 cases e with
 |normal=>exact wp_mono (h4 A' m' w' a' h3.nbLe h1 h2) λ_ _ _ k=>k.trans h3
 |exit id=>exact⟨A',m',e',s',h1,h2,h3,h4⟩
 |goto l=>exact⟨A',m',e',s',h1,h2,h3,h4⟩
 |ret=>exact⟨A',m',e',s',h1,h2,h3,h4⟩
 |panic c=>exact⟨A',m',e',s',h1,h2,h3,h4⟩
 |outgrown=>exact⟨A',m',e',s',h1,h2,h3,h4⟩
theorem UC{c:Operand}{x y:Code}(hc:ev env c=some (.lit (.bool b)))(ht:b=true->SW P n nb0 x Q env st)(hf:b=false->SW P n nb0 y Q env st):SW P n nb0 (.cond c x y) Q env st:=by intro A m w a h0 hR hE;have h1:=(XD hE hc).lit_inv;exact wp_cond_split h1 (λh=>ht h A m w a h0 hR hE) (λh=>hf h A m w a h0 hR hE)
def Bc(id:Nat)(Q:Exit->Ev->St->Prop):Exit->Ev->St->Prop
 |.exit id',env,st=>if id'=id then Q .normal env st else Q (.exit id') env st
 |e,env,st=>Q e env st
theorem zg(h:SW P n nb0 c (Bc id Q) env st):SW P n nb0 (.block id c) Q env st:=by
 intro A m w a h0 hR hE;refine wp_block (wp_mono (h A m w a h0 hR hE) λe a' w' ho=>?_);obtain⟨A',m',e',s',h1,h2,h3,h4⟩:=ho
 cases e with
 |exit id' =>
  simp only[Exit.inBlock];simp only[Bc]at h4;split;.rename_i hid;rw[YK hid]at h4;exact⟨A',m',e',s',h1,h2,h3,h4⟩
  .rename_i hid;rw[YM hid]at h4;exact⟨A',m',e',s',h1,h2,h3,h4⟩
 |normal=>exact⟨A',m',e',s',h1,h2,h3,h4⟩
 |goto l=>exact⟨A',m',e',s',h1,h2,h3,h4⟩
 |ret=>exact⟨A',m',e',s',h1,h2,h3,h4⟩
 |panic c=>exact⟨A',m',e',s',h1,h2,h3,h4⟩
 |outgrown=>exact⟨A',m',e',s',h1,h2,h3,h4⟩
theorem zGo(hd:VS.toList.all (λo=>o.dst.all (·<n))=true)(h:∀K:Ev->St->Prop,(∀env st,Q .normal env st->K env st)->OK P VS.toList VS.toList env st K):SW P n nb0 (.region id VS false) Q env st:=by
 intro A m w a h0 hR hE;refine wp_region ?_
 have:=sk (P:=P) (K:=Q .normal) (Q:=λe a' w'=>KN A m nb0 w n (Q e) a' w') hd VS.toList 0 env st A m w a YC hR hE (h _ λ_ _ h=>h)
  λ_ _ ⟨A',m',e',s',k1,k2,k3,k4⟩=>⟨A',m',e',s',k1,k2,k3.weak h0,k4⟩
 rwa [Yc,show VS.size=VS.toList.length by simp]
theorem zGH{Q:Exit->Act->World->Prop}(I:Nat->Act->World->Prop)(Fb:∀n a w,I n a w->c.wp P (Exit.then (λa' w'=>∃n',n'<n/\I n' a' w') Q) a w):∀n a w,I n a w->(Code.loop c).wp P Q a w:=by
 intro n a w h0 b k cs
 have key:∀n a w,I n a w->
   ∃e a' w',Q e a' w'/\Arrives P (lone (b.at a (.code c::.inLoop c::k)) cs w) b k cs e a' w':=by
  intro n
  induction n using Nat.strongRecOn with
  |_ n ih =>
   intro a w hI;obtain⟨e,a₁,w₁,hq,harr⟩:=Fb n a w hI b (.inLoop c::k) cs
   cases e with
   |normal =>
    obtain⟨n',hlt,hI₁⟩:=hq;obtain⟨e₂,a₂,w₂,hq₂,harr₂⟩:=ih n' hlt a₁ w₁ hI₁;exact⟨e₂,a₂,w₂,hq₂,.of_steps (Steps.trans harr (.one step_inLoop)) harr₂⟩
   |exit id=>exact⟨_,a₁,w₁,hq,.pass (x:=.inLoop c) rfl (λ_ _=>.inl YC) harr⟩
   |goto l=>exact⟨_,a₁,w₁,hq,.pass (x:=.inLoop c) rfl (λ_ _=>.inl YC) harr⟩
   |ret=>exact⟨_,a₁,w₁,hq,.pass (x:=.inLoop c) rfl (λ_ _=>.inl YC) harr⟩
   |panic ch=>exact⟨_,a₁,w₁,hq,.pass (x:=.inLoop c) rfl (λ_ _=>.inl YC) harr⟩
   |outgrown=>exact⟨_,a₁,w₁,hq,.pass (x:=.inLoop c) rfl (λ_ _=>.inl YC) harr⟩
 obtain⟨e,a',w',hq,harr⟩:=key n a w h0;exact⟨e,a',w',hq,.of_steps (.one step_loop) harr⟩
theorem d8(I:Nat->Ev->St->Prop)(k:Nat)(h0:I k env st)(Fb:∀k env st,I k env st->SW P n nb0 c (Ng (λenv st=>∃k',k'<k/\I k' env st) Q) env st):SW P n nb0 (.loop c) Q env st:=by
 intro A m w a hn hR hE;refine zGH (λk a' w'=>KN A m nb0 w n (I k) a' w') (λk a' w' ho=>?_) k a w ⟨A,m,env,st,hR,hE,Xs.refl0 _ _ _ _ hn,h0⟩;obtain⟨A',m',e',s',h1,h2,h3,h4⟩:=ho;refine wp_mono (Fb k e' s' h4 A' m' w' a' h3.nbLe h1 h2) λe a2 w2 ho2=>?_;have ho3:=ho2.trans h3
 cases e with
 |normal =>
  obtain⟨A2,m2,e2,s2,k1,k2,k3,k',k4,k5⟩:=ho3;exact⟨k',k4,A2,m2,e2,s2,k1,k2,k3,k5⟩
 |exit id=>exact ho3
 |goto l=>exact ho3
 |ret=>exact ho3
 |panic c=>exact ho3
 |outgrown=>exact ho3
end
def yX(P:Program)(env:Ev)(st:St):ResultVar->Option AV
 |.tmp t=>look env t
 |.cell a t=>match look env a,Xk P t with|some (.mpt l i j),some ti=>DV st ti (.mpt l i j)|_,_=>none
def Sw(P:Program)(env:Ev)(st:St):List ResultVar->Option (Vt)
 |[]=>some []
 |r::l=>match yX P env st r,Sw P env st l with|some v,some vs=>some (v::vs)|_,_=>none
def HZ(P:Program)(fn:Func)(env:Ev)(st:St):Option AV:=
 match Sw P env st fn.results.toList with
 |some [v]=>some v
 |some vs=>some (.tup vs)
 |none=>none
theorem oR(fn:Func)(tmps:Array Value)(P:Program)(w:World)(vs:List Value)
  (h:((fn.results.toList.mapM λr=>(match r with|.tmp t=>pure (tmps.getD t undef)|.cell a t=>do loadVar t (<-asAddr (tmps.getD a undef)):Sem Value)).run P w)=.ok vs w):
  (results fn tmps).run P w=.ok (if h:vs.length=1 then vs[0]else .tuple vs.toArray) w:=by
 have key:(fn.results.mapM λr=>(match r with|.tmp t=>pure (tmps.getD t undef)|.cell a t=>do loadVar t (<-asAddr (tmps.getD a undef)):Sem Value)).run P w=.ok vs.toArray w:=by
  rw[Yn];simp only[Sem.run_map,h,Result.andThen_ok]
 unfold results;simp only[Sem.run_bind,Sem.run_pure];refine Eq.trans (congrArg (λr=>Result.andThen r _) key) ?_;simp
theorem kI{P:Program}{A m w st n env a}(hR:R A m w st)(hE:Ly A m st.length w n env a):∀{rs:List ResultVar} {vs:Vt},Sw P env st rs=some vs->
  ∃us:List Value,(rs.mapM λr=>(match r with|.tmp t=>pure (a.tmps.getD t undef)|.cell p t=>do loadVar t (<-asAddr (a.tmps.getD p undef)):Sem Value)).run P w=.ok us w/\VL A m st.length w vs us.toArray
 |[],vs,h=>by cases h;exact⟨[],rfl,rfl,λi hi=>by cases hi⟩
 |r::rs,vs,h=>by
  simp only[Sw]at h;split at h
  .rename_i v vs' hv hvs;cases h;obtain⟨us,h1,h2⟩:=kI hR hE hvs
   have h3:∃u,((match r with|.tmp t=>pure (a.tmps.getD t undef)|.cell p t=>do loadVar t (<-asAddr (a.tmps.getD p undef)):Sem Value)).run P w=.ok u w/\V A m st.length w v u:=by
    cases r with
    |tmp t=>exact⟨_,rfl,(hE.val t v hv).2⟩
    |cell p t =>
     simp only[yX]at hv;split at hv
     .rename_i l i j ti hl ht;have h4:=(hE.val p _ hl).2;obtain⟨u,h5,h6⟩:=yQ hR ht h4 hv;refine⟨u,?_,h6⟩;unfold DV at hv
      cases hr:GV st (.mpt l i j)with
      |none=>rw[hr]at hv;cases hv
      |some rj =>
       obtain⟨B,o,e,_⟩:=ot (r:=rj.1) (j:=rj.2) hR hr h4;show(do loadVar t (<-asAddr (a.tmps.getD p undef)):Sem Value).run P w=.ok u w;rw[e]at h5 ⊢;simpa[Instr.loadAt,Instr.sureAddr,asAddr]using h5
     cases hv
   obtain⟨u,h4,h5⟩:=h3;refine⟨u::us,?_,by simpa using h2.1,λi hi=>?_⟩;.simp only[List.mapM_cons,Sem.run_bind,h4,Result.andThen_ok,h1,Sem.run_pure]
   cases i with
   |zero=>simpa using h5
   |succ i=>simpa using h2.2 i (by simpa using hi)
  cases h
theorem zCV{A m w st n env a fn av}(hR:R A m w st)(hE:Ly A m st.length w n env a)(h:HZ P fn env st=some av):∃v,(results fn a.tmps).run P w=.ok v w/\V A m st.length w av v:=by
 unfold HZ at h;split at h
 .rename_i v hv;cases h;obtain⟨us,h1,h2⟩:=kI hR hE hv
  have hl:us.length=1:=by simpa using h2.1
  obtain⟨u,rfl⟩:∃u,us=[u]:=by
   match us,hl with
   |[u],_=>exact⟨u,rfl⟩
  exact⟨_,oR fn a.tmps P w _ h1,by simpa using h2.2 0 YC⟩
 .rename_i vs hne hv;cases h;obtain⟨us,h1,h2⟩:=kI hR hE hv
  have hl:us.length=vs.length:=by simpa using h2.1
  refine⟨_,oR fn a.tmps P w _ h1,?_⟩;rw[dif_neg];.exact .tup _ _ h2.1 h2.2
  intro h3
  match vs,(hl▸h3:vs.length=1)with
  |[v],_=>exact hne v rfl
 cases h
def Df:Nat->Vt->Ev
 |_,[]=>[]
 |i,v::r=>(i,v)::Df (i+1) r
theorem bW:∀(l:Vt) (i t:Nat) (v:AV),look (Df i l) t=some v->i<=t/\l[t-i]?=some v
 |[],_,_,_,h=>by cases h
 |x::l,i,t,v,h=>by
  simp only[Df,look]at h;split at h;.rename_i e;subst e;cases h;simp
  rename_i e;obtain⟨h1,h2⟩:=bW l (i+1) t v h;refine⟨YA,?_⟩;rw[show t-i=(t-(i+1))+1 by omega];simpa using h2
theorem oc{fn : Func}{K : AV → St → Prop}(hf : P.funcs[f]? = some fn)(hb : fn.body = some c)(hn : (fn.name == "runtime.NumGoroutine") = false)(VR : args.length ≤ fn.ntmps)(h:SW P fn.ntmps st.length c (λe env st=>match e with|.normal|.ret=>∃av,HZ P fn env st=some av/\K av st|_=>False) (Df 0 args) st):US P f args st K:=by
 refine⟨⟨fn,hf,hn,by simp[hb]⟩,λA m w VX hR hv=>?_⟩;refine calls_of_wp hf hb ?_
 have hE:Ly A m st.length w fn.ntmps (Df 0 args) { tmps:=VX++Array.replicate (fn.ntmps-VX.size) undef,defers:=[]}:=by
  refine⟨by simp[hv.1];omega,λt v ht=>?_,rfl⟩;obtain⟨_,h1⟩:=bW args 0 t v ht;simp only[Nat.sub_zero]at h1;have h2:=hv.get h1;have hlt:t<args.length:=(Qb.1 h1).1;refine⟨YA,?_⟩
  rwa [show(VX++Array.replicate (fn.ntmps-VX.size) undef).getD t undef=VX.getD t undef by simp[Qi,JJ (by rw[hv.1];exact hlt:t<VX.size)]]
 refine wp_mono (h A m w _ (Qg _) hR hE) λe a' w' ho=>?_;obtain⟨A',m',VN,VO,h1,h2,h3,h4⟩:=ho
 have fin:(∃av,HZ P fn VN VO=some av/\K av VO)->a'.defers=[]/\∃v,(results fn a'.tmps).run P w'=.ok v w'/\∃v' A'' m'' st'' av,Ending.returned v=.returned v'/\R A'' m'' w' st''/\Xs A m st.length w A'' m'' st''.length w'/\V A'' m'' st''.length w' av v'/\K av st'':=λ⟨av,h5,h6⟩=>by
  obtain⟨v,h7,h8⟩:=zCV h1 h2 h5;exact⟨h2.defers,v,h7,v,A',m',VO,av,rfl,h1,h3,h8,h6⟩
 cases e with
 |normal=>exact fin h4
 |ret=>exact fin h4
 |exit id=>exact h4
 |goto l=>exact h4
 |panic c=>exact h4.elim
 |outgrown=>exact h4.elim
class F9(P:Program)(t:TypeId)(x:outParam TI):Prop where
 is:Xk P t=some x
theorem ti{t:TypeId}{x:TI}[k:F9 P t x]:Xk P t=some x:=k.is
instance:F9 prog 3 ⟨.int .i64,1,8,.int .i64 0⟩:=⟨by kernel_rfl⟩
instance:F9 prog 4 ⟨.bool,1,1,.bool false⟩:=⟨by kernel_rfl⟩
instance:F9 prog 5 ⟨.int .u8,1,1,.int .u8 0⟩:=⟨by kernel_rfl⟩
instance:F9 prog 9 ⟨.str,1,16,.string ⟨⟨[]⟩⟩⟩:=⟨by kernel_rfl⟩
instance:F9 prog 21 ⟨.int .i32,1,4,.int .i32 0⟩:=⟨by kernel_rfl⟩
instance:F9 prog 22 ⟨.slc 9,1,24,.slice none 0 0⟩:=⟨by kernel_rfl⟩
instance:F9 prog 23 ⟨.slc 42,1,24,.slice none 0 0⟩:=⟨by kernel_rfl⟩
instance:F9 prog 24 ⟨.slc 38,1,24,.slice none 0 0⟩:=⟨by kernel_rfl⟩
instance:F9 prog 26 ⟨.agg [(0,1),(1,1),(2,1),(3,1),(4,1),(5,1)],6,112,.agg #[(.string ⟨⟨[]⟩⟩),(.string ⟨⟨[]⟩⟩),(.bool false),(.slice none 0 0),(.slice none 0 0),(.slice none 0 0)]⟩:=⟨by kernel_rfl⟩
instance:F9 prog 31 ⟨.int .i64,1,8,.int .i64 0⟩:=⟨by kernel_rfl⟩
instance:F9 prog 34 ⟨.slc 40,1,24,.slice none 0 0⟩:=⟨by kernel_rfl⟩
instance:F9 prog 35 ⟨.slc 80,1,24,.slice none 0 0⟩:=⟨by kernel_rfl⟩
instance:F9 prog 36 ⟨.slc 88,1,24,.slice none 0 0⟩:=⟨by kernel_rfl⟩
instance:F9 prog 38 ⟨.agg [(0,1),(1,1),(2,1),(3,1),(4,1),(5,1),(6,1),(7,1),(8,1),(9,1)],10,152,.agg #[(.string ⟨⟨[]⟩⟩),(.slice none 0 0),(.string ⟨⟨[]⟩⟩),(.bool false),(.bool false),(.int .i64 0),(.int .i64 0),(.slice none 0 0),(.slice none 0 0),(.slice none 0 0)]⟩:=⟨by kernel_rfl⟩
instance:F9 prog 40 ⟨.agg [(0,1),(1,1),(2,1),(3,1)],4,48,.agg #[(.int .i64 0),(.int .i64 0),(.string ⟨⟨[]⟩⟩),(.string ⟨⟨[]⟩⟩)]⟩:=⟨by kernel_rfl⟩
instance:F9 prog 42 ⟨.agg [(0,1),(1,1),(2,1)],3,40,.agg #[(.string ⟨⟨[]⟩⟩),(.string ⟨⟨[]⟩⟩),(.bool false)]⟩:=⟨by kernel_rfl⟩
instance:F9 prog 45 ⟨.slc 3,1,24,.slice none 0 0⟩:=⟨by kernel_rfl⟩
instance:F9 prog 46 ⟨.slc 26,1,24,.slice none 0 0⟩:=⟨by kernel_rfl⟩
instance:F9 prog 48 ⟨.ptr 156,1,8,.pointer none⟩:=⟨by kernel_rfl⟩
instance:F9 prog 51 ⟨.ptr 163,1,8,.pointer none⟩:=⟨by kernel_rfl⟩
instance:F9 prog 59 ⟨.ptr 63,1,8,.pointer none⟩:=⟨by kernel_rfl⟩
instance:F9 prog 63 ⟨.agg [(0,1)],1,24,.agg #[(.slice none 0 0)]⟩:=⟨by kernel_rfl⟩
instance:F9 prog 67 ⟨.agg [(0,1),(1,1)],2,8,.agg #[(.bool false),(.int .i32 0)]⟩:=⟨by kernel_rfl⟩
instance:F9 prog 80 ⟨.agg [(0,1),(1,1),(2,1)],3,56,.agg #[(.int .i64 0),(.slice none 0 0),(.slice none 0 0)]⟩:=⟨by kernel_rfl⟩
instance:F9 prog 84 ⟨.agg [(0,1),(1,1)],2,32,.agg #[(.string ⟨⟨[]⟩⟩),(.string ⟨⟨[]⟩⟩)]⟩:=⟨by kernel_rfl⟩
instance:F9 prog 88 ⟨.agg [(0,1),(1,1),(2,1),(3,1)],4,40,.agg #[(.int .i64 0),(.int .i64 0),(.int .i64 0),(.string ⟨⟨[]⟩⟩)]⟩:=⟨by kernel_rfl⟩
instance:F9 prog 91 ⟨.slc 21,1,24,.slice none 0 0⟩:=⟨by kernel_rfl⟩
instance:F9 prog 93 ⟨.agg [(0,1),(1,2),(3,1),(4,1)],5,88,.agg #[(.slice none 0 0),(.string ⟨⟨[]⟩⟩),(.string ⟨⟨[]⟩⟩),(.slice none 0 0),(.int .i64 0)]⟩:=⟨by kernel_rfl⟩
instance:F9 prog 97 ⟨.ptr 179,1,8,.pointer none⟩:=⟨by kernel_rfl⟩
instance:F9 prog 108 ⟨.slc 4,1,24,.slice none 0 0⟩:=⟨by kernel_rfl⟩
instance:F9 prog 113 ⟨.slc 121,1,24,.slice none 0 0⟩:=⟨by kernel_rfl⟩
instance:F9 prog 114 ⟨.slc 123,1,24,.slice none 0 0⟩:=⟨by kernel_rfl⟩
instance:F9 prog 116 ⟨.agg [(0,1),(1,1),(2,1),(3,1),(4,1),(5,1)],6,80,.agg #[(.int .i64 0),(.int .i64 0),(.int .i64 0),(.bool false),(.slice none 0 0),(.slice none 0 0)]⟩:=⟨by kernel_rfl⟩
instance:F9 prog 121 ⟨.agg [(0,1),(1,1),(2,1),(3,1)],4,32,.agg #[(.int .i64 0),(.int .i64 0),(.int .i64 0),(.int .i64 0)]⟩:=⟨by kernel_rfl⟩
instance:F9 prog 123 ⟨.agg [(0,1),(1,1),(2,1),(3,1)],4,32,.agg #[(.int .i64 0),(.int .i64 0),(.int .i64 0),(.int .i64 0)]⟩:=⟨by kernel_rfl⟩
instance:F9 prog 154 ⟨.other,1,8,.map none⟩:=⟨by kernel_rfl⟩
instance:F9 prog 156 ⟨.agg [(0,1),(1,1)],2,32,.agg #[(.slice none 0 0),(.map none)]⟩:=⟨by kernel_rfl⟩
instance:F9 prog 160 ⟨.other,1,8,.nilFunc⟩:=⟨by kernel_rfl⟩
instance:F9 prog 161 ⟨.other,1,8,.map none⟩:=⟨by kernel_rfl⟩
instance:F9 prog 163 ⟨.agg [(0,1),(1,1),(2,1),(3,1)],4,48,.agg #[(.pointer none),(.map none),(.map none),(.slice none 0 0)]⟩:=⟨by kernel_rfl⟩
instance:F9 prog 179 ⟨.agg [(0,1),(1,1),(2,1),(3,1)],4,80,.agg #[(.pointer none),(.slice none 0 0),(.slice none 0 0),(.slice none 0 0)]⟩:=⟨by kernel_rfl⟩
instance:F9 prog 182 ⟨.other,1,8,.nilFunc⟩:=⟨by kernel_rfl⟩
instance:F9 prog 193 ⟨.agg [(0,1),(1,1),(2,1)],3,24,.agg #[(.pointer none),(.pointer none),(.pointer none)]⟩:=⟨by kernel_rfl⟩
instance:F9 prog 198 ⟨.other,1,8,.nilFunc⟩:=⟨by kernel_rfl⟩
instance:F9 prog 201 ⟨.other,1,8,.nilFunc⟩:=⟨by kernel_rfl⟩
instance:F9 prog 227 ⟨.agg [(0,1),(1,1),(2,10),(12,1),(13,1),(14,1)],15,232,.agg #[(.pointer none),(.string ⟨⟨[]⟩⟩),(.string ⟨⟨[]⟩⟩),(.slice none 0 0),(.string ⟨⟨[]⟩⟩),(.bool false),(.bool false),(.int .i64 0),(.int .i64 0),(.slice none 0 0),(.slice none 0 0),(.slice none 0 0),(.slice none 0 0),(.slice none 0 0),(.bool false)]⟩:=⟨by kernel_rfl⟩
instance:F9 prog 233 ⟨.agg [(0,1),(1,1)],2,48,.agg #[(.slice none 0 0),(.slice none 0 0)]⟩:=⟨by kernel_rfl⟩
instance:F9 prog 235 ⟨.agg [(0,1),(1,1),(2,10),(12,2),(14,1)],15,232,.agg #[(.pointer none),(.string ⟨⟨[]⟩⟩),(.string ⟨⟨[]⟩⟩),(.slice none 0 0),(.string ⟨⟨[]⟩⟩),(.bool false),(.bool false),(.int .i64 0),(.int .i64 0),(.slice none 0 0),(.slice none 0 0),(.slice none 0 0),(.slice none 0 0),(.slice none 0 0),(.bool false)]⟩:=⟨by kernel_rfl⟩
instance:F9 prog 268 ⟨.ptr 80,1,8,.pointer none⟩:=⟨by kernel_rfl⟩
def GR(all:List Oper)(j:Nat)(env:Ev):Option AV:=((all[j]?).bind (·.dst)).bind (look env)
def low(A:Nat->Prop)(w:World):Prop:=∀B,A B->B<w.heap.size
def dX(A:Nat->Prop)(w w':World):Nat->Prop:=λB=>A B\/(w.heap.size<=B/\B<w'.heap.size)
def Xn(P:Program)(f:FuncId)(args:Vt)(FH:AV):Prop:=xL P f/\∀A w VX,low A w->Nt A w args VX->Calls P f VX w λe w'=>∃v,e=.returned v/\Zb w w'/\VI (dX A w w') w' FH v
abbrev VD:=Xn prog
inductive LI:AV->Prop
 |any:LI .any
 |lit (v:_):LI (.lit v)
 |isl (k els:_):LI (.isl k els)
 |ipt (k els i j:_):LI (.ipt k els i j)
 |imp (els:_):LI (.imp els)
 |agg (cs:_) (h:∀x∈cs,LI x):LI (.agg cs)
 |tup (cs:_) (h:∀x∈cs,LI x):LI (.tup cs)
 |fn (f cs ds:_) (h:∀x∈cs,LI x) (h':∀x∈ds,LI x):LI (.fn f cs ds)
theorem LI.vi{A m nb w av v}(hi:LI av)(h:V A m nb w av v):VI A w av v:=by
 induction hi generalizing v with
 |any=>exact .any v
 |lit x=>rw[h.lit_inv];exact .lit _
 |isl k els=>exact h.isl_inv
 |ipt k els i j=>exact h.ipt_inv
 |imp els=>exact h.imp_inv
 |agg cs _ ih =>
  obtain⟨a,rfl,h1,h2⟩:=h.agg_inv;exact .agg _ _ h1 λi hi=>ih _ (Qj hi) (h2 i hi)
 |tup cs _ ih =>
  obtain⟨a,rfl,h1,h2⟩:=h.tup_inv;exact .tup _ _ h1 λi hi=>ih _ (Qj hi) (h2 i hi)
 |fn f cs ds _ _ ih ih' =>
  obtain⟨a,b,rfl,⟨h1,h2⟩,⟨h3,h4⟩⟩:=h.fn_inv;exact .fn _ _ _ _ _ h1 (λi hi=>ih _ (Qj hi) (h2 i hi)) h3 (λi hi=>ih' _ (Qj hi) (h4 i hi))
inductive Zy(st:St):AV->AV->Prop
 |imm {x:_} (h:LI x):Zy st x x
 |nil {k:Nat}:Zy st (.lit (.slice none 0 0)) (.isl k [])
 |msl {l i n k:Nat} {els VM:List (Vt)} (h:st[l]?=some (some (k,els))) (Fm:i+n<=els.length) (hl:VM.length=n)
   (Fp:∀q (h:q<n) (h1:i+q<els.length) (h2:q<VM.length),els[i+q].length=VM[q].length)
   (hr:∀q (h:q<n) (h1:i+q<els.length) (h2:q<VM.length) j (h3:j<els[i+q].length) (h4:j<VM[q].length),Zy st els[i+q][j] VM[q][j]):
   Zy st (.msl l i n) (.isl k VM)
 |mpt {l i j k:Nat} {els VM:List (Vt)} (h:st[l]?=some (some (k,els))) (hl:VM.length=els.length)
   (Fp:∀q (h1:q<els.length) (h2:q<VM.length),els[q].length=VM[q].length)
   (hr:∀q (h1:q<els.length) (h2:q<VM.length) j (h3:j<els[q].length) (h4:j<VM[q].length),Zy st els[q][j] VM[q][j]):
   Zy st (.mpt l i j) (.ipt k VM i j)
 |mmp {l:Nat} {els VM:List (Vt)} (h:st[l]?=some (some (2,els))) (hl:VM.length=els.length)
   (Fp:∀q (h1:q<els.length) (h2:q<VM.length),els[q].length=VM[q].length)
   (hr:∀q (h1:q<els.length) (h2:q<VM.length) j (h3:j<els[q].length) (h4:j<VM[q].length),Zy st els[q][j] VM[q][j]):
   Zy st (.mmp l) (.imp VM)
 |agg {cs V2:Vt} (hl:cs.length=V2.length) (hr:∀i (h:i<cs.length) (h':i<V2.length),Zy st cs[i] V2[i]):Zy st (.agg cs) (.agg V2)
 |tup {cs V2:Vt} (hl:cs.length=V2.length) (hr:∀i (h:i<cs.length) (h':i<V2.length),Zy st cs[i] V2[i]):Zy st (.tup cs) (.tup V2)
 |fn {f:Fn} {cs V2 ds FN:Vt} (hl:cs.length=V2.length) (hr:∀i (h:i<cs.length) (h':i<V2.length),Zy st cs[i] V2[i])
   (FU:ds.length=FN.length) (hr':∀i (h:i<ds.length) (h':i<FN.length),Zy st ds[i] FN[i]):Zy st (.fn f cs ds) (.fn f V2 FN)
theorem VI.widen{A A' w av v}(h:VI A w av v)(hA:∀B,A B->A' B):VI A' w av v:=h.mono hA λ_ _=>rfl
theorem Zy.vi{A D:Nat->Prop}{m:BM}{w:World}{st:St}(hR:R A m w st)(hA':∀B,A B->D B)(hown:∀l b,m l=some b->b.has=true->D b.B){av av':AV}(hs:Zy st av av'):∀{v},V A m st.length w av v->VI D w av' v:=by
 induction hs with
 |imm h=>exact λ{v} hv=>(h.vi hv).widen hA'
 |nil=>intro v hv;rw[hv.lit_inv];exact .inil _ _ _
 |@msl l i n k els VM h Fm hl Fp hr ih =>
  intro v hv;obtain⟨hlt,a,n',cap,rfl,hb⟩:=hv.msl_inv;obtain⟨b,h1,h2,h3,h4⟩:=hR.blk l k els h;obtain⟨rfl,h5,h6⟩:=hb b h1
  rcases h6 with rfl|⟨h6,hm6,rfl,h7⟩
  .have hn0:n'=0:=by omega
   have:VM=[]:=Qf YA;subst this;rw[hn0];exact .inil _ _ _
  .have VW:=(h3 h6).cells hm6;subst h2
   have hcell:∀q j,q<VM.length->j<b.k->∃u,w.cell? ⟨b.B,b.o+i*b.k+q*b.k+j,none⟩=some u/\∀(h4:q<VM.length) (h5:j<VM[q].length),VI D w VM[q][j] u:=λq j hq hj=>by
    have hq1:i+q<els.length:=YA
    have hj1:j<els[i+q].length:=by rw[VW.wide _ hq1];exact hj
    obtain⟨u,h8,h9⟩:=VW.val (i+q) hq1 j hj1;refine⟨u,by rw[<-h8];congr 2;rw[QV];omega,λh10 h11=>?_⟩;exact ih q YA hq1 h10 j hj1 h11 h9
   have hw':∀q (hq:q<VM.length),VM[q].length=b.k:=λq hq=>by
    rw[<-Fp q YA YA hq];exact VW.wide _ YA
   have:=VI.isl (A:=D) (w:=w) b.k VM b.B (b.o+i*b.k) cap (λq j=>(w.cell? ⟨b.B,b.o+i*b.k+q*b.k+j,none⟩).getD undef) (hown l b h1 h6) YA hw'
    (λq j hq hj=>by obtain⟨u,h8,_⟩:=hcell q j hq hj;rw[h8];rfl)
    (λq hq j hj=>by
     obtain⟨u,h8,h9⟩:=hcell q j hq (by rw[<-hw' q hq];exact hj);show VI _ w _ ((w.cell? _).getD undef)
     rw[h8];exact h9 hq hj)
   rw[hl]at this;exact this
 |@mpt l i j k els VM h hl Fp hr ih =>
  intro v hv;obtain⟨hlt,a,rfl,hb⟩:=hv.mpt_inv;obtain⟨b,h1,h2,h3,h4⟩:=hR.blk l k els h;obtain⟨h6,hm6,rfl⟩:=hb b h1;have VW:=(h3 h6).cells hm6;subst h2
  have hcell:∀q j,q<VM.length->j<b.k->∃u,w.cell? ⟨b.B,b.o+q*b.k+j,none⟩=some u/\∀(h4:q<VM.length) (h5:j<VM[q].length),VI D w VM[q][j] u:=λq j hq hj=>by
   have hq1:q<els.length:=YA
   have hj1:j<els[q].length:=by rw[VW.wide _ hq1];exact hj
   obtain⟨u,h8,h9⟩:=VW.val q hq1 j hj1;exact⟨u,h8,λh10 h11=>ih q hq1 h10 j hj1 h11 h9⟩
  have hw':∀q (hq:q<VM.length),VM[q].length=b.k:=λq hq=>by
   rw[<-Fp q YA hq];exact VW.wide _ YA
  exact VI.ipt (A:=D) (w:=w) b.k VM i j b.B b.o (λq j=>(w.cell? ⟨b.B,b.o+q*b.k+j,none⟩).getD undef) (hown l b h1 h6) hw'
   (λq j hq hj=>by obtain⟨u,h8,_⟩:=hcell q j hq hj;rw[h8];rfl)
   (λq hq j hj=>by
    obtain⟨u,h8,h9⟩:=hcell q j hq (by rw[<-hw' q hq];exact hj);show VI _ w _ ((w.cell? _).getD undef)
    rw[h8];exact h9 hq hj)
 |@mmp l els VM h hl Fp hr ih =>
  intro v hv;obtain⟨hlt,a,rfl,hb⟩:=hv.mmp_inv;obtain⟨b,h1,h2,h3,h4⟩:=hR.blk l 2 els h;obtain⟨h6,hm6,rfl⟩:=hb b h1;obtain⟨h0,es,clock,h7,h8,h9⟩:=(h3 h6).mval hm6;have hw:=(h3 h6).wide
  exact .imp VM b.B es clock (hown l b h1 h6) h7 YA (λq hq=>by rw[<-Fp q YA hq,hw q YA,h0])
   (λq hq j hj=>ih q YA hq j (by rw[Fp q YA hq];exact hj) hj (h9 q YA j (by rw[Fp q YA hq];exact hj)))
 |agg hl hr ih =>
  intro v hv;obtain⟨a,rfl,h1,h2⟩:=hv.agg_inv;exact .agg _ _ YA λi hi=>ih i YA hi (h2 i YA)
 |tup hl hr ih =>
  intro v hv;obtain⟨a,rfl,h1,h2⟩:=hv.tup_inv;exact .tup _ _ YA λi hi=>ih i YA hi (h2 i YA)
 |fn hl hr FU hr' ih ih' =>
  intro v hv;obtain⟨a,b,rfl,⟨h1,h2⟩,⟨h3,h4⟩⟩:=hv.fn_inv;exact .fn _ _ _ _ _ YA (λi hi=>ih i YA hi (h2 i YA)) YA λi hi=>ih' i YA hi (h4 i YA)
variable {FH:AV}{K:AV->St->Prop}{l:Vt}
inductive DP:Vt->Prop
 |nil:DP []
 |cons {x l:_} (h:LI x) (t:DP l):DP (x::l)
theorem DP.get(h:DP l):∀i (hi:i<l.length),LI l[i]:=by
 induction h with
 |nil=>exact λi hi=>by cases hi
 |cons h _ ih=>exact λi hi=>by cases i with
  |zero=>exact h
  |succ i=>exact ih i (by simpa using hi)
inductive OP(st:St):Vt->Vt->Prop
 |nil:OP st [] []
 |cons {x y l r:_} (h:Zy st x y) (t:OP st l r):OP st (x::l) (y::r)
theorem OP.get{r:Vt}(h:OP st l r):l.length=r.length/\∀i (hi:i<l.length) (VZ:i<r.length),Zy st l[i] r[i]:=by
 induction h with
 |nil=>exact⟨rfl,λi hi=>by cases hi⟩
 |cons h _ ih =>
  refine⟨by simp[ih.1],λi hi VZ=>?_⟩
  cases i with
  |zero=>exact h
  |succ i=>exact ih.2 i (by simpa using hi) (by simpa using VZ)
theorem ob(h:Xn P f args FH)(hi:DP args)(hk:K FH st):US P f args st K:=by refine⟨h.1,λA m w VX hR hv=>(h.2 A w VX hR.aLow ⟨hv.1,λi VZ=>(hi.get i VZ).vi (hv.2 i VZ)⟩).mono λe w' ⟨v,he,hg,hvi⟩=>?_⟩;obtain⟨h1,h2⟩:=hR.grow (A':=dX A w w') hg (λB hB=>.inl hB) (λB hB=>hB);exact⟨v,_,m,st,FH,he,h1,h2,.imm hvi,hk⟩
theorem yN(h:US P f args [] λav st=>Zy st av FH):Xn P f args FH:=by
 refine⟨h.1,λA w VX hA hv=>?_⟩;have hR:R A (λ_=>none) w []:=⟨hA,(λ_ _ _ _ h=>(by cases h)),(λ_ _ _ _ h=>(by cases h)),(λ_ _ h=>(by cases h)),(λ_ _ _ h=>(by simp at h))⟩;refine(h.2 A (λ_=>none) w VX hR ⟨hv.1,λi hi=>.imm (hv.2 i hi)⟩).mono λe w' ⟨v,A',m',VO,av,he,hR',hS,Fg,hs⟩=>?_;have hg:Zb w w':=⟨hS.size,(λB hB=>hS.heap B hB (λl b hb=>(by cases hb))),hS.os,hS.tape,hS.output⟩;refine⟨v,he,hg,?_⟩
 exact hs.vi hR' (λB hB=>(hS.aNew B hB).imp id λh=>⟨h.elim id λ⟨_,_,h,_⟩=>(by cases h),hR'.aLow B hB⟩) (λl b hb hh=>by
  rcases hS.mNew l b hb hh with h1|⟨_,_,h1,_⟩
  .exact .inr ⟨h1,hR'.low hb hh⟩
  cases h1) Fg

end
end Go.Proofs.YthmnlfenkhmmhaaGreat
