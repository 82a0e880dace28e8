/- StateAll: for every input the law returns true, and each argument reads as it read before. No further condition. Part 6 of 8. -/
import Derived.Test.YthmnlfenkhmmhaaGreatSi5
namespace Go.Proofs.YthmnlfenkhmmhaaGreat
set_option linter.unusedSimpArgs false
set_option linter.unusedVariables false
set_option maxRecDepth 100000
set_option maxHeartbeats 4000000
noncomputable def zpa (v7:(List za)×(List (List UInt8×Int))×(List (List UInt8×Int))×(List (List UInt8×ze))×(List (List UInt8))) (v8:zE) (v109:(List (List UInt8×Int))) (v110:(List (List UInt8×ze))) (v111:(List Int)) (e:(List (List ze))) (v120:List (List UInt8)):Option Bool :=
  (zeM ((zj v7.1 v7.2.1 v109 v110 v7.2.2.2.2).1) ((zj v7.1 v7.2.1 v109 v110 v7.2.2.2.2).2.1) ((zj v7.1 v7.2.1 v109 v110 v7.2.2.2.2).2.2.1) ((zj v7.1 v7.2.1 v109 v110 v7.2.2.2.2).2.2.2.1) v120 v8.L v111 e).bind fun v121=>some v121
noncomputable def zie (v7:(List za)×(List (List UInt8×Int))×(List (List UInt8×Int))×(List (List UInt8×ze))×(List (List UInt8))) (v8:zE) (v110:(List (List UInt8×ze))) (v116:(List (List UInt8×Int))) (v117:List (List UInt8)) (v118:Int):Option (Sum ((List (List UInt8×Int))×(List (List UInt8))×Int) (Sum (List (List UInt8)) Bool)) :=
  cond (decide (v118 < (List.length v8.L:Int))) ((idx v8.L v118).bind fun v119=>some (.inl ((zd v7.1 v7.2.1 v116 v110 v117 v119.Name 1),v117,(IntKind.i64.wrap (v118+1))))) (some (.inr (.inl v117)))
noncomputable def zo9 (v7:(List za)×(List (List UInt8×Int))×(List (List UInt8×Int))×(List (List UInt8×ze))×(List (List UInt8))) (v8:zE) (v109:(List (List UInt8×Int))) (v110:(List (List UInt8×ze))) (v111:(List Int)) (e:(List (List ze))):Option Bool :=
  (zu (fun z=>zie v7 v8 v110 z.1 z.2.1 z.2.2) (v109,(zj v7.1 v7.2.1 v109 v110 v7.2.2.2.2).2.2.2.2,0)).bind fun o=>zQ o (fun b=>zpa v7 v8 v109 v110 v111 e b) some
noncomputable def zja (v83:Int) (v106:(List (List UInt8×Int))) (v107:(List (List UInt8×ze))) (v108:(List Int)) (e:(List (List ze))):Option (Sum ((List (List UInt8×Int))×(List (List UInt8×ze))×(List Int)×(List (List ze))×Int) (Sum ((List (List UInt8×Int))×(List (List UInt8×ze))×(List Int)×(List (List ze))) Bool)) :=
  some (.inl (v106,v107,v108,e,(IntKind.i64.wrap (v83+1))))
noncomputable def zid (v7:(List za)×(List (List UInt8×Int))×(List (List UInt8×Int))×(List (List UInt8×ze))×(List (List UInt8))) (v8:zE) (v83:Int) (v102:(List (List UInt8×Int))) (v103:(List (List UInt8×ze))) (v104:(List Int)) (e:(List (List ze))):Option (Sum ((List (List UInt8×Int))×(List (List UInt8×ze))×(List Int)×(List (List ze))×Int) (Sum ((List (List UInt8×Int))×(List (List UInt8×ze))×(List Int)×(List (List ze))) Bool)) :=
  (zeM v7.1 v7.2.1 v102 v103 v7.2.2.2.2 v8.L v104 e).bind fun v105=>cond (!v105) (some (.inr (.inr false))) (zja v83 v102 v103 v104 e)
noncomputable def zjb (v8:zE) (jj:Int) (rw:List ze) (m:Int) (kk:Int):Option (Sum ((List ze)×Int×Int) (Sum ((List ze)×Int) Bool)) :=
  cond (decide (kk < ((List.length rw):Int))) ((idx v8.L jj).bind fun cl=>(idx cl.Fields kk).bind fun fl=>(idx rw kk).bind fun x=>cond (fl.Static&&x.Ref) (some (.inl ((List.set rw (Int.toNat kk) (ze.mk x.Ref (IntKind.i32.wrap (IntKind.i64.wrap (6+m))))),(IntKind.i64.wrap (m+1)),(IntKind.i64.wrap (kk+1))))) (some (.inl (rw,m,(IntKind.i64.wrap (kk+1)))))) (some (.inr (.inl (rw,m))))
noncomputable def zmw (v8:zE) (e:(List (List ze))) (nn:Int) (jj:Int):Option (Sum ((List (List ze))×Int×Int) (Sum (List (List ze)) Bool)) :=
  cond (decide (jj < (List.length v8.L:Int))) ((idx e jj).bind fun row=>(zu (fun z=>zjb v8 jj z.1 z.2.1 z.2.2) (row,nn,0)).bind fun o=>zQ o (fun b=>some (.inl (List.set e (Int.toNat jj) b.1,b.2,(IntKind.i64.wrap (jj+1))))) (fun r=>some (.inr (.inr r)))) (some (.inr (.inl e)))
noncomputable def zo8 (v7:(List za)×(List (List UInt8×Int))×(List (List UInt8×Int))×(List (List UInt8×ze))×(List (List UInt8))) (v8:zE) (v80:(List (List UInt8×Int))) (v81:(List (List UInt8×ze))) (v82:(List Int)) (e:(List (List ze))) (v83:Int) (v100:List Int):Option (Sum ((List (List UInt8×Int))×(List (List UInt8×ze))×(List Int)×(List (List ze))×Int) (Sum ((List (List UInt8×Int))×(List (List UInt8×ze))×(List Int)×(List (List ze))) Bool)) :=
  (zb1 v7.1 v7.2.1 v80 v81 v7.2.2.2.2 v100).bind fun v101=>(zu (fun z=>zmw v8 z.1 z.2.1 z.2.2) (e,0,0)).bind fun o=>zQ o (fun e'=>zid v7 v8 v83 v80 v101 v82 e') (fun r=>some (.inr (.inr r)))
noncomputable def zjc (v97:List Int) (v98:Int):Option (Sum ((List Int)×Int) (Sum ((List Int)) (Bool))) :=
  cond (decide (v98 < ((List.length v97):Int))) ((idx v97 v98).bind fun v99=>some (.inl ((List.set v97 (Int.toNat v98) (IntKind.i64.wrap (5+v98))),(IntKind.i64.wrap (v98+1))))) (some (.inr (.inl v97)))
noncomputable def zjQ (v2:List zfs) (v7:(List za)×(List (List UInt8×Int))×(List (List UInt8×Int))×(List (List UInt8×ze))×(List (List UInt8))) (v8:zE) (v80:(List (List UInt8×Int))) (v81:(List (List UInt8×ze))) (v82:(List Int)) (e:(List (List ze))) (v83:Int):Option (Sum ((List (List UInt8×Int))×(List (List UInt8×ze))×(List Int)×(List (List ze))×Int) (Sum ((List (List UInt8×Int))×(List (List UInt8×ze))×(List Int)×(List (List ze))) Bool)) :=
  cond ((decide (v83 < (List.length v2:Int)))&&(decide (v83 < 30))) ((idx v2 v83).bind fun v84=>(zgg [v84.V]).bind fun v85=>cond (!v85) (zja v83 v80 v81 v82 e) ((zsD v84.C (List.length v8.L:Int)).bind fun v86=>(zsD (IntKind.i64.wrap (v86+(List.length v8.L:Int))) (List.length v8.L:Int)).bind fun v87=>(idx v8.L v87).bind fun v88=>cond (v84.Kind == (0:Int)) (cond ((decide (0≤v84.At))&&(decide (v84.At≤3))) ((idx v82 v87).bind fun v89=>zid v7 v8 v83 (zd v7.1 v7.2.1 v80 v81 v7.2.2.2.2 v88.Name v84.At) v81 (List.set v82 (Int.toNat v87) v84.At) e) (zid v7 v8 v83 (zd v7.1 v7.2.1 v80 v81 v7.2.2.2.2 v88.Name v84.At) v81 v82 e)) (cond (v84.Kind == (1:Int)) ((idx e v87).bind fun row=>cond (((List.length row):Int) == (0:Int)) (zja v83 v80 v81 v82 e) ((zsD v84.F (List.length row:Int)).bind fun x1=>(zsD (IntKind.i64.wrap (x1+(List.length row:Int))) (List.length row:Int)).bind fun kk=>(idx v8.L v87).bind fun v90=>(idx v90.Fields kk).bind fun v91=>(zbE v7.1 v7.2.1 v80 v81 v7.2.2.2.2 v88.Name v91.Name v84.V).bind fun v92=>cond (!(v92.1 == (v91.Static&&(v84.V.Ref == (!(v91.Type_ == [73])))))) (some (.inr (.inr false))) (cond (v91.Static&&(v84.V.Ref == (!(v91.Type_ == [73])))) ((idx row kk).bind fun _=>zid v7 v8 v83 v80 v92.2 v82 (List.set e (Int.toNat v87) (List.set row (Int.toNat kk) v84.V))) (zid v7 v8 v83 v80 v92.2 v82 e)))) ((zcQ v7.1 v7.2.1 v80 v81 v7.2.2.2.2).bind fun v93=>(zu (fun z=>zjc z.1 z.2) (v93,0)).bind fun o=>zQ o (fun b=>zo8 v7 v8 v80 v81 v82 e v83 b) (fun r=>some (.inr (.inr r))))))) (some (.inr (.inl (v80,v81,v82,e))))
noncomputable def zsH (v2:List zfs) (v7:(List za)×(List (List UInt8×Int))×(List (List UInt8×Int))×(List (List UInt8×ze))×(List (List UInt8))) (v8:zE) (v49:(List Int)) (e:(List (List ze))):Option Bool :=
  (zu (fun z=>zjQ v2 v7 v8 z.1 z.2.1 z.2.2.1 z.2.2.2.1 z.2.2.2.2) (v7.2.2.1,v7.2.2.2.1,v49,e,0)).bind fun o=>zQ o (fun b=>zo9 v7 v8 b.1 b.2.1 b.2.2.1 b.2.2.2) some
noncomputable def zsG (e:(List (List ze))) (v32:Int) (v34:(List Int)) (v47:List ze):Option (Sum ((List Int)×(List (List ze))×Int) (Sum ((List Int)×(List (List ze))) Bool)) :=
  (zhp 24 e [v47]).bind fun e'=>some (.inl (v34,e',(IntKind.i64.wrap (v32+1))))
noncomputable def zmu (v8:zE) (v32:Int) (v41:List ze) (v42:Int):Option (Sum ((List ze)×Int) (Sum (List ze) (Bool))) :=
  (idx v8.L v32).bind fun v43=>cond (decide (v42 < (List.length v43.Fields:Int))) ((idx v8.L v32).bind fun v44=>(idx v44.Fields v42).bind fun v45=>(zhp 8 v41 ([(ze.mk (!(v45.Type_ == [73])) 0)])).bind fun v46=>some (.inl (v46,(IntKind.i64.wrap (v42+1))))) (some (.inr (.inl v41)))
noncomputable def zot (v8:zE) (e:(List (List ze))) (v32:Int) (v34:(List Int)):Option (Sum ((List Int)×(List (List ze))×Int) (Sum ((List Int)×(List (List ze))) Bool)) :=
  (zu (fun z=>zmu v8 v32 z.1 z.2) ([],0)).bind fun o=>zQ o (fun b=>zsG e v32 v34 b) (fun r=>some (.inr (.inr r)))
noncomputable def zmv (v8:zE) (v30:(List Int)) (e:(List (List ze))) (v32:Int):Option (Sum ((List Int)×(List (List ze))×Int) (Sum ((List Int)×(List (List ze))) Bool)) :=
  cond (decide (v32 < (List.length v8.L:Int))) (cond (decide (v32 < 10)) ((idx v30 v32).bind fun v33=>zot v8 e v32 (List.set v30 (Int.toNat v32) 2)) (zot v8 e v32 v30)) (some (.inr (.inl (v30,e))))
noncomputable def sa (v1:List za) (v2:List zfs):Option (Bool) :=
  (zgQ).bind fun v3=>cond (!v3) (some false) ((ziV v1).bind fun v4=>(zhW v4).bind fun v5=>(zi8 v4).bind fun v6=>cond ((!(v5.2 == (0:Int)))||(Option.isNone v6.1)) (some (Option.isNone v6.1)) ((zgr v5.1).bind fun v7=>zur v6.1 (none) (fun v8=>(mkP 8 (List.length v8.L:Int)).bind fun v10=>(zu (fun z=>zmv v8 z.1 z.2.1 z.2.2) ((List.replicate v10 0),[],0)).bind fun o=>zQ o (fun b=>zsH v2 v7 v8 b.1 b.2) some)))
theorem rF (l:List ze):flat (l.map zf):=fun i h j h'=>by
  have e1:(l.map zf)[i]=zf (l[i]'(by simpa using h)):=by simp
  have hj:j < 2:=by rw [e1] at h'; exact h'
  rcases (by omega:j=0∨j=1) with rfl | rfl
  · exact ⟨_,by simp only [List.getElem_map]; rfl⟩
  · exact ⟨_,by simp only [List.getElem_map]; rfl⟩
theorem zwb (v1:List za) (v2:List zfs) {r:Bool} (h:sa v1 v2=some r):zF Tryz.prog 5 [.isl 6 (List.map zb v1),.isl 6 (List.map zae v2)] (bA r):=by
 refine zr Tryz.func5 rfl (by kernel_rfl) rfl rfl ?_
 refine zsP (k:=2) (rf:=zf) fun A0 wS=>?_
 have hI:∀ i:Nat,(fun _:Nat=>True) i:=fun _=>trivial
 unfold sa at h
 refine erg rF rfl<|u<|asg rfl<|zc ?_
 obtain ⟨v3,q1,h⟩:=bs h
 refine erg rF rfl<|u<|pc (zk4 q1) rfl rfl rfl<|u<|asg rfl<|zc ?_
 refine zei ?_
 refine erg rF rfl<|u<|mv rfl<|u<|nt rfl<|zc ?_
 refine zev rfl (fun hc2=>?_) (fun hc2=>?_)
 ·
  replace h:=bT hc2 h
  refine erg rF rfl<|u<|asg rfl<|zc ?_
  refine zmX ?_
  obtain rfl:=sm h
  exact ⟨_,rfl,[],ci rfl,rfl,trivial,rfl,Nat.le_of_ble_eq_true rfl⟩
 ·
  replace h:=bF hc2 h
  refine zfa ?_
  obtain ⟨v4,q3,h⟩:=bs h
  refine erg rF rfl<|u<|mv rfl<|u<|sc [] (zn6 v1 q3) rfl rfl rfl rfl ⟨(rnI rfl),trivial⟩ trivial<|zcj (env0:=[(1,.isl 6 (List.map zae v2)),(34,.msl 0 0 (List.length v4))]) (st0:=[some (6,List.map zb v4)]) ⟨[.old 0],ce rfl rfl<|cv rfl (.msl rfl)<|cn,rfl,⟨⟨_,rfl,zg (fun _=>rfl)⟩,trivial⟩,rfl,Nat.le_of_ble_eq_true rfl⟩<|u<|asg rfl<|zc ?_
  obtain ⟨v5,q4,h⟩:=bs h
  refine erg rF rfl<|u<|mv rfl<|zcj (env0:=[(0,.isl 6 (List.map zb v4)),(1,.isl 6 (List.map zae v2)),(36,.isl 6 (List.map zb v4))]) (st0:=[]) ⟨[],cv rfl (zic rfl rfl (fun _=>rfl))<|ce rfl rfl<|cv rfl (zic rfl rfl (fun _=>rfl))<|cn,rfl,trivial,rfl,Nat.le_of_ble_eq_true rfl⟩<|u<|pc (zkw v4 q4) rfl rfl rfl<|u<|mv rfl<|u<|ex rfl rfl<|u<|ex rfl rfl<|u<|asg rfl<|u<|asg rfl<|zc ?_
  obtain ⟨v6,q5,h⟩:=bs h
  refine erg rF rfl<|u<|mv rfl<|u<|pc (zop v4 q5) rfl rfl rfl<|u<|mv rfl<|u<|ex rfl rfl<|u<|ex rfl rfl<|u<|asg rfl<|u<|asg rfl<|zc ?_
  refine zei ?_
  refine erg rF rfl<|u<|mv rfl<|u<|neq zwx rfl rfl<|u<|mv rfl<|zdf (j:=2) 2 rfl rfl rfl rfl rfl gpn (fun hb6=>g rfl hb6<|mv rfl<|g rfl hb6<|zwo zwz rfl rfl rfl<|zc (egO [48,49] 2 hb6 rfl rfl rfl rfl)) orT<|zc ?_
  refine zev rfl (fun hc7=>?_) (fun hc7=>?_)
  ·
   replace h:=bT hc7 h
   refine erg rF rfl<|u<|mv rfl<|u<|zwo zwz rfl rfl rfl<|u<|asg rfl<|zc ?_
   refine zmX ?_
   obtain rfl:=sm h
   exact ⟨_,rfl,[],ci rfl,rfl,trivial,rfl,Nat.le_of_ble_eq_true rfl⟩
  ·
   replace h:=bF hc7 h
   refine zfa ?_
   obtain ⟨v7,q8,h⟩:=bs h
   refine erg rF rfl<|u<|mv rfl<|u<|sc [] (zjR v5.1 q8) rfl rfl rfl rfl ⟨(rnI (zuR (fun _=>rfl))),trivial⟩ trivial<|zcj (env0:=[(1,.isl 6 (List.map zae v2)),(8,znH 1 zfG v6.1),(54,.mpt 0 0 0)]) (st0:=[some (4,[[.ipt 2 [[.isl 6 (List.map zb v7.1),.imp (List.map (rKV (fun x=>iA x)) v7.2.1)]] 0 0,.mmp 1,.mmp 2,.msl 3 0 (List.length v7.2.2.2.2)]]),some (2,List.map (rKV (fun x=>iA x)) v7.2.2.1),some (2,List.map (rKV (fun x=>.agg (zf x))) v7.2.2.2.1),some (1,List.map zz v7.2.2.2.2)]) ⟨[.old 0,.old 1,.old 2,.old 3],ce rfl rfl<|cv rfl (ci (zuR (fun _=>rfl)))<|cv rfl (.mpt rfl)<|cn,rfl,⟨⟨_,rfl,zn ⟨ci rfl,.mmp rfl,.mmp rfl,.msl rfl,trivial⟩⟩,⟨_,rfl,zg (fun _=>rfl)⟩,⟨_,rfl,zg (fun _=>rfl)⟩,⟨_,rfl,zg (fun _=>rfl)⟩,trivial⟩,rfl,Nat.le_of_ble_eq_true rfl⟩<|u<|asg rfl<|zc ?_
   refine erg rF rfl<|u<|mv rfl<|?_
   generalize v6.1=v9 at h ⊢
   rcases v9 with _ | v8
   ·
    replace h:=oeN h
    cases h
   ·
    replace h:=oeS h
    obtain ⟨v10,q9,h⟩:=bs h
    refine u<|nc rfl rfl<|u<|fa zha rfl rfl rfl<|u<|ld zbl rfl rfl<|u<|lnI zbl rfl rfl<|u<|mks (f:=(rI .i64)) (z:=0) 4 zkM rfl ti3 rfl rfl rfl rfl rfl rfl q9<|u<|asg rfl<|zc ?_
    refine erg rF rfl<|u<|asg rfl<|zc ?_
    refine zei ?_
    refine erg rF rfl<|u<|asg rfl<|zc ?_
    obtain ⟨o,ho,h⟩:=bs h
    refine zqM (X:=(List Int)×(List (List ze))×Int) (B:=(List Int)×(List (List ze))) (R:=Bool) rF (fun z vs=>[(1,.isl 6 (List.map zae v2)),(8,.ipt 1 [[.isl 6 (List.map zb v8.L)]] 0 0),(10,.mpt 0 0 0),(11,.msl 4 0 (List.length z.1)),(12,.msl 5 0 (List.length vs)),(13,iA z.2.2)]) (fun z vs=>[some (4,[[.ipt 2 [[.isl 6 (List.map zb v7.1),.imp (List.map (rKV (fun x=>iA x)) v7.2.1)]] 0 0,.mmp 1,.mmp 2,.msl 3 0 (List.length v7.2.2.2.2)]]),some (2,List.map (rKV (fun x=>iA x)) v7.2.2.1),some (2,List.map (rKV (fun x=>.agg (zf x))) v7.2.2.2.1),some (1,List.map zz v7.2.2.2.2),some (1,List.map (rI .i64) z.1),some (1,List.map zV vs)]) (fun z=>z.2.1) (fun b vs=>[(1,.isl 6 (List.map zae v2)),(8,.ipt 1 [[.isl 6 (List.map zb v8.L)]] 0 0),(10,.mpt 0 0 0),(11,.msl 4 0 (List.length b.1)),(12,.msl 5 0 (List.length vs))]) (fun b vs=>[some (4,[[.ipt 2 [[.isl 6 (List.map zb v7.1),.imp (List.map (rKV (fun x=>iA x)) v7.2.1)]] 0 0,.mmp 1,.mmp 2,.msl 3 0 (List.length v7.2.2.2.2)]]),some (2,List.map (rKV (fun x=>iA x)) v7.2.2.1),some (2,List.map (rKV (fun x=>.agg (zf x))) v7.2.2.2.1),some (1,List.map zz v7.2.2.2.2),some (1,List.map (rI .i64) b.1),some (1,List.map zV vs)]) (fun b=>b.2) (fun r env st=>zaD Tryz.prog Tryz.f5 0 (bA r) [] env st) ho hI rfl ⟨[.old 0,.old 1,.old 2,.old 3,.old 4,.fresh 1],ce rfl rfl<|ce rfl rfl<|cv rfl (.mpt rfl)<|cv rfl (.msl rfl)<|cv rfl (.nilown rfl)<|ce rfl rfl<|cn,rfl,⟨⟨_,rfl,zn ⟨ci rfl,.mmp rfl,.mmp rfl,.msl rfl,trivial⟩⟩,⟨_,rfl,zg (fun _=>rfl)⟩,⟨_,rfl,zg (fun _=>rfl)⟩,⟨_,rfl,zg (fun _=>rfl)⟩,⟨_,rfl,zg (fun _=>rfl)⟩,⟨rfl,rfl⟩,trivial⟩,rfl,Nat.le_of_ble_eq_true rfl⟩ ?_ ?_ ?_
    ·
     rintro ⟨v30,e,v32⟩ r vs I h hI
     replace h:zmv v8 v30 e v32=some r:=h
     unfold zmv at h
     refine zei ?_
     refine erg rF rfl<|u<|mv rfl<|u<|mv rfl<|u<|nc rfl rfl<|u<|fa zha rfl rfl rfl<|u<|ld zbl rfl rfl<|u<|lnI zbl rfl rfl<|u<|lss ti3 rfl rfl<|zc ?_
     refine zev rfl (fun hc24=>?_) (fun hc24=>?_)
     ·
      replace h:=bT hc24 h
      refine zfa ?_
      refine zei ?_
      refine ziL ?_
      refine znS (X:=(List Int)) rF (fun z vs=>[(1,.isl 6 (List.map zae v2)),(8,.ipt 1 [[.isl 6 (List.map zb v8.L)]] 0 0),(10,.mpt 0 0 0),(11,.msl 4 0 (List.length z)),(12,.msl 5 0 (List.length vs)),(13,iA v32)]) (fun z vs=>[some (4,[[.ipt 2 [[.isl 6 (List.map zb v7.1),.imp (List.map (rKV (fun x=>iA x)) v7.2.1)]] 0 0,.mmp 1,.mmp 2,.msl 3 0 (List.length v7.2.2.2.2)]]),some (2,List.map (rKV (fun x=>iA x)) v7.2.2.1),some (2,List.map (rKV (fun x=>.agg (zf x))) v7.2.2.2.1),some (1,List.map zz v7.2.2.2.2),some (1,List.map (rI .i64) z),some (1,List.map zV vs)]) (fun _=>e) (fun z=>zot v8 e v32 z=some r) ?_ ?_
      ·
       refine erg rF rfl<|u<|mv rfl<|u<|lss ti3 rfl rfl<|zc ?_
       refine zev rfl (fun hc25=>?_) (fun hc25=>?_)
       ·
        replace h:=bT hc25 h
        obtain ⟨v33,q26,h⟩:=bs h
        exact el rF rfl<|u<|mv rfl<|u<|mv rfl<|u<|ixM zkM rfl ti3 rfl rfl rfl rfl q26<|u<|zut (c':=2) ti3 rfl rfl (zo q26).2.2 rfl rfl rfl rfl rfl<|zc (⟨(List.set v30 (Int.toNat v32) 2),h,rfl,hI,[.old 0,.old 1,.old 2,.old 3,.old 4,.old 5],ce rfl rfl<|ce rfl rfl<|cv rfl (.mpt rfl)<|cv rfl (zqd (by simp) rfl)<|cv rfl (.msl rfl)<|ce rfl rfl<|cn,rfl,⟨⟨_,rfl,zn ⟨ci rfl,.mmp rfl,.mmp rfl,.msl rfl,trivial⟩⟩,⟨_,rfl,zg (fun _=>rfl)⟩,⟨_,rfl,zg (fun _=>rfl)⟩,⟨_,rfl,zg (fun _=>rfl)⟩,⟨_,rfl,zg (fun _=>rfl)⟩,⟨_,rfl,zg (fun _=>rfl)⟩,trivial⟩,rfl,Nat.le_of_ble_eq_true rfl⟩)
       ·
        replace h:=bF hc25 h
        refine zfa ?_
        exact ⟨v30,h,rfl,hI,[.old 0,.old 1,.old 2,.old 3,.old 4,.old 5],ce rfl rfl<|ce rfl rfl<|cv rfl (.mpt rfl)<|cv rfl (.msl rfl)<|cv rfl (.msl rfl)<|ce rfl rfl<|cn,rfl,⟨⟨_,rfl,zn ⟨ci rfl,.mmp rfl,.mmp rfl,.msl rfl,trivial⟩⟩,⟨_,rfl,zg (fun _=>rfl)⟩,⟨_,rfl,zg (fun _=>rfl)⟩,⟨_,rfl,zg (fun _=>rfl)⟩,⟨_,rfl,zg (fun _=>rfl)⟩,⟨_,rfl,zg (fun _=>rfl)⟩,trivial⟩,rfl,Nat.le_of_ble_eq_true rfl⟩
      ·
       rintro v34 vs I h hI
       replace h:zot v8 e v32 v34=some r:=h
       unfold zot at h
       refine erg rF rfl<|u<|asg rfl<|zc ?_
       refine zei (zmY rF ?_)
       refine rg rfl<|u<|asg rfl<|zc ?_
       obtain ⟨o,ho,h⟩:=bs h
       refine zU (X:=(List ze)×Int) (B:=(List ze)) (R:=Bool) (fun z=>[(1,.isl 6 (List.map zae v2)),(8,.ipt 1 [[.isl 6 (List.map zb v8.L)]] 0 0),(10,.mpt 0 0 0),(11,.msl 4 0 (List.length v34)),(12,.msl 5 0 (List.length vs)),(13,iA v32),(14,.msl 6 0 (List.length z.1)),(15,iA z.2)]) (fun z=>[some (4,[[.ipt 2 [[.isl 6 (List.map zb v7.1),.imp (List.map (rKV (fun x=>iA x)) v7.2.1)]] 0 0,.mmp 1,.mmp 2,.msl 3 0 (List.length v7.2.2.2.2)]]),some (2,List.map (rKV (fun x=>iA x)) v7.2.2.1),some (2,List.map (rKV (fun x=>.agg (zf x))) v7.2.2.2.1),some (1,List.map zz v7.2.2.2.2),some (1,List.map (rI .i64) v34),some (1,List.map zV vs),some (2,List.map zf z.1)]) (fun b=>[(1,.isl 6 (List.map zae v2)),(8,.ipt 1 [[.isl 6 (List.map zb v8.L)]] 0 0),(10,.mpt 0 0 0),(11,.msl 4 0 (List.length v34)),(12,.msl 5 0 (List.length vs)),(13,iA v32),(14,.msl 6 0 (List.length b))]) (fun b=>[some (4,[[.ipt 2 [[.isl 6 (List.map zb v7.1),.imp (List.map (rKV (fun x=>iA x)) v7.2.1)]] 0 0,.mmp 1,.mmp 2,.msl 3 0 (List.length v7.2.2.2.2)]]),some (2,List.map (rKV (fun x=>iA x)) v7.2.2.1),some (2,List.map (rKV (fun x=>.agg (zf x))) v7.2.2.2.1),some (1,List.map zz v7.2.2.2.2),some (1,List.map (rI .i64) v34),some (1,List.map zV vs),some (2,List.map zf b)]) (fun r env st=>zaD Tryz.prog Tryz.f5 0 (bA r) [] env st) ho ⟨[.old 0,.old 1,.old 2,.old 3,.old 4,.old 5,.fresh 2],ce rfl rfl<|ce rfl rfl<|cv rfl (.mpt rfl)<|cv rfl (.msl rfl)<|cv rfl (.msl rfl)<|ce rfl rfl<|cv rfl (.nilown rfl)<|ce rfl rfl<|cn,rfl,⟨⟨_,rfl,zn ⟨ci rfl,.mmp rfl,.mmp rfl,.msl rfl,trivial⟩⟩,⟨_,rfl,zg (fun _=>rfl)⟩,⟨_,rfl,zg (fun _=>rfl)⟩,⟨_,rfl,zg (fun _=>rfl)⟩,⟨_,rfl,zg (fun _=>rfl)⟩,⟨_,rfl,zg (fun _=>rfl)⟩,⟨rfl,rfl⟩,trivial⟩,rfl,Nat.le_of_ble_eq_true rfl⟩ ?_ ?_ ?_
       ·
        rintro ⟨v41,v42⟩ r h
        replace h:zmu v8 v32 v41 v42=some r:=h
        unfold zmu at h
        refine zl ?_
        obtain ⟨v43,q32,h⟩:=bs h
        refine rg rfl<|u<|mv rfl<|u<|mv rfl<|u<|nc rfl rfl<|u<|fa zha rfl rfl rfl<|u<|ld zbl rfl rfl<|u<|mv rfl<|u<|ixI zbl rfl zS rfl rfl rfl q32<|u<|fa zS rfl rfl rfl<|u<|ldI zes rfl (zo q32).2.2 rfl<|u<|lnI zes rfl rfl<|u<|lss ti3 rfl rfl<|zc ?_
        refine zk rfl (fun hc33=>?_) (fun hc33=>?_)
        ·
         replace h:=bT hc33 h
         refine zm ?_
         refine zl ?_
         refine zs ?_
         obtain ⟨v44,q34,h⟩:=bs h
         obtain ⟨v45,q35,h⟩:=bs h
         obtain ⟨v46,q36,h⟩:=bs h
         refine rl rfl<|u<|mv rfl<|u<|mv rfl<|u<|nc rfl rfl<|u<|fa zha rfl rfl rfl<|u<|ld zbl rfl rfl<|u<|mv rfl<|u<|ixI zbl rfl zS rfl rfl rfl q34<|u<|fa zS rfl rfl rfl<|u<|ldI zes rfl (zo q34).2.2 rfl<|u<|mv rfl<|u<|ixI zes rfl zcG rfl rfl rfl q35<|u<|fa zcG rfl rfl rfl<|u<|ldI ti9 rfl (zo q35).2.2 rfl<|u<|sne ti9 rfl rfl<|u<|bd zdO rfl rfl rfl<|u<|bl 7 zf7 rfl zdO rfl (by decide) (by decide) rfl rfl rfl<|u<|apM 8 zf7 rfl zdO rfl rfl (by decide) zf7 rfl rfl rfl rfl (roX (f:=zf) (z:=[(ze.mk (!(v45.Type_ == [73])) 0)]) rfl rfl) (fun _=>rfl) rfl q36<|u<|asg rfl<|zc ?_
         refine rl rfl<|u<|mv rfl<|u<|add ti3 rfl rfl<|u<|asg rfl<|zc ?_
         obtain rfl:=sm h
         exact ⟨_,rfl,[.old 0,.old 1,.old 2,.old 3,.old 4,.old 5,.old 8],ce rfl rfl<|ce rfl rfl<|cv rfl (.mpt rfl)<|cv rfl (.msl rfl)<|cv rfl (.msl rfl)<|ce rfl rfl<|cv rfl (.msl rfl)<|ce rfl rfl<|cn,rfl,⟨⟨_,rfl,zn ⟨ci rfl,.mmp rfl,.mmp rfl,.msl rfl,trivial⟩⟩,⟨_,rfl,zg (fun _=>rfl)⟩,⟨_,rfl,zg (fun _=>rfl)⟩,⟨_,rfl,zg (fun _=>rfl)⟩,⟨_,rfl,zg (fun _=>rfl)⟩,⟨_,rfl,zg (fun _=>rfl)⟩,⟨_,rfl,zg (fun _=>rfl)⟩,trivial⟩,rfl,Nat.le_of_ble_eq_true rfl⟩
        ·
         replace h:=bF hc33 h
         refine zB ?_
         obtain rfl:=sm h
         exact ⟨rfl,_,rfl,[.old 0,.old 1,.old 2,.old 3,.old 4,.old 5,.old 6],ce rfl rfl<|ce rfl rfl<|cv rfl (.mpt rfl)<|cv rfl (.msl rfl)<|cv rfl (.msl rfl)<|ce rfl rfl<|cv rfl (.msl rfl)<|cn,rfl,⟨⟨_,rfl,zn ⟨ci rfl,.mmp rfl,.mmp rfl,.msl rfl,trivial⟩⟩,⟨_,rfl,zg (fun _=>rfl)⟩,⟨_,rfl,zg (fun _=>rfl)⟩,⟨_,rfl,zg (fun _=>rfl)⟩,⟨_,rfl,zg (fun _=>rfl)⟩,⟨_,rfl,zg (fun _=>rfl)⟩,⟨_,rfl,zg (fun _=>rfl)⟩,trivial⟩,rfl,Nat.le_of_ble_eq_true rfl⟩
       ·
        rintro v47 rfl
        replace h:zsG e v32 v34 v47=some r:=h
        unfold zsG at h
        refine zx ?_
        obtain ⟨e',q37,h⟩:=bs h
        refine zqL fun (hlen:List.length vs=List.length e)=>?_
        refine zuL (t:=14) (q:=6) rF rfl rfl fun val hone=>?_
        have q37b:=zsa (x:=val) hlen q37
        obtain rfl:=(ziG q37).1
        refine el rF rfl<|u<|mv rfl<|u<|mv rfl<|u<|bl 7 zpf rfl zf7 rfl (by decide) (by decide) rfl (zvV hone) rfl<|u<|apZ 8 zpf rfl zf7 rfl rfl (by decide) zpf rfl rfl rfl rfl (roX (f:=zV) (z:=[val]) rfl rfl) (zv3 hone) rfl q37b<|u<|asg rfl<|zc ?_
        refine el rF rfl<|u<|mv rfl<|u<|add ti3 rfl rfl<|u<|asg rfl<|zc ?_
        obtain rfl:=sm h
        exact ⟨_,rfl,rfl,hI,[.old 0,.old 1,.old 2,.old 3,.old 4,.old 8],ce rfl rfl<|ce rfl rfl<|cv rfl (.mpt rfl)<|cv rfl (.msl rfl)<|cv rfl (.msl rfl)<|ce rfl rfl<|cn,rfl,⟨⟨_,rfl,zn ⟨ci rfl,.mmp rfl,.mmp rfl,.msl rfl,trivial⟩⟩,⟨_,rfl,zg (fun _=>rfl)⟩,⟨_,rfl,zg (fun _=>rfl)⟩,⟨_,rfl,zg (fun _=>rfl)⟩,⟨_,rfl,zg (fun _=>rfl)⟩,⟨_,rfl,zg (fun _=>rfl)⟩,trivial⟩,rfl,Nat.le_of_ble_eq_true rfl⟩
       ·
        rintro r' rfl env st hp
        obtain rfl:=sm h
        exact ⟨_,rfl,hp⟩
     ·
      replace h:=bF hc24 h
      refine zkr ?_
      obtain rfl:=sm h
      exact ⟨rfl,_,rfl,rfl,hI,[.old 0,.old 1,.old 2,.old 3,.old 4,.old 5],ce rfl rfl<|ce rfl rfl<|cv rfl (.mpt rfl)<|cv rfl (.msl rfl)<|cv rfl (.msl rfl)<|cn,rfl,⟨⟨_,rfl,zn ⟨ci rfl,.mmp rfl,.mmp rfl,.msl rfl,trivial⟩⟩,⟨_,rfl,zg (fun _=>rfl)⟩,⟨_,rfl,zg (fun _=>rfl)⟩,⟨_,rfl,zg (fun _=>rfl)⟩,⟨_,rfl,zg (fun _=>rfl)⟩,⟨_,rfl,zg (fun _=>rfl)⟩,trivial⟩,rfl,Nat.le_of_ble_eq_true rfl⟩
    ·
     rintro ⟨v49,e⟩ vs I rfl hI
     replace h:zsH v2 v7 v8 v49 e=some r:=h
     unfold zsH at h
     refine zei ?_
     refine erg rF rfl<|u<|asg rfl<|zc ?_
     obtain ⟨o,ho,h⟩:=bs h
     refine zqM (X:=(List (List UInt8×Int))×(List (List UInt8×ze))×(List Int)×(List (List ze))×Int) (B:=(List (List UInt8×Int))×(List (List UInt8×ze))×(List Int)×(List (List ze))) (R:=Bool) rF (fun z vs=>[(1,.isl 6 (List.map zae v2)),(8,.ipt 1 [[.isl 6 (List.map zb v8.L)]] 0 0),(10,.mpt 0 0 0),(11,.msl 4 0 (List.length z.2.2.1)),(12,.msl 5 0 (List.length vs)),(16,iA z.2.2.2.2)]) (fun z vs=>[some (4,[[.ipt 2 [[.isl 6 (List.map zb v7.1),.imp (List.map (rKV (fun x=>iA x)) v7.2.1)]] 0 0,.mmp 1,.mmp 2,.msl 3 0 (List.length v7.2.2.2.2)]]),some (2,List.map (rKV (fun x=>iA x)) z.1),some (2,List.map (rKV (fun x=>.agg (zf x))) z.2.1),some (1,List.map zz v7.2.2.2.2),some (1,List.map (rI .i64) z.2.2.1),some (1,List.map zV vs)]) (fun z=>z.2.2.2.1) (fun b vs=>[(8,.ipt 1 [[.isl 6 (List.map zb v8.L)]] 0 0),(10,.mpt 0 0 0),(11,.msl 4 0 (List.length b.2.2.1)),(12,.msl 5 0 (List.length vs))]) (fun b vs=>[some (4,[[.ipt 2 [[.isl 6 (List.map zb v7.1),.imp (List.map (rKV (fun x=>iA x)) v7.2.1)]] 0 0,.mmp 1,.mmp 2,.msl 3 0 (List.length v7.2.2.2.2)]]),some (2,List.map (rKV (fun x=>iA x)) b.1),some (2,List.map (rKV (fun x=>.agg (zf x))) b.2.1),some (1,List.map zz v7.2.2.2.2),some (1,List.map (rI .i64) b.2.2.1),some (1,List.map zV vs)]) (fun b=>b.2.2.2) (fun r env st=>zaD Tryz.prog Tryz.f5 0 (bA r) [] env st) ho hI rfl ⟨[.old 0,.old 1,.old 2,.old 3,.old 4,.old 5],ce rfl rfl<|ce rfl rfl<|cv rfl (.mpt rfl)<|cv rfl (.msl rfl)<|cv rfl (.msl rfl)<|ce rfl rfl<|cn,rfl,⟨⟨_,rfl,zn ⟨ci rfl,.mmp rfl,.mmp rfl,.msl rfl,trivial⟩⟩,⟨_,rfl,zg (fun _=>rfl)⟩,⟨_,rfl,zg (fun _=>rfl)⟩,⟨_,rfl,zg (fun _=>rfl)⟩,⟨_,rfl,zg (fun _=>rfl)⟩,⟨_,rfl,zg (fun _=>rfl)⟩,trivial⟩,rfl,Nat.le_of_ble_eq_true rfl⟩ ?_ ?_ ?_
     ·
      rintro ⟨v80,v81,v82,e,v83⟩ r vs I h hI
      replace h:zjQ v2 v7 v8 v80 v81 v82 e v83=some r:=h
      unfold zjQ at h
      refine zei ?_
      refine erg rF rfl<|u<|mv rfl<|u<|mv rfl<|u<|lnI zwy rfl rfl<|u<|lss ti3 rfl rfl<|u<|mv rfl<|z2 (j:=4) 2 rfl rfl rfl rfl rfl gpn (fun hb66=>g rfl hb66<|mv rfl<|g rfl hb66<|lss ti3 rfl rfl<|zc (egA [114,115] 2 hb66 rfl rfl rfl rfl)) zdb<|zc ?_
      refine zev rfl (fun hc67=>?_) (fun hc67=>?_)
      ·
       replace h:=bT hc67 h
       refine zfa ?_
       refine znS (X:=(List (List UInt8×Int))×(List (List UInt8×ze))×(List Int)×(List (List ze))) rF (fun z vs=>[(1,.isl 6 (List.map zae v2)),(8,.ipt 1 [[.isl 6 (List.map zb v8.L)]] 0 0),(10,.mpt 0 0 0),(11,.msl 4 0 (List.length z.2.2.1)),(12,.msl 5 0 (List.length vs)),(16,iA v83)]) (fun z vs=>[some (4,[[.ipt 2 [[.isl 6 (List.map zb v7.1),.imp (List.map (rKV (fun x=>iA x)) v7.2.1)]] 0 0,.mmp 1,.mmp 2,.msl 3 0 (List.length v7.2.2.2.2)]]),some (2,List.map (rKV (fun x=>iA x)) z.1),some (2,List.map (rKV (fun x=>.agg (zf x))) z.2.1),some (1,List.map zz v7.2.2.2.2),some (1,List.map (rI .i64) z.2.2.1),some (1,List.map zV vs)]) (fun z=>z.2.2.2) (fun z=>zja v83 z.1 z.2.1 z.2.2.1 z.2.2.2=some r) ?_ ?_
       ·
        refine ziL ?_
        obtain ⟨v84,q68,h⟩:=bs h
        refine erg rF rfl<|u<|mv rfl<|u<|mv rfl<|u<|ixI zwy rfl zoz rfl rfl rfl q68<|u<|ldI zoz rfl (zo q68).2.2 rfl<|u<|al 6 zoz rfl<|u<|sto zoz rfl rfl rfl<|zc ?_
        refine zei ?_
        obtain ⟨v85,q69,h⟩:=bs h
        refine erg rF rfl<|u<|fa zoz rfl rfl rfl<|u<|ld zdO rfl rfl<|u<|bl 7 zf7 rfl zdO rfl (by decide) (by decide) rfl rfl rfl<|u<|pcs (zl3 [v84.V] q69) rfl rfl (.cons (zwc rfl ⟨⟨(si rfl),(si rfl),trivial⟩,trivial⟩) .nil) zek<|u<|nt rfl<|zc ?_
        refine zev rfl (fun hc70=>?_) (fun hc70=>?_)
        ·
         replace h:=bT hc70 h
         refine zkr ?_
         exact ⟨⟨v80,v81,v82,e⟩,h,rfl,hI,[.old 0,.old 1,.old 2,.old 3,.old 4,.old 5],ce rfl rfl<|ce rfl rfl<|cv rfl (.mpt rfl)<|cv rfl (.msl rfl)<|cv rfl (.msl rfl)<|ce rfl rfl<|cn,rfl,⟨⟨_,rfl,zn ⟨ci rfl,.mmp rfl,.mmp rfl,.msl rfl,trivial⟩⟩,⟨_,rfl,zg (fun _=>rfl)⟩,⟨_,rfl,zg (fun _=>rfl)⟩,⟨_,rfl,zg (fun _=>rfl)⟩,⟨_,rfl,zg (fun _=>rfl)⟩,⟨_,rfl,zg (fun _=>rfl)⟩,trivial⟩,rfl,Nat.le_of_ble_eq_true rfl⟩
        ·
         replace h:=bF hc70 h
         refine zfa ?_
         obtain ⟨v86,q71,h⟩:=bs h
         obtain ⟨v87,q72,h⟩:=bs h
         refine ed rF [(1,.isl 6 (List.map zae v2)),(8,.ipt 1 [[.isl 6 (List.map zb v8.L)]] 0 0),(10,.mpt 0 0 0),(11,.msl 4 0 (List.length v82)),(12,.msl 5 0 (List.length vs)),(16,iA v83),(17,.mpt 6 0 0),(18,iA v87)] [some (4,[[.ipt 2 [[.isl 6 (List.map zb v7.1),.imp (List.map (rKV (fun x=>iA x)) v7.2.1)]] 0 0,.mmp 1,.mmp 2,.msl 3 0 (List.length v7.2.2.2.2)]]),some (2,List.map (rKV (fun x=>iA x)) v80),some (2,List.map (rKV (fun x=>.agg (zf x))) v81),some (1,List.map zz v7.2.2.2.2),some (1,List.map (rI .i64) v82),some (1,List.map zV vs),some (6,[(zae v84)])] [] [20,19,18,17,16,15,14,13,12,11,10,9,8,7,6,5,4,3,2,1,0] [(18,iA v87),(147,iA v87),(146,iA (List.length v8.L:Int)),(145,.isl 6 (List.map zb v8.L)),(144,.ipt 1 [[.isl 6 (List.map zb v8.L)]] 0 0),(143,.ipt 1 [[.isl 6 (List.map zb v8.L)]] 0 0),(142,.ipt 1 [[.isl 6 (List.map zb v8.L)]] 0 0),(141,iA (IntKind.i64.wrap (v86+(List.length v8.L:Int)))),(140,iA (List.length v8.L:Int)),(139,.isl 6 (List.map zb v8.L)),(138,.ipt 1 [[.isl 6 (List.map zb v8.L)]] 0 0),(137,.ipt 1 [[.isl 6 (List.map zb v8.L)]] 0 0),(136,.ipt 1 [[.isl 6 (List.map zb v8.L)]] 0 0),(135,iA v86),(134,iA (List.length v8.L:Int)),(133,.isl 6 (List.map zb v8.L)),(132,.ipt 1 [[.isl 6 (List.map zb v8.L)]] 0 0),(131,.ipt 1 [[.isl 6 (List.map zb v8.L)]] 0 0),(130,.ipt 1 [[.isl 6 (List.map zb v8.L)]] 0 0),(129,iA v84.C),(128,.mpt 6 0 1)] 0 (by kernel_rfl) (by kernel_rfl) rfl (by kernel_rfl) (dt0 ⟨(fun _=>pa rfl rfl rfl rfl (asg rfl<|⟨rfl,rfl⟩)),(fun _=>pa rfl rfl rfl rfl (rem ti3 rfl rfl q72<|⟨rfl,rfl⟩)),(fun _=>pa rfl rfl rfl rfl (lnI zbl rfl rfl<|⟨rfl,rfl⟩)),(fun _=>pa rfl rfl rfl rfl (ld zbl rfl rfl<|⟨rfl,rfl⟩)),(fun _=>pa rfl rfl rfl rfl (fa zha rfl rfl rfl<|⟨rfl,rfl⟩)),(fun _=>pa rfl rfl rfl rfl (nc rfl rfl<|⟨rfl,rfl⟩)),(fun _=>pa rfl rfl rfl rfl (mv rfl<|⟨rfl,rfl⟩)),(fun _=>pa rfl rfl rfl rfl (add ti3 rfl rfl<|⟨rfl,rfl⟩)),(fun _=>pa rfl rfl rfl rfl (lnI zbl rfl rfl<|⟨rfl,rfl⟩)),(fun _=>pa rfl rfl rfl rfl (ld zbl rfl rfl<|⟨rfl,rfl⟩)),(fun _=>pa rfl rfl rfl rfl (fa zha rfl rfl rfl<|⟨rfl,rfl⟩)),(fun _=>pa rfl rfl rfl rfl (nc rfl rfl<|⟨rfl,rfl⟩)),(fun _=>pa rfl rfl rfl rfl (mv rfl<|⟨rfl,rfl⟩)),(fun _=>pa rfl rfl rfl rfl (rem ti3 rfl rfl q71<|⟨rfl,rfl⟩)),(fun _=>pa rfl rfl rfl rfl (lnI zbl rfl rfl<|⟨rfl,rfl⟩)),(fun _=>pa rfl rfl rfl rfl (ld zbl rfl rfl<|⟨rfl,rfl⟩)),(fun _=>pa rfl rfl rfl rfl (fa zha rfl rfl rfl<|⟨rfl,rfl⟩)),(fun _=>pa rfl rfl rfl rfl (nc rfl rfl<|⟨rfl,rfl⟩)),(fun _=>pa rfl rfl rfl rfl (mv rfl<|⟨rfl,rfl⟩)),(fun _=>pa rfl rfl rfl rfl (ld ti3 rfl rfl<|⟨rfl,rfl⟩)),(fun _=>pa rfl rfl rfl rfl (fa zoz rfl rfl rfl<|⟨rfl,rfl⟩)),trivial⟩ (by kernel_rfl) rfl ⟨[.old 0,.old 1,.old 2,.old 3,.old 4,.old 5,.old 6],ce rfl rfl<|ce rfl rfl<|cv rfl (.mpt rfl)<|cv rfl (.msl rfl)<|cv rfl (.msl rfl)<|ce rfl rfl<|cv rfl (.mpt rfl)<|ce rfl rfl<|cn,rfl,⟨⟨_,rfl,zn ⟨ci rfl,.mmp rfl,.mmp rfl,.msl rfl,trivial⟩⟩,⟨_,rfl,zg (fun _=>rfl)⟩,⟨_,rfl,zg (fun _=>rfl)⟩,⟨_,rfl,zg (fun _=>rfl)⟩,⟨_,rfl,zg (fun _=>rfl)⟩,⟨_,rfl,zg (fun _=>rfl)⟩,⟨_,rfl,zn (ciL rfl)⟩,trivial⟩,rfl,Nat.le_of_ble_eq_true rfl⟩) ?_
         obtain ⟨v88,q73,h⟩:=bs h
         refine erg rF rfl<|u<|mv rfl<|u<|nc rfl rfl<|u<|fa zha rfl rfl rfl<|u<|ld zbl rfl rfl<|u<|mv rfl<|u<|ixI zbl rfl zS rfl rfl rfl q73<|u<|fa zS rfl rfl rfl<|u<|ldI ti9 rfl (zo q73).2.2 rfl<|u<|asg rfl<|zc ?_
         refine znS (X:=(List (List UInt8×Int))×(List (List UInt8×ze))×(List Int)×(List (List ze))) rF (fun z vs=>[(1,.isl 6 (List.map zae v2)),(8,.ipt 1 [[.isl 6 (List.map zb v8.L)]] 0 0),(10,.mpt 0 0 0),(11,.msl 4 0 (List.length z.2.2.1)),(12,.msl 5 0 (List.length vs)),(16,iA v83)]) (fun z vs=>[some (4,[[.ipt 2 [[.isl 6 (List.map zb v7.1),.imp (List.map (rKV (fun x=>iA x)) v7.2.1)]] 0 0,.mmp 1,.mmp 2,.msl 3 0 (List.length v7.2.2.2.2)]]),some (2,List.map (rKV (fun x=>iA x)) z.1),some (2,List.map (rKV (fun x=>.agg (zf x))) z.2.1),some (1,List.map zz v7.2.2.2.2),some (1,List.map (rI .i64) z.2.2.1),some (1,List.map zV vs)]) (fun z=>z.2.2.2) (fun z=>zid v7 v8 v83 z.1 z.2.1 z.2.2.1 z.2.2.2=some r) ?_ ?_
         ·
          refine erg rF rfl<|u<|fa zoz rfl rfl rfl<|u<|ld ti3 rfl rfl<|zc ?_
          refine ziL ?_
          refine erg rF rfl<|u<|eql ti3 rfl rfl<|u<|asg rfl<|zc ?_
          refine zev rfl (fun hc74=>?_) (fun hc74=>?_)
          ·
           replace h:=bT hc74 h
           refine erg rF rfl<|u<|mv rfl<|u<|mv rfl<|u<|fa zoz rfl rfl rfl<|u<|ld ti3 rfl rfl<|u<|sc [0,1,2,3] (zde v7.1 v7.2.1 v80 v81 v7.2.2.2.2 v88.Name v84.At rfl) rfl rfl rfl rfl ⟨(.mpt rfl),(rnI rfl),(rnI rfl),trivial⟩ ⟨⟨_,rfl,⟨(rnI rfl),(.mmp rfl),(.mmp rfl),(.msl rfl),trivial⟩⟩,⟨rfl,mkI (fun _=>rfl)⟩,⟨rfl,mkI (fun _=>rfl)⟩,⟨rfl,mkI (fun _=>rfl)⟩,trivial⟩<|zcj (env0:=[(1,.isl 6 (List.map zae v2)),(8,.ipt 1 [[.isl 6 (List.map zb v8.L)]] 0 0),(10,.mpt 0 0 0),(11,.msl 4 0 (List.length v82)),(12,.msl 5 0 (List.length vs)),(16,iA v83),(17,.mpt 6 0 0),(18,iA v87)]) (st0:=[some (4,[[.ipt 2 [[.isl 6 (List.map zb v7.1),.imp (List.map (rKV (fun x=>iA x)) v7.2.1)]] 0 0,.mmp 1,.mmp 2,.msl 3 0 (List.length v7.2.2.2.2)]]),some (2,List.map (rKV (fun x=>iA x)) (zd v7.1 v7.2.1 v80 v81 v7.2.2.2.2 v88.Name v84.At)),some (2,List.map (rKV (fun x=>.agg (zf x))) v81),some (1,List.map zz v7.2.2.2.2),some (1,List.map (rI .i64) v82),some (1,List.map zV vs),some (6,[(zae v84)])]) ⟨[.old 0,.old 1,.old 2,.old 3,.old 4,.old 5,.old 6],ce rfl rfl<|ce rfl rfl<|cv rfl (.mpt rfl)<|cv rfl (.msl rfl)<|cv rfl (.msl rfl)<|ce rfl rfl<|cv rfl (.mpt rfl)<|ce rfl rfl<|cn,rfl,⟨⟨_,rfl,zn ⟨ci rfl,.mmp rfl,.mmp rfl,.msl rfl,trivial⟩⟩,⟨_,rfl,zg (fun _=>rfl)⟩,⟨_,rfl,zg (fun _=>rfl)⟩,⟨_,rfl,zg (fun _=>rfl)⟩,⟨_,rfl,zg (fun _=>rfl)⟩,⟨_,rfl,zg (fun _=>rfl)⟩,⟨_,rfl,zn (ciL rfl)⟩,trivial⟩,rfl,Nat.le_of_ble_eq_true rfl⟩<|zc ?_
           refine erg rF rfl<|u<|fa zoz rfl rfl rfl<|u<|ld ti3 rfl rfl<|u<|geq ti3 rfl rfl<|u<|mv rfl<|z2 (j:=3) 3 rfl rfl rfl rfl rfl gpn (fun hb75=>g rfl hb75<|fa zoz rfl rfl rfl<|g rfl hb75<|ld ti3 rfl rfl<|g rfl hb75<|leq ti3 rfl rfl<|zc (egA [237,238,239] 3 hb75 rfl rfl rfl rfl)) zdb<|zc ?_
           refine zev rfl (fun hc76=>?_) (fun hc76=>?_)
           ·
            replace h:=bT hc76 h
            obtain ⟨v89,q77,h⟩:=bs h
            exact el rF rfl<|u<|mv rfl<|u<|mv rfl<|u<|fa zoz rfl rfl rfl<|u<|ld ti3 rfl rfl<|u<|ixM zkM rfl ti3 rfl rfl rfl rfl q77<|u<|zut (c':=v84.At) ti3 rfl rfl (zo q77).2.2 rfl rfl rfl rfl rfl<|zc (⟨⟨(zd v7.1 v7.2.1 v80 v81 v7.2.2.2.2 v88.Name v84.At),v81,(List.set v82 (Int.toNat v87) v84.At),e⟩,h,rfl,hI,[.old 0,.old 1,.old 2,.old 3,.old 4,.old 5],ce rfl rfl<|ce rfl rfl<|cv rfl (.mpt rfl)<|cv rfl (zqd (by simp) rfl)<|cv rfl (.msl rfl)<|ce rfl rfl<|cn,rfl,⟨⟨_,rfl,zn ⟨ci rfl,.mmp rfl,.mmp rfl,.msl rfl,trivial⟩⟩,⟨_,rfl,zg (fun _=>rfl)⟩,⟨_,rfl,zg (fun _=>rfl)⟩,⟨_,rfl,zg (fun _=>rfl)⟩,⟨_,rfl,zg (fun _=>rfl)⟩,⟨_,rfl,zg (fun _=>rfl)⟩,trivial⟩,rfl,Nat.le_of_ble_eq_true rfl⟩)
           ·
            replace h:=bF hc76 h
            refine zfa ?_
            exact ⟨⟨(zd v7.1 v7.2.1 v80 v81 v7.2.2.2.2 v88.Name v84.At),v81,v82,e⟩,h,rfl,hI,[.old 0,.old 1,.old 2,.old 3,.old 4,.old 5],ce rfl rfl<|ce rfl rfl<|cv rfl (.mpt rfl)<|cv rfl (.msl rfl)<|cv rfl (.msl rfl)<|ce rfl rfl<|cn,rfl,⟨⟨_,rfl,zn ⟨ci rfl,.mmp rfl,.mmp rfl,.msl rfl,trivial⟩⟩,⟨_,rfl,zg (fun _=>rfl)⟩,⟨_,rfl,zg (fun _=>rfl)⟩,⟨_,rfl,zg (fun _=>rfl)⟩,⟨_,rfl,zg (fun _=>rfl)⟩,⟨_,rfl,zg (fun _=>rfl)⟩,trivial⟩,rfl,Nat.le_of_ble_eq_true rfl⟩
          ·
           replace h:=bF hc74 h
           refine erg rF rfl<|u<|eql ti3 rfl rfl<|u<|asg rfl<|zc ?_
           refine zev rfl (fun hc78=>?_) (fun hc78=>?_)
           ·
            replace h:=bT hc78 h
            obtain ⟨row,q79,h⟩:=bs h
            refine zqL fun (hlen:List.length vs=List.length e)=>?_
            have hc9:=zo q79
            have hv9:Int.toNat v87 < List.length vs:=by rw [hlen]; exact hc9.2.1
            refine zs9 (b:=5) (i:=Int.toNat v87) (q:=7) (r:=row) [some (4,[[.ipt 2 [[.isl 6 (List.map zb v7.1),.imp (List.map (rKV (fun x=>iA x)) v7.2.1)]] 0 0,.mmp 1,.mmp 2,.msl 3 0 (List.length v7.2.2.2.2)]]),some (2,List.map (rKV (fun x=>iA x)) v80),some (2,List.map (rKV (fun x=>.agg (zf x))) v81),some (1,List.map zz v7.2.2.2.2),some (1,List.map (rI .i64) v82),some (1,List.map oR (List.set (List.map AV.lit vs) (Int.toNat v87) (.msl 7 0 (List.length row)))),some (6,[(zae v84)]),some (2,List.map zf row)] rF rfl hI hc9.2.2 rfl rfl fun I hI1 hI2=>?_
            have qo:=ztc (vs:=vs) (X:=AV.msl 7 0 (List.length row)) hc9.1 hv9
            refine zei ?_
            refine erg rF rfl<|u<|mv rfl<|u<|mv rfl<|u<|ixO zpf rfl zf7 rfl rfl (by simp) rfl rfl qo<|u<|ldM zf7 rfl rfl (zo qo).2.2 rfl<|u<|lnM zf7 rfl rfl rfl<|u<|eql ti3 rfl rfl<|zc ?_
            refine zev rfl (fun hc79=>?_) (fun hc79=>?_)
            ·
             replace h:=bT hc79 h
             refine znT (b:=5) (i:=Int.toNat v87) (q:=7) (r:=row) (fun val=>[some (4,[[.ipt 2 [[.isl 6 (List.map zb v7.1),.imp (List.map (rKV (fun x=>iA x)) v7.2.1)]] 0 0,.mmp 1,.mmp 2,.msl 3 0 (List.length v7.2.2.2.2)]]),some (2,List.map (rKV (fun x=>iA x)) v80),some (2,List.map (rKV (fun x=>.agg (zf x))) v81),some (1,List.map zz v7.2.2.2.2),some (1,List.map (rI .i64) v82),some (1,List.map zV (List.set vs (Int.toNat v87) val)),some (6,[(zae v84)]),none]) rF (by decide) rfl rfl hc9.2.1 hI1 hI2 (fun _=>rfl) fun val I hI=>?_
             refine zkr ?_
             exact ⟨⟨v80,v81,v82,e⟩,h,zrD q79,hI,[.old 0,.old 1,.old 2,.old 3,.old 4,.old 5],ce rfl rfl<|ce rfl rfl<|cv rfl (.mpt rfl)<|cv rfl (.msl rfl)<|cv rfl (zqd (by simp) rfl)<|ce rfl rfl<|cn,rfl,⟨⟨_,rfl,zn ⟨ci rfl,.mmp rfl,.mmp rfl,.msl rfl,trivial⟩⟩,⟨_,rfl,zg (fun _=>rfl)⟩,⟨_,rfl,zg (fun _=>rfl)⟩,⟨_,rfl,zg (fun _=>rfl)⟩,⟨_,rfl,zg (fun _=>rfl)⟩,⟨_,rfl,zg (fun _=>rfl)⟩,trivial⟩,rfl,Nat.le_of_ble_eq_true rfl⟩
            ·
             replace h:=bF hc79 h
             refine zfa ?_
             obtain ⟨x1,q80a,h⟩:=bs h
             obtain ⟨kk,q80b,h⟩:=bs h
             refine ed rF [(1,.isl 6 (List.map zae v2)),(8,.ipt 1 [[.isl 6 (List.map zb v8.L)]] 0 0),(10,.mpt 0 0 0),(11,.msl 4 0 (List.length v82)),(12,.msl 5 0 (List.length vs)),(16,iA v83),(17,.mpt 6 0 0),(18,iA v87),(19,sA v88.Name),(20,iA kk)] [some (4,[[.ipt 2 [[.isl 6 (List.map zb v7.1),.imp (List.map (rKV (fun x=>iA x)) v7.2.1)]] 0 0,.mmp 1,.mmp 2,.msl 3 0 (List.length v7.2.2.2.2)]]),some (2,List.map (rKV (fun x=>iA x)) v80),some (2,List.map (rKV (fun x=>.agg (zf x))) v81),some (1,List.map zz v7.2.2.2.2),some (1,List.map (rI .i64) v82),some (1,List.map oR (List.set (List.map AV.lit vs) (Int.toNat v87) (.msl 7 0 (List.length row)))),some (6,[(zae v84)]),some (2,List.map zf row)] [] [20,19,18,17,16,15,14,13,12,11,10,9,8,7,6,5,4,3,2,1,0] [(20,iA kk),(273,iA kk),(272,iA (List.length row:Int)),(271,.msl 7 0 (List.length row)),(270,.mpt 5 (Int.toNat v87) 0),(269,iA v87),(268,.msl 5 0 (List.length vs)),(267,iA (IntKind.i64.wrap (x1+(List.length row:Int)))),(266,iA (List.length row:Int)),(265,.msl 7 0 (List.length row)),(264,.mpt 5 (Int.toNat v87) 0),(263,iA v87),(262,.msl 5 0 (List.length vs)),(261,iA x1),(260,iA (List.length row:Int)),(259,.msl 7 0 (List.length row)),(258,.mpt 5 (Int.toNat v87) 0),(257,iA v87),(256,.msl 5 0 (List.length vs)),(255,iA v84.F),(254,.mpt 6 0 3)] 0 (by kernel_rfl) (by kernel_rfl) rfl (by kernel_rfl) (dt0 ⟨(fun _=>pa rfl rfl rfl rfl (asg rfl<|⟨rfl,rfl⟩)),(fun _=>pa rfl rfl rfl rfl (rem ti3 rfl rfl q80b<|⟨rfl,rfl⟩)),(fun _=>pa rfl rfl rfl rfl (lnM zf7 rfl rfl rfl<|⟨rfl,rfl⟩)),(fun _=>pa rfl rfl rfl rfl (ldM zf7 rfl rfl (zo qo).2.2 rfl<|⟨rfl,rfl⟩)),(fun _=>pa rfl rfl rfl rfl (ixO zpf rfl zf7 rfl rfl (by simp) rfl rfl qo<|⟨rfl,rfl⟩)),(fun _=>pa rfl rfl rfl rfl (mv rfl<|⟨rfl,rfl⟩)),(fun _=>pa rfl rfl rfl rfl (mv rfl<|⟨rfl,rfl⟩)),(fun _=>pa rfl rfl rfl rfl (add ti3 rfl rfl<|⟨rfl,rfl⟩)),(fun _=>pa rfl rfl rfl rfl (lnM zf7 rfl rfl rfl<|⟨rfl,rfl⟩)),(fun _=>pa rfl rfl rfl rfl (ldM zf7 rfl rfl (zo qo).2.2 rfl<|⟨rfl,rfl⟩)),(fun _=>pa rfl rfl rfl rfl (ixO zpf rfl zf7 rfl rfl (by simp) rfl rfl qo<|⟨rfl,rfl⟩)),(fun _=>pa rfl rfl rfl rfl (mv rfl<|⟨rfl,rfl⟩)),(fun _=>pa rfl rfl rfl rfl (mv rfl<|⟨rfl,rfl⟩)),(fun _=>pa rfl rfl rfl rfl (rem ti3 rfl rfl q80a<|⟨rfl,rfl⟩)),(fun _=>pa rfl rfl rfl rfl (lnM zf7 rfl rfl rfl<|⟨rfl,rfl⟩)),(fun _=>pa rfl rfl rfl rfl (ldM zf7 rfl rfl (zo qo).2.2 rfl<|⟨rfl,rfl⟩)),(fun _=>pa rfl rfl rfl rfl (ixO zpf rfl zf7 rfl rfl (by simp) rfl rfl qo<|⟨rfl,rfl⟩)),(fun _=>pa rfl rfl rfl rfl (mv rfl<|⟨rfl,rfl⟩)),(fun _=>pa rfl rfl rfl rfl (mv rfl<|⟨rfl,rfl⟩)),(fun _=>pa rfl rfl rfl rfl (ld ti3 rfl rfl<|⟨rfl,rfl⟩)),(fun _=>pa rfl rfl rfl rfl (fa zoz rfl rfl rfl<|⟨rfl,rfl⟩)),trivial⟩ (by kernel_rfl) rfl ⟨[.old 0,.old 1,.old 2,.old 3,.old 4,.old 5,.old 6,.old 7],ce rfl rfl<|ce rfl rfl<|cv rfl (.mpt rfl)<|cv rfl (.msl rfl)<|cv rfl (.msl rfl)<|ce rfl rfl<|cv rfl (.mpt rfl)<|ce rfl rfl<|ce rfl rfl<|ce rfl rfl<|cn,rfl,⟨⟨_,rfl,zn ⟨ci rfl,.mmp rfl,.mmp rfl,.msl rfl,trivial⟩⟩,⟨_,rfl,zg (fun _=>rfl)⟩,⟨_,rfl,zg (fun _=>rfl)⟩,⟨_,rfl,zg (fun _=>rfl)⟩,⟨_,rfl,zg (fun _=>rfl)⟩,⟨_,rfl,zos rfl rfl⟩,⟨_,rfl,zn (ciL rfl)⟩,⟨_,rfl,zg (fun _=>rfl)⟩,trivial⟩,rfl,Nat.le_of_ble_eq_true rfl⟩) ?_
             obtain ⟨v90,q80,h⟩:=bs h
             obtain ⟨v91,q81,h⟩:=bs h
             refine erg rF rfl<|u<|mv rfl<|u<|nc rfl rfl<|u<|fa zha rfl rfl rfl<|u<|ld zbl rfl rfl<|u<|mv rfl<|u<|ixI zbl rfl zS rfl rfl rfl q80<|u<|fa zS rfl rfl rfl<|u<|ldI zes rfl (zo q80).2.2 rfl<|u<|mv rfl<|u<|ixI zes rfl zcG rfl rfl rfl q81<|u<|ldI zcG rfl (zo q81).2.2 rfl<|u<|al 8 zcG rfl<|u<|sto zcG rfl rfl rfl<|zc ?_
             refine erg rF rfl<|u<|fa zcG rfl rfl rfl<|u<|ld ti4 rfl rfl<|u<|mv rfl<|z2 (j:=2) 7 rfl rfl rfl rfl rfl gpn (fun hb82=>g rfl hb82<|fa zoz rfl rfl rfl<|g rfl hb82<|fa zdO rfl rfl rfl<|g rfl hb82<|ld ti4 rfl rfl<|g rfl hb82<|fa zcG rfl rfl rfl<|g rfl hb82<|ld ti9 rfl rfl<|g rfl hb82<|sne ti9 rfl rfl<|g rfl hb82<|beq ti4 rfl rfl rfl<|zc (egA [288,289,290,291,292,293,294] 7 hb82 rfl rfl rfl rfl)) zdb<|u<|asg rfl<|zc ?_
             refine zei ?_
             obtain ⟨v92,q83,h⟩:=bs h
             refine erg rF rfl<|u<|mv rfl<|u<|mv rfl<|u<|fa zcG rfl rfl rfl<|u<|ld ti9 rfl rfl<|u<|fa zoz rfl rfl rfl<|u<|ld zdO rfl rfl<|u<|sc [0,1,2,3] (zdd v7.1 v7.2.1 v80 v81 v7.2.2.2.2 v88.Name v91.Name v84.V q83) rfl rfl rfl rfl ⟨(.mpt rfl),(rnI rfl),(rnI rfl),(rnI rfl),trivial⟩ ⟨⟨_,rfl,⟨(rnI rfl),(.mmp rfl),(.mmp rfl),(.msl rfl),trivial⟩⟩,⟨rfl,mkI (fun _=>rfl)⟩,⟨rfl,mkI (fun _=>rfl)⟩,⟨rfl,mkI (fun _=>rfl)⟩,trivial⟩<|zcj (env0:=[(1,.isl 6 (List.map zae v2)),(8,.ipt 1 [[.isl 6 (List.map zb v8.L)]] 0 0),(10,.mpt 0 0 0),(11,.msl 4 0 (List.length v82)),(12,.msl 5 0 (List.length vs)),(16,iA v83),(17,.mpt 6 0 0),(18,iA v87),(20,iA kk),(22,bA (v91.Static&&(v84.V.Ref == (!(v91.Type_ == [73]))))),(302,bA v92.1)]) (st0:=[some (4,[[.ipt 2 [[.isl 6 (List.map zb v7.1),.imp (List.map (rKV (fun x=>iA x)) v7.2.1)]] 0 0,.mmp 1,.mmp 2,.msl 3 0 (List.length v7.2.2.2.2)]]),some (2,List.map (rKV (fun x=>iA x)) v80),some (2,List.map (rKV (fun x=>.agg (zf x))) v92.2),some (1,List.map zz v7.2.2.2.2),some (1,List.map (rI .i64) v82),some (1,List.map oR (List.set (List.map AV.lit vs) (Int.toNat v87) (.msl 7 0 (List.length row)))),some (6,[(zae v84)]),some (2,List.map zf row)]) ⟨[.old 0,.old 1,.old 2,.old 3,.old 4,.old 5,.old 6,.old 7],ce rfl rfl<|ce rfl rfl<|cv rfl (.mpt rfl)<|cv rfl (.msl rfl)<|cv rfl (.msl rfl)<|ce rfl rfl<|cv rfl (.mpt rfl)<|ce rfl rfl<|ce rfl rfl<|ce rfl rfl<|ce rfl rfl<|cn,rfl,⟨⟨_,rfl,zn ⟨ci rfl,.mmp rfl,.mmp rfl,.msl rfl,trivial⟩⟩,⟨_,rfl,zg (fun _=>rfl)⟩,⟨_,rfl,zg (fun _=>rfl)⟩,⟨_,rfl,zg (fun _=>rfl)⟩,⟨_,rfl,zg (fun _=>rfl)⟩,⟨_,rfl,zos rfl rfl⟩,⟨_,rfl,zn (ciL rfl)⟩,⟨_,rfl,zg (fun _=>rfl)⟩,trivial⟩,rfl,Nat.le_of_ble_eq_true rfl⟩<|u<|mv rfl<|u<|bne ti4 rfl rfl rfl<|zc ?_
             refine zev rfl (fun hc84=>?_) (fun hc84=>?_)
             ·
              replace h:=bT hc84 h
              refine erg rF rfl<|u<|asg rfl<|zc ?_
              refine zmX ?_
              obtain rfl:=sm h
              exact ⟨_,rfl,_,rfl,[],ci rfl,rfl,trivial,rfl,Nat.le_of_ble_eq_true rfl⟩
             ·
              replace h:=bF hc84 h
              refine zfa ?_
              refine erg rF rfl<|u<|mv rfl<|zc ?_
              refine zev rfl (fun hc85=>?_) (fun hc85=>?_)
              ·
               replace h:=bT hc85 h
               obtain ⟨_,q87,h⟩:=bs h
               refine edL rF [(1,.isl 6 (List.map zae v2)),(8,.ipt 1 [[.isl 6 (List.map zb v8.L)]] 0 0),(10,.mpt 0 0 0),(11,.msl 4 0 (List.length v82)),(12,.msl 5 0 (List.length vs)),(16,iA v83)] [some (4,[[.ipt 2 [[.isl 6 (List.map zb v7.1),.imp (List.map (rKV (fun x=>iA x)) v7.2.1)]] 0 0,.mmp 1,.mmp 2,.msl 3 0 (List.length v7.2.2.2.2)]]),some (2,List.map (rKV (fun x=>iA x)) v80),some (2,List.map (rKV (fun x=>.agg (zf x))) v92.2),some (1,List.map zz v7.2.2.2.2),some (1,List.map (rI .i64) v82),some (1,List.map oR (List.set (List.map AV.lit vs) (Int.toNat v87) (.msl 7 0 (List.length (List.set row (Int.toNat kk) v84.V))))),some (6,[(zae v84)]),some (2,List.map zf (List.set row (Int.toNat kk) v84.V))] [8] [7,6,5,4,3,2,1,0] [(313,.mpt 7 (Int.toNat kk) 0),(312,.agg (zf v84.V)),(311,.mpt 6 0 4),(310,iA kk),(309,.msl 7 0 (List.length row)),(308,.mpt 5 (Int.toNat v87) 0),(307,iA v87),(306,.msl 5 0 (List.length vs))] 1 (by kernel_rfl) (by kernel_rfl) rfl (by kernel_rfl) (dtS ⟨(fun _=>pa rfl rfl rfl rfl (ixM zf7 rfl zdO rfl rfl rfl rfl q87<|⟨rfl,rfl⟩)),(fun _=>pa rfl rfl rfl rfl (ld zdO rfl rfl<|⟨rfl,rfl⟩)),(fun _=>pa rfl rfl rfl rfl (fa zoz rfl rfl rfl<|⟨rfl,rfl⟩)),(fun _=>pa rfl rfl rfl rfl (mv rfl<|⟨rfl,rfl⟩)),(fun _=>pa rfl rfl rfl rfl (ldM zf7 rfl rfl (zo qo).2.2 rfl<|⟨rfl,rfl⟩)),(fun _=>pa rfl rfl rfl rfl (ixO zpf rfl zf7 rfl rfl (by simp) rfl rfl qo<|⟨rfl,rfl⟩)),(fun _=>pa rfl rfl rfl rfl (mv rfl<|⟨rfl,rfl⟩)),(fun _=>pa rfl rfl rfl rfl (mv rfl<|⟨rfl,rfl⟩)),trivial⟩ (by kernel_rfl) rfl ⟨(fun _ _=>⟨_,rfl,rfl,zut (c':=v84.V) zdO rfl rfl (zo q87).2.2 rfl rfl rfl rfl rfl<|⟨.any,[],[],rfl,rfl,by kernel_rfl,trivial,dt0 ⟨(fun h=>by cases h),(fun h=>by cases h),(fun h=>by cases h),(fun h=>by cases h),(fun h=>by cases h),(fun h=>by cases h),(fun h=>by cases h),(fun h=>by cases h),trivial⟩ (by kernel_rfl) rfl ⟨[.old 0,.old 1,.old 2,.old 3,.old 4,.old 5,.old 6,.old 7],ce rfl rfl<|ce rfl rfl<|cv rfl (.mpt rfl)<|cv rfl (.msl rfl)<|cv rfl (.msl rfl)<|ce rfl rfl<|cn,rfl,⟨⟨_,rfl,zn ⟨ci rfl,.mmp rfl,.mmp rfl,.msl rfl,trivial⟩⟩,⟨_,rfl,zg (fun _=>rfl)⟩,⟨_,rfl,zg (fun _=>rfl)⟩,⟨_,rfl,zg (fun _=>rfl)⟩,⟨_,rfl,zg (fun _=>rfl)⟩,⟨_,rfl,zos (by simp) rfl⟩,⟨_,rfl,zn (ciL rfl)⟩,⟨_,rfl,zg (fun _=>rfl)⟩,trivial⟩,rfl,Nat.le_of_ble_eq_true rfl⟩⟩⟩),trivial⟩) ?_
               refine zt8 (b:=5) (i:=Int.toNat v87) (q:=7) (r:=(List.set row (Int.toNat kk) v84.V)) (fun val=>[some (4,[[.ipt 2 [[.isl 6 (List.map zb v7.1),.imp (List.map (rKV (fun x=>iA x)) v7.2.1)]] 0 0,.mmp 1,.mmp 2,.msl 3 0 (List.length v7.2.2.2.2)]]),some (2,List.map (rKV (fun x=>iA x)) v80),some (2,List.map (rKV (fun x=>.agg (zf x))) v92.2),some (1,List.map zz v7.2.2.2.2),some (1,List.map (rI .i64) v82),some (1,List.map zV (List.set vs (Int.toNat v87) val)),some (6,[(zae v84)]),none]) rF (by decide) rfl rfl hc9.2.1 hI1 hI2 (fun _=>rfl) fun val I hI=>?_
               exact ⟨⟨v80,v92.2,v82,List.set e (Int.toNat v87) (List.set row (Int.toNat kk) v84.V)⟩,h,rfl,hI,[.old 0,.old 1,.old 2,.old 3,.old 4,.old 5],ce rfl rfl<|ce rfl rfl<|cv rfl (.mpt rfl)<|cv rfl (.msl rfl)<|cv rfl (zqd (by simp) rfl)<|ce rfl rfl<|cn,rfl,⟨⟨_,rfl,zn ⟨ci rfl,.mmp rfl,.mmp rfl,.msl rfl,trivial⟩⟩,⟨_,rfl,zg (fun _=>rfl)⟩,⟨_,rfl,zg (fun _=>rfl)⟩,⟨_,rfl,zg (fun _=>rfl)⟩,⟨_,rfl,zg (fun _=>rfl)⟩,⟨_,rfl,zg (fun _=>rfl)⟩,trivial⟩,rfl,Nat.le_of_ble_eq_true rfl⟩
              ·
               replace h:=bF hc85 h
               refine znT (b:=5) (i:=Int.toNat v87) (q:=7) (r:=row) (fun val=>[some (4,[[.ipt 2 [[.isl 6 (List.map zb v7.1),.imp (List.map (rKV (fun x=>iA x)) v7.2.1)]] 0 0,.mmp 1,.mmp 2,.msl 3 0 (List.length v7.2.2.2.2)]]),some (2,List.map (rKV (fun x=>iA x)) v80),some (2,List.map (rKV (fun x=>.agg (zf x))) v92.2),some (1,List.map zz v7.2.2.2.2),some (1,List.map (rI .i64) v82),some (1,List.map zV (List.set vs (Int.toNat v87) val)),some (6,[(zae v84)]),none]) rF (by decide) rfl rfl hc9.2.1 hI1 hI2 (fun _=>rfl) fun val I hI=>?_
               refine zfa ?_
               exact ⟨⟨v80,v92.2,v82,e⟩,h,zrD q79,hI,[.old 0,.old 1,.old 2,.old 3,.old 4,.old 5],ce rfl rfl<|ce rfl rfl<|cv rfl (.mpt rfl)<|cv rfl (.msl rfl)<|cv rfl (zqd (by simp) rfl)<|ce rfl rfl<|cn,rfl,⟨⟨_,rfl,zn ⟨ci rfl,.mmp rfl,.mmp rfl,.msl rfl,trivial⟩⟩,⟨_,rfl,zg (fun _=>rfl)⟩,⟨_,rfl,zg (fun _=>rfl)⟩,⟨_,rfl,zg (fun _=>rfl)⟩,⟨_,rfl,zg (fun _=>rfl)⟩,⟨_,rfl,zg (fun _=>rfl)⟩,trivial⟩,rfl,Nat.le_of_ble_eq_true rfl⟩
           ·
            replace h:=bF hc78 h
            obtain ⟨v93,q86,h⟩:=bs h
            refine erg rF rfl<|u<|mv rfl<|u<|sc [0,1,2,3] (ziB v7.1 v7.2.1 v80 v81 v7.2.2.2.2 q86) rfl rfl rfl rfl ⟨(.mpt rfl),trivial⟩ ⟨⟨_,rfl,⟨(rnI rfl),(.mmp rfl),(.mmp rfl),(.msl rfl),trivial⟩⟩,⟨rfl,mkI (fun _=>rfl)⟩,⟨rfl,mkI (fun _=>rfl)⟩,⟨rfl,mkI (fun _=>rfl)⟩,trivial⟩<|zcj (env0:=[(1,.isl 6 (List.map zae v2)),(8,.ipt 1 [[.isl 6 (List.map zb v8.L)]] 0 0),(10,.mpt 0 0 0),(11,.msl 4 0 (List.length v82)),(12,.msl 5 0 (List.length vs)),(16,iA v83),(159,.msl 6 0 (List.length v93))]) (st0:=[some (4,[[.ipt 2 [[.isl 6 (List.map zb v7.1),.imp (List.map (rKV (fun x=>iA x)) v7.2.1)]] 0 0,.mmp 1,.mmp 2,.msl 3 0 (List.length v7.2.2.2.2)]]),some (2,List.map (rKV (fun x=>iA x)) v80),some (2,List.map (rKV (fun x=>.agg (zf x))) v81),some (1,List.map zz v7.2.2.2.2),some (1,List.map (rI .i64) v82),some (1,List.map zV vs),some (1,List.map (rI .i64) v93)]) ⟨[.old 0,.old 1,.old 2,.old 3,.old 4,.old 5,.old 7],ce rfl rfl<|ce rfl rfl<|cv rfl (.mpt rfl)<|cv rfl (.msl rfl)<|cv rfl (.msl rfl)<|ce rfl rfl<|cv rfl (.msl rfl)<|cn,rfl,⟨⟨_,rfl,zn ⟨ci rfl,.mmp rfl,.mmp rfl,.msl rfl,trivial⟩⟩,⟨_,rfl,zg (fun _=>rfl)⟩,⟨_,rfl,zg (fun _=>rfl)⟩,⟨_,rfl,zg (fun _=>rfl)⟩,⟨_,rfl,zg (fun _=>rfl)⟩,⟨_,rfl,zg (fun _=>rfl)⟩,⟨_,rfl,zg (fun _=>rfl)⟩,trivial⟩,rfl,Nat.le_of_ble_eq_true rfl⟩<|u<|asg rfl<|zc ?_
            refine zei (zmY rF ?_)
            refine rg rfl<|u<|asg rfl<|zc ?_
            obtain ⟨o,ho,h⟩:=bs h
            refine zU (X:=(List Int)×Int) (B:=(List Int)) (R:=Bool) (fun z=>[(1,.isl 6 (List.map zae v2)),(8,.ipt 1 [[.isl 6 (List.map zb v8.L)]] 0 0),(10,.mpt 0 0 0),(11,.msl 4 0 (List.length v82)),(12,.msl 5 0 (List.length vs)),(16,iA v83),(23,.msl 6 0 (List.length z.1)),(24,iA z.2)]) (fun z=>[some (4,[[.ipt 2 [[.isl 6 (List.map zb v7.1),.imp (List.map (rKV (fun x=>iA x)) v7.2.1)]] 0 0,.mmp 1,.mmp 2,.msl 3 0 (List.length v7.2.2.2.2)]]),some (2,List.map (rKV (fun x=>iA x)) v80),some (2,List.map (rKV (fun x=>.agg (zf x))) v81),some (1,List.map zz v7.2.2.2.2),some (1,List.map (rI .i64) v82),some (1,List.map zV vs),some (1,List.map (rI .i64) z.1)]) (fun b=>[(1,.isl 6 (List.map zae v2)),(8,.ipt 1 [[.isl 6 (List.map zb v8.L)]] 0 0),(10,.mpt 0 0 0),(11,.msl 4 0 (List.length v82)),(12,.msl 5 0 (List.length vs)),(16,iA v83),(23,.msl 6 0 (List.length b))]) (fun b=>[some (4,[[.ipt 2 [[.isl 6 (List.map zb v7.1),.imp (List.map (rKV (fun x=>iA x)) v7.2.1)]] 0 0,.mmp 1,.mmp 2,.msl 3 0 (List.length v7.2.2.2.2)]]),some (2,List.map (rKV (fun x=>iA x)) v80),some (2,List.map (rKV (fun x=>.agg (zf x))) v81),some (1,List.map zz v7.2.2.2.2),some (1,List.map (rI .i64) v82),some (1,List.map zV vs),some (1,List.map (rI .i64) b)]) (fun r env st=>zaD Tryz.prog Tryz.f5 0 (bA r) [] env st) ho ⟨[.old 0,.old 1,.old 2,.old 3,.old 4,.old 5,.old 6],ce rfl rfl<|ce rfl rfl<|cv rfl (.mpt rfl)<|cv rfl (.msl rfl)<|cv rfl (.msl rfl)<|ce rfl rfl<|cv rfl (.msl rfl)<|ce rfl rfl<|cn,rfl,⟨⟨_,rfl,zn ⟨ci rfl,.mmp rfl,.mmp rfl,.msl rfl,trivial⟩⟩,⟨_,rfl,zg (fun _=>rfl)⟩,⟨_,rfl,zg (fun _=>rfl)⟩,⟨_,rfl,zg (fun _=>rfl)⟩,⟨_,rfl,zg (fun _=>rfl)⟩,⟨_,rfl,zg (fun _=>rfl)⟩,⟨_,rfl,zg (fun _=>rfl)⟩,trivial⟩,rfl,Nat.le_of_ble_eq_true rfl⟩ ?_ ?_ ?_
            ·
             rintro ⟨v97,v98⟩ r h
             replace h:zjc v97 v98=some r:=h
             unfold zjc at h
             refine zl ?_
             refine rg rfl<|u<|mv rfl<|u<|mv rfl<|u<|lnM zkM rfl rfl rfl<|u<|lss ti3 rfl rfl<|zc ?_
             refine zk rfl (fun hc89=>?_) (fun hc89=>?_)
             ·
              replace h:=bT hc89 h
              refine zm ?_
              refine zl ?_
              refine zs ?_
              obtain ⟨v99,q90,h⟩:=bs h
              refine rl rfl<|u<|mv rfl<|u<|mv rfl<|u<|mv rfl<|u<|add ti3 rfl rfl<|u<|ixM zkM rfl ti3 rfl rfl rfl rfl q90<|u<|zut (c':=(IntKind.i64.wrap (5+v98))) ti3 rfl rfl (zo q90).2.2 rfl rfl rfl rfl rfl<|zc ?_
              refine rl rfl<|u<|mv rfl<|u<|add ti3 rfl rfl<|u<|asg rfl<|zc ?_
              obtain rfl:=sm h
              exact ⟨_,rfl,[.old 0,.old 1,.old 2,.old 3,.old 4,.old 5,.old 6],ce rfl rfl<|ce rfl rfl<|cv rfl (.mpt rfl)<|cv rfl (.msl rfl)<|cv rfl (.msl rfl)<|ce rfl rfl<|cv rfl (zqd (by simp) rfl)<|ce rfl rfl<|cn,rfl,⟨⟨_,rfl,zn ⟨ci rfl,.mmp rfl,.mmp rfl,.msl rfl,trivial⟩⟩,⟨_,rfl,zg (fun _=>rfl)⟩,⟨_,rfl,zg (fun _=>rfl)⟩,⟨_,rfl,zg (fun _=>rfl)⟩,⟨_,rfl,zg (fun _=>rfl)⟩,⟨_,rfl,zg (fun _=>rfl)⟩,⟨_,rfl,zg (fun _=>rfl)⟩,trivial⟩,rfl,Nat.le_of_ble_eq_true rfl⟩
             ·
              replace h:=bF hc89 h
              refine zB ?_
              obtain rfl:=sm h
              exact ⟨rfl,_,rfl,[.old 0,.old 1,.old 2,.old 3,.old 4,.old 5,.old 6],ce rfl rfl<|ce rfl rfl<|cv rfl (.mpt rfl)<|cv rfl (.msl rfl)<|cv rfl (.msl rfl)<|ce rfl rfl<|cv rfl (.msl rfl)<|cn,rfl,⟨⟨_,rfl,zn ⟨ci rfl,.mmp rfl,.mmp rfl,.msl rfl,trivial⟩⟩,⟨_,rfl,zg (fun _=>rfl)⟩,⟨_,rfl,zg (fun _=>rfl)⟩,⟨_,rfl,zg (fun _=>rfl)⟩,⟨_,rfl,zg (fun _=>rfl)⟩,⟨_,rfl,zg (fun _=>rfl)⟩,⟨_,rfl,zg (fun _=>rfl)⟩,trivial⟩,rfl,Nat.le_of_ble_eq_true rfl⟩
            ·
             rintro v100 rfl
             replace h:zo8 v7 v8 v80 v81 v82 e v83 v100=some r:=h
             unfold zo8 at h
             refine zx ?_
             obtain ⟨v101,q91,h⟩:=bs h
             refine erg rF rfl<|u<|mv rfl<|u<|mv rfl<|u<|sc [0,1,2,3,6] (zhn v7.1 v7.2.1 v80 v81 v7.2.2.2.2 v100 q91) rfl rfl rfl rfl ⟨(.mpt rfl),(.msl rfl),trivial⟩ ⟨⟨_,rfl,⟨(rnI rfl),(.mmp rfl),(.mmp rfl),(.msl rfl),trivial⟩⟩,⟨rfl,mkI (fun _=>rfl)⟩,⟨rfl,mkI (fun _=>rfl)⟩,⟨rfl,mkI (fun _=>rfl)⟩,⟨rfl,mkI (fun _=>rfl)⟩,trivial⟩<|zcj (env0:=[(1,.isl 6 (List.map zae v2)),(8,.ipt 1 [[.isl 6 (List.map zb v8.L)]] 0 0),(10,.mpt 0 0 0),(11,.msl 4 0 (List.length v82)),(12,.msl 5 0 (List.length vs)),(16,iA v83)]) (st0:=[some (4,[[.ipt 2 [[.isl 6 (List.map zb v7.1),.imp (List.map (rKV (fun x=>iA x)) v7.2.1)]] 0 0,.mmp 1,.mmp 2,.msl 3 0 (List.length v7.2.2.2.2)]]),some (2,List.map (rKV (fun x=>iA x)) v80),some (2,List.map (rKV (fun x=>.agg (zf x))) v101),some (1,List.map zz v7.2.2.2.2),some (1,List.map (rI .i64) v82),some (1,List.map zV vs)]) ⟨[.old 0,.old 1,.old 2,.old 3,.old 4,.old 5],ce rfl rfl<|ce rfl rfl<|cv rfl (.mpt rfl)<|cv rfl (.msl rfl)<|cv rfl (.msl rfl)<|ce rfl rfl<|cn,rfl,⟨⟨_,rfl,zn ⟨ci rfl,.mmp rfl,.mmp rfl,.msl rfl,trivial⟩⟩,⟨_,rfl,zg (fun _=>rfl)⟩,⟨_,rfl,zg (fun _=>rfl)⟩,⟨_,rfl,zg (fun _=>rfl)⟩,⟨_,rfl,zg (fun _=>rfl)⟩,⟨_,rfl,zg (fun _=>rfl)⟩,trivial⟩,rfl,Nat.le_of_ble_eq_true rfl⟩<|zc ?_
             refine erg rF rfl<|u<|asg rfl<|zc ?_
             refine erg rF rfl<|u<|asg rfl<|zc ?_
             obtain ⟨o,ho,h⟩:=bs h
             refine zqM (X:=(List (List ze))×Int×Int) (B:=(List (List ze))) (R:=Bool) rF (fun z vs=>[(1,.isl 6 (List.map zae v2)),(8,.ipt 1 [[.isl 6 (List.map zb v8.L)]] 0 0),(10,.mpt 0 0 0),(11,.msl 4 0 (List.length v82)),(12,.msl 5 0 (List.length vs)),(16,iA v83),(25,iA z.2.1),(26,iA z.2.2)]) (fun z vs=>[some (4,[[.ipt 2 [[.isl 6 (List.map zb v7.1),.imp (List.map (rKV (fun x=>iA x)) v7.2.1)]] 0 0,.mmp 1,.mmp 2,.msl 3 0 (List.length v7.2.2.2.2)]]),some (2,List.map (rKV (fun x=>iA x)) v80),some (2,List.map (rKV (fun x=>.agg (zf x))) v101),some (1,List.map zz v7.2.2.2.2),some (1,List.map (rI .i64) v82),some (1,List.map zV vs)]) (fun z=>z.1) (fun b vs=>[(1,.isl 6 (List.map zae v2)),(8,.ipt 1 [[.isl 6 (List.map zb v8.L)]] 0 0),(10,.mpt 0 0 0),(11,.msl 4 0 (List.length v82)),(12,.msl 5 0 (List.length vs)),(16,iA v83)]) (fun b vs=>[some (4,[[.ipt 2 [[.isl 6 (List.map zb v7.1),.imp (List.map (rKV (fun x=>iA x)) v7.2.1)]] 0 0,.mmp 1,.mmp 2,.msl 3 0 (List.length v7.2.2.2.2)]]),some (2,List.map (rKV (fun x=>iA x)) v80),some (2,List.map (rKV (fun x=>.agg (zf x))) v101),some (1,List.map zz v7.2.2.2.2),some (1,List.map (rI .i64) v82),some (1,List.map zV vs)]) (fun b=>b) (fun r env st=>zaD Tryz.prog Tryz.f5 0 (bA r) [] env st) ho hI rfl ⟨[.old 0,.old 1,.old 2,.old 3,.old 4,.old 5],ce rfl rfl<|ce rfl rfl<|cv rfl (.mpt rfl)<|cv rfl (.msl rfl)<|cv rfl (.msl rfl)<|ce rfl rfl<|ce rfl rfl<|ce rfl rfl<|cn,rfl,⟨⟨_,rfl,zn ⟨ci rfl,.mmp rfl,.mmp rfl,.msl rfl,trivial⟩⟩,⟨_,rfl,zg (fun _=>rfl)⟩,⟨_,rfl,zg (fun _=>rfl)⟩,⟨_,rfl,zg (fun _=>rfl)⟩,⟨_,rfl,zg (fun _=>rfl)⟩,⟨_,rfl,zg (fun _=>rfl)⟩,trivial⟩,rfl,Nat.le_of_ble_eq_true rfl⟩ ?_ ?_ ?_
             ·
              rintro ⟨e,nn,jj⟩ r vs I h hI
              replace h:zmw v8 e nn jj=some r:=h
              unfold zmw at h
              refine zei ?_
              refine erg rF rfl<|u<|mv rfl<|u<|mv rfl<|u<|nc rfl rfl<|u<|fa zha rfl rfl rfl<|u<|ld zbl rfl rfl<|u<|lnI zbl rfl rfl<|u<|lss ti3 rfl rfl<|zc ?_
              refine zev rfl (fun hd1=>?_) (fun hd1=>?_)
              ·
               replace h:=bT hd1 h
               refine zfa ?_
               refine zei ?_
               refine ziL ?_
               obtain ⟨row,qr,h⟩:=bs h
               refine zqL fun (hlen:List.length vs=List.length e)=>?_
               have hc9:=zo qr
               have hv9:Int.toNat jj < List.length vs:=by rw [hlen]; exact hc9.2.1
               refine zs9 (b:=5) (i:=Int.toNat jj) (q:=6) (r:=row) [some (4,[[.ipt 2 [[.isl 6 (List.map zb v7.1),.imp (List.map (rKV (fun x=>iA x)) v7.2.1)]] 0 0,.mmp 1,.mmp 2,.msl 3 0 (List.length v7.2.2.2.2)]]),some (2,List.map (rKV (fun x=>iA x)) v80),some (2,List.map (rKV (fun x=>.agg (zf x))) v101),some (1,List.map zz v7.2.2.2.2),some (1,List.map (rI .i64) v82),some (1,List.map oR (List.set (List.map AV.lit vs) (Int.toNat jj) (.msl 6 0 (List.length row)))),some (2,List.map zf row)] rF rfl hI hc9.2.2 rfl rfl fun I hI1 hI2=>?_
               refine erg rF rfl<|u<|asg rfl<|zc ?_
               obtain ⟨o,ho,h⟩:=bs h
               refine zmY rF ?_
               refine zU (X:=(List ze)×Int×Int) (B:=(List ze)×Int) (R:=Bool) (fun z=>[(1,.isl 6 (List.map zae v2)),(8,.ipt 1 [[.isl 6 (List.map zb v8.L)]] 0 0),(10,.mpt 0 0 0),(11,.msl 4 0 (List.length v82)),(12,.msl 5 0 (List.length vs)),(16,iA v83),(25,iA z.2.1),(26,iA jj),(27,iA z.2.2)]) (fun z=>[some (4,[[.ipt 2 [[.isl 6 (List.map zb v7.1),.imp (List.map (rKV (fun x=>iA x)) v7.2.1)]] 0 0,.mmp 1,.mmp 2,.msl 3 0 (List.length v7.2.2.2.2)]]),some (2,List.map (rKV (fun x=>iA x)) v80),some (2,List.map (rKV (fun x=>.agg (zf x))) v101),some (1,List.map zz v7.2.2.2.2),some (1,List.map (rI .i64) v82),some (1,List.map oR (List.set (List.map AV.lit vs) (Int.toNat jj) (.msl 6 0 (List.length z.1)))),some (2,List.map zf z.1)]) (fun b=>[(1,.isl 6 (List.map zae v2)),(8,.ipt 1 [[.isl 6 (List.map zb v8.L)]] 0 0),(10,.mpt 0 0 0),(11,.msl 4 0 (List.length v82)),(12,.msl 5 0 (List.length vs)),(16,iA v83),(25,iA b.2),(26,iA jj)]) (fun b=>[some (4,[[.ipt 2 [[.isl 6 (List.map zb v7.1),.imp (List.map (rKV (fun x=>iA x)) v7.2.1)]] 0 0,.mmp 1,.mmp 2,.msl 3 0 (List.length v7.2.2.2.2)]]),some (2,List.map (rKV (fun x=>iA x)) v80),some (2,List.map (rKV (fun x=>.agg (zf x))) v101),some (1,List.map zz v7.2.2.2.2),some (1,List.map (rI .i64) v82),some (1,List.map oR (List.set (List.map AV.lit vs) (Int.toNat jj) (.msl 6 0 (List.length b.1)))),some (2,List.map zf b.1)]) (fun r env st=>zaD Tryz.prog Tryz.f5 0 (bA r) [] env st) ho ⟨[.old 0,.old 1,.old 2,.old 3,.old 4,.old 5,.old 6],ce rfl rfl<|ce rfl rfl<|cv rfl (.mpt rfl)<|cv rfl (.msl rfl)<|cv rfl (.msl rfl)<|ce rfl rfl<|ce rfl rfl<|ce rfl rfl<|ce rfl rfl<|cn,rfl,⟨⟨_,rfl,zn ⟨ci rfl,.mmp rfl,.mmp rfl,.msl rfl,trivial⟩⟩,⟨_,rfl,zg (fun _=>rfl)⟩,⟨_,rfl,zg (fun _=>rfl)⟩,⟨_,rfl,zg (fun _=>rfl)⟩,⟨_,rfl,zg (fun _=>rfl)⟩,⟨_,rfl,zos rfl rfl⟩,⟨_,rfl,zg (fun _=>rfl)⟩,trivial⟩,rfl,Nat.le_of_ble_eq_true rfl⟩ ?_ ?_ ?_
               ·
                rintro ⟨rw,m,kk⟩ r h
                replace h:zjb v8 jj rw m kk=some r:=h
                unfold zjb at h
                have qo:=ztc (vs:=vs) (X:=AV.msl 6 0 (List.length rw)) hc9.1 hv9
                refine zl ?_
                refine rg rfl<|u<|mv rfl<|u<|mv rfl<|u<|mv rfl<|u<|ixO zpf rfl zf7 rfl rfl (by simp) rfl rfl qo<|u<|ldM zf7 rfl rfl (zo qo).2.2 rfl<|u<|lnM zf7 rfl rfl rfl<|u<|lss ti3 rfl rfl<|zc ?_
                refine zk rfl (fun hd2=>?_) (fun hd2=>?_)
                ·
                 replace h:=bT hd2 h
                 refine zm ?_
                 refine zl ?_
                 refine zs ?_
                 obtain ⟨cl,qa,h⟩:=bs h
                 obtain ⟨fl,qb,h⟩:=bs h
                 obtain ⟨x,qx,h⟩:=bs h
                 refine rg rfl<|u<|mv rfl<|u<|nc rfl rfl<|u<|fa zha rfl rfl rfl<|u<|ld zbl rfl rfl<|u<|mv rfl<|u<|ixI zbl rfl zS rfl rfl rfl qa<|u<|fa zS rfl rfl rfl<|u<|ldI zes rfl (zo qa).2.2 rfl<|u<|mv rfl<|u<|ixI zes rfl zcG rfl rfl rfl qb<|u<|fa zcG rfl rfl rfl<|u<|ldI ti4 rfl (zo qb).2.2 rfl<|u<|mv rfl<|z2 (j:=12) 8 rfl rfl rfl rfl rfl gpn (fun hb=>g rfl hb<|mv rfl<|g rfl hb<|mv rfl<|g rfl hb<|ixO zpf rfl zf7 rfl rfl (by simp) rfl rfl qo<|g rfl hb<|ldM zf7 rfl rfl (zo qo).2.2 rfl<|g rfl hb<|mv rfl<|g rfl hb<|ixM zf7 rfl zdO rfl rfl rfl rfl qx<|g rfl hb<|fa zdO rfl rfl rfl<|g rfl hb<|ldM ti4 rfl rfl (zo qx).2.2 rfl<|zc (egA [205,206,207,208,209,210,211,212] 8 hb rfl rfl rfl rfl)) zdb<|zc ?_
                 refine zk rfl (fun hd3=>?_) (fun hd3=>?_)
                 ·
                  replace h:=bT hd3 h
                  refine rg rfl<|u<|mv rfl<|u<|mv rfl<|u<|ixO zpf rfl zf7 rfl rfl (by simp) rfl rfl qo<|u<|ldM zf7 rfl rfl (zo qo).2.2 rfl<|u<|mv rfl<|u<|mv rfl<|u<|add ti3 rfl rfl<|u<|cvi ti3 znI rfl rfl rfl<|u<|ixM zf7 rfl zdO rfl rfl rfl rfl qx<|u<|fa zdO rfl rfl rfl<|u<|zut (c':=ze.mk x.Ref (IntKind.i32.wrap (IntKind.i64.wrap (6+m)))) znI rfl rfl (zo qx).2.2 rfl rfl rfl rfl rfl<|zc ?_
                  refine rl rfl<|u<|mv rfl<|u<|add ti3 rfl rfl<|u<|asg rfl<|zc ?_
                  refine rl rfl<|u<|mv rfl<|u<|add ti3 rfl rfl<|u<|asg rfl<|zc ?_
                  obtain rfl:=sm h
                  exact ⟨_,rfl,[.old 0,.old 1,.old 2,.old 3,.old 4,.old 5,.old 6],ce rfl rfl<|ce rfl rfl<|cv rfl (.mpt rfl)<|cv rfl (.msl rfl)<|cv rfl (.msl rfl)<|ce rfl rfl<|ce rfl rfl<|ce rfl rfl<|ce rfl rfl<|cn,rfl,⟨⟨_,rfl,zn ⟨ci rfl,.mmp rfl,.mmp rfl,.msl rfl,trivial⟩⟩,⟨_,rfl,zg (fun _=>rfl)⟩,⟨_,rfl,zg (fun _=>rfl)⟩,⟨_,rfl,zg (fun _=>rfl)⟩,⟨_,rfl,zg (fun _=>rfl)⟩,⟨_,rfl,zos (by simp) rfl⟩,⟨_,rfl,zg (fun _=>rfl)⟩,trivial⟩,rfl,Nat.le_of_ble_eq_true rfl⟩
                 ·
                  replace h:=bF hd3 h
                  refine zm ?_
                  refine rl rfl<|u<|mv rfl<|u<|add ti3 rfl rfl<|u<|asg rfl<|zc ?_
                  obtain rfl:=sm h
                  exact ⟨_,rfl,[.old 0,.old 1,.old 2,.old 3,.old 4,.old 5,.old 6],ce rfl rfl<|ce rfl rfl<|cv rfl (.mpt rfl)<|cv rfl (.msl rfl)<|cv rfl (.msl rfl)<|ce rfl rfl<|ce rfl rfl<|ce rfl rfl<|ce rfl rfl<|cn,rfl,⟨⟨_,rfl,zn ⟨ci rfl,.mmp rfl,.mmp rfl,.msl rfl,trivial⟩⟩,⟨_,rfl,zg (fun _=>rfl)⟩,⟨_,rfl,zg (fun _=>rfl)⟩,⟨_,rfl,zg (fun _=>rfl)⟩,⟨_,rfl,zg (fun _=>rfl)⟩,⟨_,rfl,zos rfl rfl⟩,⟨_,rfl,zg (fun _=>rfl)⟩,trivial⟩,rfl,Nat.le_of_ble_eq_true rfl⟩
                ·
                 replace h:=bF hd2 h
                 refine zB ?_
                 obtain rfl:=sm h
                 exact ⟨rfl,_,rfl,[.old 0,.old 1,.old 2,.old 3,.old 4,.old 5,.old 6],ce rfl rfl<|ce rfl rfl<|cv rfl (.mpt rfl)<|cv rfl (.msl rfl)<|cv rfl (.msl rfl)<|ce rfl rfl<|ce rfl rfl<|ce rfl rfl<|cn,rfl,⟨⟨_,rfl,zn ⟨ci rfl,.mmp rfl,.mmp rfl,.msl rfl,trivial⟩⟩,⟨_,rfl,zg (fun _=>rfl)⟩,⟨_,rfl,zg (fun _=>rfl)⟩,⟨_,rfl,zg (fun _=>rfl)⟩,⟨_,rfl,zg (fun _=>rfl)⟩,⟨_,rfl,zos rfl rfl⟩,⟨_,rfl,zg (fun _=>rfl)⟩,trivial⟩,rfl,Nat.le_of_ble_eq_true rfl⟩
               ·
                rintro ⟨rw,m⟩ rfl
                refine zx ?_
                replace h:some (.inl (List.set e (Int.toNat jj) rw,m,(IntKind.i64.wrap (jj+1))))=some r:=h
                refine znT (b:=5) (i:=Int.toNat jj) (q:=6) (r:=rw) (fun val=>[some (4,[[.ipt 2 [[.isl 6 (List.map zb v7.1),.imp (List.map (rKV (fun x=>iA x)) v7.2.1)]] 0 0,.mmp 1,.mmp 2,.msl 3 0 (List.length v7.2.2.2.2)]]),some (2,List.map (rKV (fun x=>iA x)) v80),some (2,List.map (rKV (fun x=>.agg (zf x))) v101),some (1,List.map zz v7.2.2.2.2),some (1,List.map (rI .i64) v82),some (1,List.map zV (List.set vs (Int.toNat jj) val)),none]) rF (by decide) rfl rfl hc9.2.1 hI1 hI2 (fun _=>rfl) fun val I hI=>?_
                refine el rF rfl<|u<|mv rfl<|u<|add ti3 rfl rfl<|u<|asg rfl<|zc ?_
                obtain rfl:=sm h
                exact ⟨_,rfl,rfl,hI,[.old 0,.old 1,.old 2,.old 3,.old 4,.old 5],ce rfl rfl<|ce rfl rfl<|cv rfl (.mpt rfl)<|cv rfl (.msl rfl)<|cv rfl (zqd (by simp) rfl)<|ce rfl rfl<|ce rfl rfl<|ce rfl rfl<|cn,rfl,⟨⟨_,rfl,zn ⟨ci rfl,.mmp rfl,.mmp rfl,.msl rfl,trivial⟩⟩,⟨_,rfl,zg (fun _=>rfl)⟩,⟨_,rfl,zg (fun _=>rfl)⟩,⟨_,rfl,zg (fun _=>rfl)⟩,⟨_,rfl,zg (fun _=>rfl)⟩,⟨_,rfl,zg (fun _=>rfl)⟩,trivial⟩,rfl,Nat.le_of_ble_eq_true rfl⟩
               ·
                rintro r' rfl env st hp
                obtain rfl:=sm h
                exact ⟨_,rfl,hp⟩
              ·
               replace h:=bF hd1 h
               refine zkr ?_
               obtain rfl:=sm h
               exact ⟨rfl,_,rfl,rfl,hI,[.old 0,.old 1,.old 2,.old 3,.old 4,.old 5],ce rfl rfl<|ce rfl rfl<|cv rfl (.mpt rfl)<|cv rfl (.msl rfl)<|cv rfl (.msl rfl)<|ce rfl rfl<|cn,rfl,⟨⟨_,rfl,zn ⟨ci rfl,.mmp rfl,.mmp rfl,.msl rfl,trivial⟩⟩,⟨_,rfl,zg (fun _=>rfl)⟩,⟨_,rfl,zg (fun _=>rfl)⟩,⟨_,rfl,zg (fun _=>rfl)⟩,⟨_,rfl,zg (fun _=>rfl)⟩,⟨_,rfl,zg (fun _=>rfl)⟩,trivial⟩,rfl,Nat.le_of_ble_eq_true rfl⟩
             ·
              rintro e vs I rfl hI
              exact ⟨⟨v80,v101,v82,e⟩,h,rfl,hI,[.old 0,.old 1,.old 2,.old 3,.old 4,.old 5],ce rfl rfl<|ce rfl rfl<|cv rfl (.mpt rfl)<|cv rfl (.msl rfl)<|cv rfl (.msl rfl)<|ce rfl rfl<|cn,rfl,⟨⟨_,rfl,zn ⟨ci rfl,.mmp rfl,.mmp rfl,.msl rfl,trivial⟩⟩,⟨_,rfl,zg (fun _=>rfl)⟩,⟨_,rfl,zg (fun _=>rfl)⟩,⟨_,rfl,zg (fun _=>rfl)⟩,⟨_,rfl,zg (fun _=>rfl)⟩,⟨_,rfl,zg (fun _=>rfl)⟩,trivial⟩,rfl,Nat.le_of_ble_eq_true rfl⟩
             ·
              rintro r' rfl env st I vs e hp
              obtain rfl:=sm h
              exact ⟨_,rfl,hp⟩
            ·
             rintro r' rfl env st hp
             obtain rfl:=sm h
             exact ⟨_,rfl,hp⟩
         ·
          rintro ⟨v102,v103,v104,e⟩ vs I h hI
          replace h:zid v7 v8 v83 v102 v103 v104 e=some r:=h
          unfold zid at h
          obtain ⟨v105,q92,h⟩:=bs h
          refine zei (zoK (b:=5) [.mpt 0 0 0,.ipt 1 [[.isl 6 (List.map zb v8.L)]] 0 0,.msl 4 0 (List.length v104),.msl 5 0 (List.length vs)] 4 rF rfl rfl (ziT v7.1 v7.2.1 v102 v103 v7.2.2.2.2 v8.L v104 e q92) hI rfl ⟨.inl (zbM rfl ⟨(si rfl),(zjG rfl (fun _=>rfl)),(zjG rfl (fun _=>rfl)),(ziz rfl (fun _=>rfl)),trivial⟩),.inl (si rfl),.inl (ziz rfl (fun _=>rfl)),.inr ⟨rfl,rfl⟩,trivial⟩ ?_)
          refine u<|mv rfl<|u<|mv rfl<|u<|mv rfl<|u<|mv rfl<|zc ⟨rfl,rfl,rfl,?_⟩
          refine u<|nt rfl<|zc ?_
          refine zev rfl (fun hc93=>?_) (fun hc93=>?_)
          ·
           replace h:=bT hc93 h
           refine erg rF rfl<|u<|asg rfl<|zc ?_
           refine zmX ?_
           obtain rfl:=sm h
           exact ⟨_,rfl,_,rfl,[],ci rfl,rfl,trivial,rfl,Nat.le_of_ble_eq_true rfl⟩
          ·
           replace h:=bF hc93 h
           refine zfa ?_
           exact ⟨⟨v102,v103,v104,e⟩,h,rfl,hI,[.old 0,.old 1,.old 2,.old 3,.old 4,.old 5],ce rfl rfl<|ce rfl rfl<|cv rfl (.mpt rfl)<|cv rfl (.msl rfl)<|cv rfl (.msl rfl)<|ce rfl rfl<|cn,rfl,⟨⟨_,rfl,zn ⟨ci rfl,.mmp rfl,.mmp rfl,.msl rfl,trivial⟩⟩,⟨_,rfl,zg (fun _=>rfl)⟩,⟨_,rfl,zg (fun _=>rfl)⟩,⟨_,rfl,zg (fun _=>rfl)⟩,⟨_,rfl,zg (fun _=>rfl)⟩,⟨_,rfl,zg (fun _=>rfl)⟩,trivial⟩,rfl,Nat.le_of_ble_eq_true rfl⟩
       ·
        rintro ⟨v106,v107,v108,e⟩ vs I h hI
        replace h:zja v83 v106 v107 v108 e=some r:=h
        unfold zja at h
        refine el rF rfl<|u<|mv rfl<|u<|add ti3 rfl rfl<|u<|asg rfl<|zc ?_
        obtain rfl:=sm h
        exact ⟨_,rfl,rfl,hI,[.old 0,.old 1,.old 2,.old 3,.old 4,.old 5],ce rfl rfl<|ce rfl rfl<|cv rfl (.mpt rfl)<|cv rfl (.msl rfl)<|cv rfl (.msl rfl)<|ce rfl rfl<|cn,rfl,⟨⟨_,rfl,zn ⟨ci rfl,.mmp rfl,.mmp rfl,.msl rfl,trivial⟩⟩,⟨_,rfl,zg (fun _=>rfl)⟩,⟨_,rfl,zg (fun _=>rfl)⟩,⟨_,rfl,zg (fun _=>rfl)⟩,⟨_,rfl,zg (fun _=>rfl)⟩,⟨_,rfl,zg (fun _=>rfl)⟩,trivial⟩,rfl,Nat.le_of_ble_eq_true rfl⟩
      ·
       replace h:=bF hc67 h
       refine zkr ?_
       obtain rfl:=sm h
       exact ⟨rfl,_,rfl,rfl,hI,[.old 0,.old 1,.old 2,.old 3,.old 4,.old 5],ce rfl rfl<|cv rfl (.mpt rfl)<|cv rfl (.msl rfl)<|cv rfl (.msl rfl)<|cn,rfl,⟨⟨_,rfl,zn ⟨ci rfl,.mmp rfl,.mmp rfl,.msl rfl,trivial⟩⟩,⟨_,rfl,zg (fun _=>rfl)⟩,⟨_,rfl,zg (fun _=>rfl)⟩,⟨_,rfl,zg (fun _=>rfl)⟩,⟨_,rfl,zg (fun _=>rfl)⟩,⟨_,rfl,zg (fun _=>rfl)⟩,trivial⟩,rfl,Nat.le_of_ble_eq_true rfl⟩
     ·
      rintro ⟨v109,v110,v111,e⟩ vs I rfl hI
      replace h:zo9 v7 v8 v109 v110 v111 e=some r:=h
      unfold zo9 at h
      refine erg rF rfl<|u<|mv rfl<|u<|sc [0,1,2,3] (zfO v7.1 v7.2.1 v109 v110 v7.2.2.2.2 rfl) rfl rfl rfl rfl ⟨(.mpt rfl),trivial⟩ ⟨⟨_,rfl,⟨(rnI rfl),(.mmp rfl),(.mmp rfl),(.msl rfl),trivial⟩⟩,⟨rfl,mkI (fun _=>rfl)⟩,⟨rfl,mkI (fun _=>rfl)⟩,⟨rfl,mkI (fun _=>rfl)⟩,trivial⟩<|zcj (env0:=[(8,.ipt 1 [[.isl 6 (List.map zb v8.L)]] 0 0),(10,.mpt 0 0 0),(11,.msl 4 0 (List.length v111)),(12,.msl 5 0 (List.length vs)),(321,.mpt 6 0 0)]) (st0:=[some (4,[[.ipt 2 [[.isl 6 (List.map zb v7.1),.imp (List.map (rKV (fun x=>iA x)) v7.2.1)]] 0 0,.mmp 1,.mmp 2,.msl 3 0 (List.length ((zj v7.1 v7.2.1 v109 v110 v7.2.2.2.2).2.2.2.2))]]),some (2,List.map (rKV (fun x=>iA x)) v109),some (2,List.map (rKV (fun x=>.agg (zf x))) v110),some (1,List.map zz ((zj v7.1 v7.2.1 v109 v110 v7.2.2.2.2).2.2.2.2)),some (1,List.map (rI .i64) v111),some (1,List.map zV vs),some (4,[[.ipt 2 [[.isl 6 (List.map zb ((zj v7.1 v7.2.1 v109 v110 v7.2.2.2.2).1)),.imp (List.map (rKV (fun x=>iA x)) ((zj v7.1 v7.2.1 v109 v110 v7.2.2.2.2).2.1))]] 0 0,.mmp 7,.mmp 8,.msl 3 0 (List.length ((zj v7.1 v7.2.1 v109 v110 v7.2.2.2.2).2.2.2.2))]]),some (2,List.map (rKV (fun x=>iA x)) ((zj v7.1 v7.2.1 v109 v110 v7.2.2.2.2).2.2.1)),some (2,List.map (rKV (fun x=>.agg (zf x))) ((zj v7.1 v7.2.1 v109 v110 v7.2.2.2.2).2.2.2.1))]) ⟨[.old 0,.old 1,.old 2,.old 3,.old 4,.old 5,.old 6,.old 7,.old 8],ce rfl rfl<|cv rfl (.mpt rfl)<|cv rfl (.msl rfl)<|cv rfl (.msl rfl)<|cv rfl (.mpt rfl)<|cn,rfl,⟨⟨_,rfl,zn ⟨ci rfl,.mmp rfl,.mmp rfl,zqd (by simp) rfl,trivial⟩⟩,⟨_,rfl,zg (fun _=>rfl)⟩,⟨_,rfl,zg (fun _=>rfl)⟩,⟨_,rfl,zg (fun _=>rfl)⟩,⟨_,rfl,zg (fun _=>rfl)⟩,⟨_,rfl,zg (fun _=>rfl)⟩,⟨_,rfl,zn ⟨ci rfl,.mmp rfl,.mmp rfl,zqd (by simp) rfl,trivial⟩⟩,⟨_,rfl,zg (fun _=>rfl)⟩,⟨_,rfl,zg (fun _=>rfl)⟩,trivial⟩,rfl,Nat.le_of_ble_eq_true rfl⟩<|u<|asg rfl<|zc ?_
      refine zei (zmY rF ?_)
      refine rg rfl<|u<|asg rfl<|zc ?_
      obtain ⟨o,ho,h⟩:=bs h
      refine zU (X:=(List (List UInt8×Int))×(List (List UInt8))×Int) (B:=(List (List UInt8))) (R:=Bool) (fun z=>[(8,.ipt 1 [[.isl 6 (List.map zb v8.L)]] 0 0),(10,.mpt 0 0 0),(11,.msl 4 0 (List.length v111)),(12,.msl 5 0 (List.length vs)),(28,.mpt 6 0 0),(29,iA z.2.2)]) (fun z=>[some (4,[[.ipt 2 [[.isl 6 (List.map zb v7.1),.imp (List.map (rKV (fun x=>iA x)) v7.2.1)]] 0 0,.mmp 1,.mmp 2,.msl 3 0 (List.length z.2.1)]]),some (2,List.map (rKV (fun x=>iA x)) z.1),some (2,List.map (rKV (fun x=>.agg (zf x))) v110),some (1,List.map zz z.2.1),some (1,List.map (rI .i64) v111),some (1,List.map zV vs),some (4,[[.ipt 2 [[.isl 6 (List.map zb ((zj v7.1 v7.2.1 v109 v110 v7.2.2.2.2).1)),.imp (List.map (rKV (fun x=>iA x)) ((zj v7.1 v7.2.1 v109 v110 v7.2.2.2.2).2.1))]] 0 0,.mmp 7,.mmp 8,.msl 3 0 (List.length z.2.1)]]),some (2,List.map (rKV (fun x=>iA x)) ((zj v7.1 v7.2.1 v109 v110 v7.2.2.2.2).2.2.1)),some (2,List.map (rKV (fun x=>.agg (zf x))) ((zj v7.1 v7.2.1 v109 v110 v7.2.2.2.2).2.2.2.1))]) (fun b=>[(8,.ipt 1 [[.isl 6 (List.map zb v8.L)]] 0 0),(11,.msl 0 0 (List.length v111)),(12,.msl 1 0 (List.length vs)),(28,.mpt 2 0 0)]) (fun b=>[some (1,List.map (rI .i64) v111),some (1,List.map zV vs),some (4,[[.ipt 2 [[.isl 6 (List.map zb ((zj v7.1 v7.2.1 v109 v110 v7.2.2.2.2).1)),.imp (List.map (rKV (fun x=>iA x)) ((zj v7.1 v7.2.1 v109 v110 v7.2.2.2.2).2.1))]] 0 0,.mmp 3,.mmp 4,.msl 5 0 (List.length b)]]),some (2,List.map (rKV (fun x=>iA x)) ((zj v7.1 v7.2.1 v109 v110 v7.2.2.2.2).2.2.1)),some (2,List.map (rKV (fun x=>.agg (zf x))) ((zj v7.1 v7.2.1 v109 v110 v7.2.2.2.2).2.2.2.1)),some (1,List.map zz b)]) (fun r env st=>zaD Tryz.prog Tryz.f5 0 (bA r) [] env st) ho ⟨[.old 0,.old 1,.old 2,.old 3,.old 4,.old 5,.old 6,.old 7,.old 8],ce rfl rfl<|cv rfl (.mpt rfl)<|cv rfl (.msl rfl)<|cv rfl (.msl rfl)<|cv rfl (.mpt rfl)<|ce rfl rfl<|cn,rfl,⟨⟨_,rfl,zn ⟨ci rfl,.mmp rfl,.mmp rfl,.msl rfl,trivial⟩⟩,⟨_,rfl,zg (fun _=>rfl)⟩,⟨_,rfl,zg (fun _=>rfl)⟩,⟨_,rfl,zg (fun _=>rfl)⟩,⟨_,rfl,zg (fun _=>rfl)⟩,⟨_,rfl,zg (fun _=>rfl)⟩,⟨_,rfl,zn ⟨ci rfl,.mmp rfl,.mmp rfl,.msl rfl,trivial⟩⟩,⟨_,rfl,zg (fun _=>rfl)⟩,⟨_,rfl,zg (fun _=>rfl)⟩,trivial⟩,rfl,Nat.le_of_ble_eq_true rfl⟩ ?_ ?_ ?_
      ·
       rintro ⟨v116,v117,v118⟩ r h
       replace h:zie v7 v8 v110 v116 v117 v118=some r:=h
       unfold zie at h
       refine zl ?_
       refine rg rfl<|u<|mv rfl<|u<|mv rfl<|u<|nc rfl rfl<|u<|fa zha rfl rfl rfl<|u<|ld zbl rfl rfl<|u<|lnI zbl rfl rfl<|u<|lss ti3 rfl rfl<|zc ?_
       refine zk rfl (fun hc96=>?_) (fun hc96=>?_)
       ·
        replace h:=bT hc96 h
        refine zm ?_
        refine zl ?_
        refine zs ?_
        obtain ⟨v119,q97,h⟩:=bs h
        refine rl rfl<|u<|mv rfl<|u<|mv rfl<|u<|nc rfl rfl<|u<|fa zha rfl rfl rfl<|u<|ld zbl rfl rfl<|u<|mv rfl<|u<|ixI zbl rfl zS rfl rfl rfl q97<|u<|fa zS rfl rfl rfl<|u<|ldI ti9 rfl (zo q97).2.2 rfl<|u<|sc [0,1,2,3] (zde v7.1 v7.2.1 v116 v110 v117 v119.Name 1 rfl) rfl rfl rfl rfl ⟨(.mpt rfl),(rnI rfl),(rnI rfl),trivial⟩ ⟨⟨_,rfl,⟨(rnI rfl),(.mmp rfl),(.mmp rfl),(.msl rfl),trivial⟩⟩,⟨rfl,mkI (fun _=>rfl)⟩,⟨rfl,mkI (fun _=>rfl)⟩,⟨rfl,mkI (fun _=>rfl)⟩,trivial⟩<|zcj (env0:=[(8,.ipt 1 [[.isl 6 (List.map zb v8.L)]] 0 0),(10,.mpt 0 0 0),(11,.msl 4 0 (List.length v111)),(12,.msl 5 0 (List.length vs)),(28,.mpt 6 0 0),(29,iA v118)]) (st0:=[some (4,[[.ipt 2 [[.isl 6 (List.map zb v7.1),.imp (List.map (rKV (fun x=>iA x)) v7.2.1)]] 0 0,.mmp 1,.mmp 2,.msl 3 0 (List.length v117)]]),some (2,List.map (rKV (fun x=>iA x)) (zd v7.1 v7.2.1 v116 v110 v117 v119.Name 1)),some (2,List.map (rKV (fun x=>.agg (zf x))) v110),some (1,List.map zz v117),some (1,List.map (rI .i64) v111),some (1,List.map zV vs),some (4,[[.ipt 2 [[.isl 6 (List.map zb ((zj v7.1 v7.2.1 v109 v110 v7.2.2.2.2).1)),.imp (List.map (rKV (fun x=>iA x)) ((zj v7.1 v7.2.1 v109 v110 v7.2.2.2.2).2.1))]] 0 0,.mmp 7,.mmp 8,.msl 3 0 (List.length v117)]]),some (2,List.map (rKV (fun x=>iA x)) ((zj v7.1 v7.2.1 v109 v110 v7.2.2.2.2).2.2.1)),some (2,List.map (rKV (fun x=>.agg (zf x))) ((zj v7.1 v7.2.1 v109 v110 v7.2.2.2.2).2.2.2.1))]) ⟨[.old 0,.old 1,.old 2,.old 3,.old 4,.old 5,.old 6,.old 7,.old 8],ce rfl rfl<|cv rfl (.mpt rfl)<|cv rfl (.msl rfl)<|cv rfl (.msl rfl)<|cv rfl (.mpt rfl)<|ce rfl rfl<|cn,rfl,⟨⟨_,rfl,zn ⟨ci rfl,.mmp rfl,.mmp rfl,.msl rfl,trivial⟩⟩,⟨_,rfl,zg (fun _=>rfl)⟩,⟨_,rfl,zg (fun _=>rfl)⟩,⟨_,rfl,zg (fun _=>rfl)⟩,⟨_,rfl,zg (fun _=>rfl)⟩,⟨_,rfl,zg (fun _=>rfl)⟩,⟨_,rfl,zn ⟨ci rfl,.mmp rfl,.mmp rfl,.msl rfl,trivial⟩⟩,⟨_,rfl,zg (fun _=>rfl)⟩,⟨_,rfl,zg (fun _=>rfl)⟩,trivial⟩,rfl,Nat.le_of_ble_eq_true rfl⟩<|zc ?_
        refine rl rfl<|u<|mv rfl<|u<|add ti3 rfl rfl<|u<|asg rfl<|zc ?_
        obtain rfl:=sm h
        exact ⟨_,rfl,[.old 0,.old 1,.old 2,.old 3,.old 4,.old 5,.old 6,.old 7,.old 8],ce rfl rfl<|cv rfl (.mpt rfl)<|cv rfl (.msl rfl)<|cv rfl (.msl rfl)<|cv rfl (.mpt rfl)<|ce rfl rfl<|cn,rfl,⟨⟨_,rfl,zn ⟨ci rfl,.mmp rfl,.mmp rfl,.msl rfl,trivial⟩⟩,⟨_,rfl,zg (fun _=>rfl)⟩,⟨_,rfl,zg (fun _=>rfl)⟩,⟨_,rfl,zg (fun _=>rfl)⟩,⟨_,rfl,zg (fun _=>rfl)⟩,⟨_,rfl,zg (fun _=>rfl)⟩,⟨_,rfl,zn ⟨ci rfl,.mmp rfl,.mmp rfl,.msl rfl,trivial⟩⟩,⟨_,rfl,zg (fun _=>rfl)⟩,⟨_,rfl,zg (fun _=>rfl)⟩,trivial⟩,rfl,Nat.le_of_ble_eq_true rfl⟩
       ·
        replace h:=bF hc96 h
        refine zB ?_
        obtain rfl:=sm h
        exact ⟨rfl,_,rfl,[.old 4,.old 5,.old 6,.old 7,.old 8,.old 3],ce rfl rfl<|cv rfl (.msl rfl)<|cv rfl (.msl rfl)<|cv rfl (.mpt rfl)<|cn,rfl,⟨⟨_,rfl,zg (fun _=>rfl)⟩,⟨_,rfl,zg (fun _=>rfl)⟩,⟨_,rfl,zn ⟨ci rfl,.mmp rfl,.mmp rfl,.msl rfl,trivial⟩⟩,⟨_,rfl,zg (fun _=>rfl)⟩,⟨_,rfl,zg (fun _=>rfl)⟩,⟨_,rfl,zg (fun _=>rfl)⟩,trivial⟩,rfl,Nat.le_of_ble_eq_true rfl⟩
      ·
       rintro v120 rfl
       replace h:zpa v7 v8 v109 v110 v111 e v120=some r:=h
       unfold zpa at h
       refine zx ?_
       obtain ⟨v121,q98,h⟩:=bs h
       refine zei (zoK (b:=1) [.mpt 2 0 0,.ipt 1 [[.isl 6 (List.map zb v8.L)]] 0 0,.msl 0 0 (List.length v111),.msl 1 0 (List.length vs)] 4 rF rfl rfl (ziT ((zj v7.1 v7.2.1 v109 v110 v7.2.2.2.2).1) ((zj v7.1 v7.2.1 v109 v110 v7.2.2.2.2).2.1) ((zj v7.1 v7.2.1 v109 v110 v7.2.2.2.2).2.2.1) ((zj v7.1 v7.2.1 v109 v110 v7.2.2.2.2).2.2.2.1) v120 v8.L v111 e q98) hI rfl ⟨.inl (zbM rfl ⟨(si rfl),(zjG rfl (fun _=>rfl)),(zjG rfl (fun _=>rfl)),(ziz rfl (fun _=>rfl)),trivial⟩),.inl (si rfl),.inl (ziz rfl (fun _=>rfl)),.inr ⟨rfl,rfl⟩,trivial⟩ ?_)
       refine u<|mv rfl<|u<|mv rfl<|u<|mv rfl<|u<|mv rfl<|zc ⟨rfl,rfl,rfl,?_⟩
       refine u<|asg rfl<|zc ?_
       refine zmX ?_
       obtain rfl:=sm h
       exact ⟨_,rfl,[],ci rfl,rfl,trivial,rfl,Nat.le_of_ble_eq_true rfl⟩
      ·
       rintro r' rfl env st hp
       obtain rfl:=sm h
       exact hp
     ·
      rintro r' rfl env st I vs e hp
      obtain rfl:=sm h
      exact hp
    ·
     rintro r' rfl env st I vs e hp
     obtain rfl:=sm h
     exact hp
end Go.Proofs.YthmnlfenkhmmhaaGreat
namespace Go.Proofs.YthmnlfenkhmmhaaGreat
set_option linter.unusedSimpArgs false
set_option linter.unusedVariables false
theorem zy {α:Type} (l:List α) (i:Nat):idx l (i:Int)=l[i]?:=by
  unfold idx
  rw [if_pos (by omega),Int.toNat_natCast]
theorem ziO {α:Type} (l:List α):idx l 0=l[0]?:=zy l 0
theorem zjk {n:Int} (h1:-9223372036854775808≤n) (h2:n≤9223372036854775807):IntKind.i64.wrap n=n:=IntWalk.i64_in n ⟨h1,h2⟩
theorem zK {i:Nat} (h:i < 9223372036854775807):IntKind.i64.wrap ((i:Int)+1)=((i+1:Nat):Int):=by
  rw [zjk (by omega) (by omega)]; omega
theorem zmV {α:Type} {l:List α} {a b:Int} (h0:0≤a) (h1:a≤b) (h2:b≤l.length):zkP l a b=some ((l.drop a.toNat).take (b.toNat - a.toNat)):=by
  unfold zkP; rw [if_pos ⟨h0,h1,h2⟩]
theorem zkp {α:Type} {l:List α} {b:Nat} (h:b≤l.length):zkP l 0 (b:Int)=some (l.take b):=by
  rw [zmV (by omega) (by omega) (by omega)]; simp
theorem zmU {α:Type} {l:List α} {a:Nat} (h:a≤l.length):zkP l (a:Int) (l.length:Int)=some (l.drop a):=by
  rw [zmV (by omega) (by omega) (by omega)]
  simp only [Int.toNat_natCast]
  rw [List.take_of_length_le (by simp)]
theorem zcx {α:Type} {w:Nat} {l x:List α} (h:(l.length+x.length) * w≤140737488355328) (h2:l.length+x.length≤9223372036854775807):zhp w l x=some (l++x):=by
  unfold zhp; rw [if_pos ⟨h,h2⟩]
theorem zqy {l x:List UInt8} (h:l.length+x.length≤9223372036854775807):zup l x=some (l++x):=by unfold zup; rw [if_pos h]
def zqc {R U:Type} (u:U):Option R→Sum U R
  | some r=>.inr r
  | none=>.inl u
def zs1 {R U:Type} (i:Nat):Option R→Sum Int (Sum U R)
  | some r=>.inr (.inr r)
  | none=>.inl ((i+1:Nat):Int)
theorem zhD {α R U:Type} {body:Int→Option (Sum Int (Sum U R))} {l:List α} {g:α→Option R} {u:U} {k:Nat}
    (hb:∀ (i:Nat) x,k≤i→l[i]?=some x→body (i:Int)=some (zs1 i (g x)))
    (he:body (l.length:Int)=some (.inr (.inl u))) (hk:k≤l.length):zu body (k:Int)=some (zqc u ((l.drop k).findSome? g)):=by
  have key:∀ d i,l.length - i=d→k≤i→i≤l.length→zu body (i:Int)=some (zqc u ((l.drop i).findSome? g)):=by
    intro d
    induction d with
    | zero =>
      intro i hd hki hi
      have:i=l.length:=by omega
      subst this
      rw [zH,he,List.drop_length]
      rfl
    | succ d ih =>
      intro i hd hki hi
      have hlt:i < l.length:=by omega
      rw [zH,hb i l[i] hki (List.getElem?_eq_getElem hlt),List.drop_eq_getElem_cons hlt,List.findSome?_cons]
      cases g l[i] with
      | some r=>rfl
      | none =>
        show zu body ((i+1:Nat):Int)=_
        exact ih (i+1) (by omega) (by omega) (by omega)
  exact key _ k rfl (Nat.le_refl _) hk
theorem ziX {α R U:Type} {body:Int→Option (Sum Int (Sum U R))} {l:List α} {g:α→Option R} {u:U}
    (hb:∀ (i:Nat) x,l[i]?=some x→body (i:Int)=some (zs1 i (g x)))
    (he:body (l.length:Int)=some (.inr (.inl u))):zu body 0=some (zqc u (l.findSome? g)) :=
  zhD (k:=0) (fun i x _=>hb i x) he (Nat.zero_le _)
theorem zcd {α R:Type} (l:List α) (p:α→Bool) (r:R):l.findSome? (fun x=>cond (p x) (some r) none)=cond (l.any p) (some r) none:=by
  induction l with
  | nil=>rfl
  | cons x l ih =>
    rw [List.findSome?_cons,List.any_cons]
    cases p x with
    | true=>rfl
    | false=>simpa using ih
end Go.Proofs.YthmnlfenkhmmhaaGreat
namespace Go.Proofs.YthmnlfenkhmmhaaGreat
def zig (n:Int):Nat:=if n < 0 then (-2 * n - 1).toNat else (2 * n).toNat
def zwr:Nat→Nat→List UInt8
  | 0,_=>[]
  | k+1,u=>if 127 < u then UInt8.ofNat (u % 128+128) :: zwr k (u / 128) else [UInt8.ofNat u]
def put (n:Int):List UInt8:=zwr 10 (zig n)
end Go.Proofs.YthmnlfenkhmmhaaGreat
namespace Go.Proofs.YthmnlfenkhmmhaaGreat
set_option linter.unusedSimpArgs false
set_option linter.unusedVariables false
noncomputable def okC (x:UInt8):Bool:=zbg x||zbU x||zej x
def zpH (p:UInt8→Bool):List UInt8→Bool
  | []=>false
  | x :: _=>p x
noncomputable def zjj (s:List UInt8):Bool:=s.all okC&&(!(s == [])&&decide ((s.length:Int)≤8))
noncomputable def zbJ (s:List UInt8):Bool:=zjj s&&decide (1 < (s.length:Int))&&zpH zbU s
noncomputable def zkA (s:List UInt8):Bool:=(s == [36,105,110,105,116])||(zjj s&&zpH zbg s)
def zhb:List UInt8→List UInt8
  | []=>[]
  | x :: r=>if x=91 then r else x :: r
noncomputable def zkQ (s:List UInt8):Bool:=(zhb (zhb s) == [73])||zbJ (zhb (zhb s))
noncomputable def zo5 (s:List UInt8):Bool:=!(s == [73])&&zkQ s
noncomputable def zrx (s:List UInt8):Bool:=(s == [86])||zkQ s
abbrev Len (s:List UInt8):Prop:=s.length≤9223372036854775807
theorem zoe {α:Type} (l:List α) (p:α→Bool):l.any (fun x=>!p x)=!l.all p:=by
  induction l with
  | nil=>rfl
  | cons x l ih=>rw [List.any_cons,List.all_cons,ih]; cases p x <;> rfl
theorem zjN {s:List UInt8} (h:Len s):zgf s=some (zjj s):=by
  have hl:zu (fun z=>zcC s z) 0=_:=ziX (l:=s) (g:=fun x=>cond (!okC x) (some false) none) (u:=()) (fun i x hx=>by
    have hi:=(List.getElem?_eq_some_iff.1 hx).1
    show zcC s (i:Int)=_
    unfold zcC
    rw [zy,hx,decide_eq_true (by omega),zK (by unfold Len at h; omega)]
    unfold okC
    cases h1:zbg x <;> cases h2:zbU x <;> cases h3:zej x <;> simp [h1,h2,h3,zs1]) (by
    show zcC s (s.length:Int)=_
    unfold zcC
    rw [decide_eq_false (by omega)]
    rfl)
  unfold zgf
  rw [hl,zcd,zoe]
  unfold zjj
  cases s.all okC <;> rfl
theorem zhV (p:UInt8→Bool) (x:UInt8) (r:List UInt8):zpH p (x :: r)=p x:=rfl
theorem zpo {s:List UInt8} (h:zjj s=true):∃ x r,s=x :: r:=by
  cases s with
  | nil=>exact absurd h (by decide)
  | cons x r=>exact ⟨x,r,rfl⟩
theorem zdE {s:List UInt8} (h:Len s):zcT s=some (zbJ s):=by
  unfold zcT
  rw [zjN h,ziO]
  unfold zbJ
  cases hw:zjj s with
  | false=>rfl
  | true =>
    obtain ⟨x,r,rfl⟩:=zpo hw
    simp only [Option.bind_some,Bool.true_and,List.getElem?_cons_zero]
    cases decide (1 < ((x :: r).length:Int)) <;> rfl
theorem zhz {s:List UInt8} (h:Len s):zfB s=some (zkA s):=by
  unfold zfB
  rw [zjN h,ziO]
  unfold zkA
  cases s == [36,105,110,105,116] with
  | true=>rfl
  | false =>
    cases hw:zjj s with
    | false=>rfl
    | true =>
      obtain ⟨x,r,rfl⟩:=zpo hw
      rfl
theorem zeV (x:UInt8) (r:List UInt8):zhb (x :: r)=if x=91 then r else x :: r:=rfl
theorem zji (s:List UInt8):(zhb s).length≤s.length:=by
  cases s with
  | nil=>exact Nat.le_refl _
  | cons x r=>rw [zeV]; split <;> simp
theorem zrS {s:List UInt8} (h:Len s):zbG s [91]=some (zhb s):=by
  unfold zbG zaX za0
  cases s with
  | nil=>rfl
  | cons x r =>
    have e1:decide ((List.length [(91:UInt8)]:Int)≤(List.length (x :: r):Int))=true:=decide_eq_true (by simp only [List.length_cons,List.length_nil]; omega)
    have e2:zkP (x :: r) 0 (List.length [(91:UInt8)]:Int)=some [x]:=by
      have:=zkp (l:=x :: r) (b:=1) (by simp)
      simpa using this
    have e3:zkP (x :: r) (List.length [(91:UInt8)]:Int) (List.length (x :: r):Int)=some r:=by
      have:=zmU (l:=x :: r) (a:=1) (by simp)
      simpa using this
    rw [e1,e2,e3,zeV]
    by_cases hx:x=91
    · subst hx; rfl
    · rw [if_neg hx]
      have:([x] == [(91:UInt8)])=false:=by simp [hx]
      simp [this]
theorem zgM {s:List UInt8} (h:Len s):zfX s=some (zkQ s):=by
  have h1:=zji s
  have h2:=zji (zhb s)
  unfold zfX
  rw [zrS h,Option.bind_some,zrS (by unfold Len at *; omega),Option.bind_some,zdE (by unfold Len at *; omega)]
  unfold zkQ
  cases zhb (zhb s) == [73] <;> rfl
theorem zir {s:List UInt8} (h:Len s):zgO s=some (zo5 s):=by
  unfold zgO
  rw [zgM h]
  unfold zo5
  cases s == [73] <;> rfl
theorem zn0 {s:List UInt8} (h:Len s):ziQ s=some (zrx s):=by
  unfold ziQ
  rw [zgM h]
  unfold zrx
  cases s == [86] <;> rfl
theorem zkH (x:UInt8):zgp x=zbU x:=rfl
theorem zjD (x:UInt8):zfL x=zbg x:=rfl
theorem znt (x:UInt8):zgo x=zej x:=rfl
theorem zdI {s:List UInt8} (h:Len s):zcY s=some (zbJ s):=by
  unfold zcY
  have hend:zbf s (s.length:Int)=some (.inr (.inl ())):=by
    unfold zbf; rw [decide_eq_false (by omega)]; rfl
  cases s with
  | nil=>rw [zH]; rfl
  | cons x r =>
    have hrest:zu (fun z=>zbf (x :: r) z) ((1:Nat):Int)=some (zqc () (((x :: r).drop 1).findSome? (fun y=>cond (!okC y) (some false) none))) :=
      zhD (k:=1) (g:=fun y=>cond (!okC y) (some false) none) (fun i y hi hy=>by
        have hlt:=(List.getElem?_eq_some_iff.1 hy).1
        show zbf (x :: r) (i:Int)=_
        unfold zbf
        rw [zy,hy,decide_eq_true (by omega),zK (by unfold Len at h; omega)]
        have e:((i:Int) == (0:Int))=false:=by simp; omega
        rw [e]
        simp only [zkH,zjD,znt]
        unfold okC
        cases h1:zbg y <;> cases h2:zbU y <;> cases h3:zej y <;> simp [h1,h2,h3,zs1]) hend (by simp)
    have hfirst:zbf (x :: r) 0=some (cond (zbU x) (.inl 1) (.inr (.inr false))):=by
      unfold zbf
      rw [ziO,decide_eq_true (by simp only [List.length_cons,List.length_nil]; omega)]
      simp only [zkH]
      have:IntKind.i64.wrap (0+1)=1:=by decide
      rw [this]
      simp only [List.getElem?_cons_zero,Option.bind_some]
      cases hg:zbU x <;> rfl
    rw [zH,hfirst]
    cases hg:zbU x with
    | false =>
      have:zbJ (x :: r)=false:=by unfold zbJ; rw [zhV,hg]; simp
      rw [this]
      rfl
    | true =>
      show ((zu (fun z=>zbf (x :: r) z) ((1:Nat):Int)).bind _)=_
      rw [hrest,List.drop_one,List.tail_cons,zcd,zoe]
      have:zbJ (x :: r)=(r.all okC&&(decide (2≤(List.length (x :: r):Int))&&decide ((List.length (x :: r):Int)≤8))):=by
        unfold zbJ zjj
        rw [zhV]
        have ho:okC x=true:=by unfold okC; rw [hg]; simp
        rw [List.all_cons,ho,hg]
        have e:decide (1 < (List.length (x :: r):Int))=decide (2≤(List.length (x :: r):Int)):=by congr 1
        rw [e]
        have e2:((x :: r) == [])=false:=rfl
        rw [e2]
        cases r.all okC <;> cases decide (2≤(List.length (x :: r):Int)) <;> cases decide ((List.length (x :: r):Int)≤8) <;> rfl
      rw [this]
      cases r.all okC <;> rfl
theorem zhG {s:List UInt8} (h:Len s):zfK s=some (zkA s):=by
  unfold zfK
  have hend:zbB s (s.length:Int)=some (.inr (.inl ())):=by
    unfold zbB; rw [decide_eq_false (by omega)]; rfl
  unfold zkA
  cases s == [36,105,110,105,116] with
  | true=>rfl
  | false =>
  show (zu _ _).bind _=some (zjj s&&zpH zbg s)
  cases s with
  | nil=>rw [zH]; rfl
  | cons x r =>
    have hrest:zu (fun z=>zbB (x :: r) z) ((1:Nat):Int)=some (zqc () (((x :: r).drop 1).findSome? (fun y=>cond (!okC y) (some false) none))) :=
      zhD (k:=1) (g:=fun y=>cond (!okC y) (some false) none) (fun i y hi hy=>by
        have hlt:=(List.getElem?_eq_some_iff.1 hy).1
        show zbB (x :: r) (i:Int)=_
        unfold zbB
        rw [zy,hy,decide_eq_true (by omega),zK (by unfold Len at h; omega)]
        have e:((i:Int) == (0:Int))=false:=by simp; omega
        rw [e]
        simp only [zkH,zjD,znt]
        unfold okC
        cases h1:zbg y <;> cases h2:zbU y <;> cases h3:zej y <;> simp [h1,h2,h3,zs1]) hend (by simp)
    have hfirst:zbB (x :: r) 0=some (cond (zbg x) (.inl 1) (.inr (.inr false))):=by
      unfold zbB
      rw [ziO,decide_eq_true (by simp only [List.length_cons,List.length_nil]; omega)]
      simp only [zjD]
      have:IntKind.i64.wrap (0+1)=1:=by decide
      rw [this]
      simp only [List.getElem?_cons_zero,Option.bind_some]
      cases hg:zbg x <;> rfl
    rw [zH,hfirst]
    cases hg:zbg x with
    | false =>
      have:(zjj (x :: r)&&zpH zbg (x :: r))=false:=by rw [zhV,hg]; simp
      rw [this]
      rfl
    | true =>
      show ((zu (fun z=>zbB (x :: r) z) ((1:Nat):Int)).bind _)=_
      rw [hrest,List.drop_one,List.tail_cons,zcd,zoe]
      have:(zjj (x :: r)&&zpH zbg (x :: r))=(r.all okC&&(decide (1≤(List.length (x :: r):Int))&&decide ((List.length (x :: r):Int)≤8))):=by
        unfold zjj
        rw [zhV]
        have ho:okC x=true:=by unfold okC; rw [hg]; simp
        rw [List.all_cons,ho,hg]
        have e2:((x :: r) == [])=false:=rfl
        have e3:decide (1≤(List.length (x :: r):Int))=true:=decide_eq_true (by simp only [List.length_cons,List.length_nil]; omega)
        rw [e2,e3]
        cases r.all okC <;> cases decide ((List.length (x :: r):Int)≤8) <;> rfl
      rw [this]
      cases r.all okC <;> rfl
theorem zeQ {s:List UInt8} (h:Len s):ze0 s=some (zkQ s):=by
  have step:∀ (t:List UInt8) (i:Int),i < 2→zdt t i=some (match t with | []=>.inr (.inl []) | x :: r=>if x=91 then .inl (r,IntKind.i64.wrap (i+1)) else .inr (.inl (x :: r))):=fun t i hi=>by
    unfold zdt
    rw [decide_eq_true hi]
    cases t with
    | nil=>rfl
    | cons x r =>
      have e1:decide ((0:Int) < (List.length (x :: r):Int))=true:=decide_eq_true (by simp only [List.length_cons,List.length_nil]; omega)
      have e3:zkP (x :: r) 1 (List.length (x :: r):Int)=some r:=by
        have:=zmU (l:=x :: r) (a:=1) (by simp)
        simpa using this
      rw [e1,ziO,e3]
      by_cases hx:x=91
      · subst hx; rfl
      · have e:((x.toNat:Int) == (91:Int))=false:=by
          rw [beq_eq_false_iff_ne]
          intro h
          apply hx
          have:x.toNat=(91:UInt8).toNat:=by simp; omega
          exact UInt8.toNat_inj.1 this
        simp [e,if_neg hx]
  have stop:∀ t:List UInt8,zdt t 2=some (.inr (.inl t)):=fun t=>by unfold zdt; simp
  have hl:zu (fun z:List UInt8×Int=>zdt z.1 z.2) (s,0)=some (.inl (zhb (zhb s))):=by
    have w1:IntKind.i64.wrap (0+1)=1:=by decide
    have w2:IntKind.i64.wrap (1+1)=2:=by decide
    rw [zH]
    simp only [step s 0 (by omega)]
    cases s with
    | nil=>rfl
    | cons x r =>
      rw [zeV]
      by_cases hx:x=91
      · simp only [if_pos hx,Option.bind_some,Sum.elim_inl,w1]
        rw [zH]
        simp only [step r 1 (by omega)]
        cases r with
        | nil=>rfl
        | cons y q =>
          by_cases hy:y=91
          · simp only [if_pos hy,Option.bind_some,Sum.elim_inl,w2]
            rw [zH]
            simp only [stop]
            rw [zeV,if_pos hy]
            rfl
          · simp only [if_neg hy,Option.bind_some,Sum.elim_inr]
            rw [zeV,if_neg hy]
      · simp only [if_neg hx,Option.bind_some,Sum.elim_inr]
        rw [zeV,if_neg hx]
  have h1:=zji s
  have h2:=zji (zhb s)
  unfold ze0
  rw [hl]
  show zfI _=_
  unfold zfI zkQ
  rw [zdI (by unfold Len at *; omega)]
  cases zhb (zhb s) == [73] <;> rfl
theorem zok {s:List UInt8} (h:Len s):zi3 s=some (zo5 s):=by
  unfold zi3
  rw [zeQ h]
  unfold zo5
  cases s == [73] <;> rfl
end Go.Proofs.YthmnlfenkhmmhaaGreat
namespace Go.Proofs.YthmnlfenkhmmhaaGreat
noncomputable def zvF (v1:Int):Bool :=
  ((((v1 == (1:Int))||(v1 == (3:Int)))||(v1 == (4:Int)))||(zgU v1))
end Go.Proofs.YthmnlfenkhmmhaaGreat
namespace Go.Proofs.YthmnlfenkhmmhaaGreat
set_option linter.unusedSimpArgs false
set_option linter.unusedVariables false
noncomputable def zpO (o:Int) (s:List UInt8):Bool:=cond (zfn o) (zo5 s) (cond (zti o) (zbJ s) (s == []))
noncomputable def zsp (o:Int) (s:List UInt8):Bool:=cond (ztj o) (zkA s&&!(s == [36,105,110,105,116])) (s == [])
noncomputable def ziY (x:z3):Bool:=(zh0 x.Op&&zix x.Op x.A)&&zpO x.Op x.C&&zsp x.Op x.M
theorem zpV {o:Int} {s:List UInt8} (h:Len s):zkC o s=some (zpO o s):=by
  unfold zkC zpO
  rw [zir h,zdE h]
  cases zfn o <;> cases zti o <;> rfl
theorem zpX {o:Int} {s:List UInt8} (h:Len s):zkD o s=some (zsp o s):=by
  unfold zkD zsp
  rw [zhz h]
  cases ztj o <;> rfl
theorem zrd {x:z3} (hC:Len x.C) (hM:Len x.M):znj x=some (ziY x):=by
  unfold znj ziY
  rw [zpV hC,zpX hM]
  cases (zh0 x.Op&&zix x.Op x.A) <;> cases zpO x.Op x.C <;> rfl
theorem zt2 (o A:Int):zix o A=cond (zvF o) (zeS o A) (A == 0):=by
  have e1:decide (A≤2147483647)=decide (A < 2147483648):=by congr 1; apply propext; omega
  have e2:decide (A≤15)=decide (A < 16):=by congr 1; apply propext; omega
  have e3:decide (A≤99)=decide (A < 100):=by congr 1; apply propext; omega
  unfold zix zvF zeS zeO zgU zcX
  rw [e1,e2,e3]
  by_cases h1:o=1
  · subst h1; rfl
  by_cases h3:o=3
  · subst h3; rfl
  by_cases h4:o=4
  · subst h4; rfl
  have b1:(o == (1:Int))=false:=beq_eq_false_iff_ne.2 h1
  have b3:(o == (3:Int))=false:=beq_eq_false_iff_ne.2 h3
  have b4:(o == (4:Int))=false:=beq_eq_false_iff_ne.2 h4
  rw [b1,b3,b4]
  cases (decide (20≤o)&&decide (o≤36)) <;> rfl
theorem zrl:∀ k:_root_.Fin 62,(zcz (k.val:Int)).1=zvF (k.val:Int)∧(zcz (k.val:Int)).2.1=cond (zfn (k.val:Int)) 2 (cond (zti (k.val:Int)) 1 0)∧(zcz (k.val:Int)).2.2=ztj (k.val:Int):=by
  decide +kernel
theorem zlb {x:z3} (hC:Len x.C) (hM:Len x.M):zfH x=some (ziY x):=by
  unfold zfH ziY zh0 zcX
  by_cases hk:1≤x.Op∧x.Op≤61
  · obtain ⟨k,hkk⟩:∃ k:Nat,x.Op=k:=⟨x.Op.toNat,by omega⟩
    obtain ⟨p1,p2,p3⟩:=zrl ⟨k,by omega⟩
    simp only at p1 p2 p3
    rw [hkk] at hk ⊢
    rw [zt2,p1,p2,p3,decide_eq_false (show ¬ (k:Int) < 1 by omega),decide_eq_false (show ¬ (61:Int) < k by omega),decide_eq_true hk.1,decide_eq_true hk.2,zdI hC,zok hC,zhG hM]
    unfold zpO zsp
    cases zvF (k:Int) <;> cases zeS (k:Int) x.A <;> cases (x.A == 0) <;> cases zfn (k:Int) <;> cases zti (k:Int) <;> cases ztj (k:Int) <;> cases (x.C == []) <;> cases zbJ x.C <;> cases zo5 x.C <;> rfl
  · have h1:(decide (x.Op < 1)||decide (61 < x.Op))=true:=by
      rw [Bool.or_eq_true]
      by_cases h:x.Op < 1
      · exact .inl (decide_eq_true h)
      · exact .inr (decide_eq_true (by omega))
    have h2:(decide (1≤x.Op)&&decide (x.Op≤61))=false:=by
      rw [Bool.and_eq_false_iff]
      by_cases h:1≤x.Op
      · exact .inr (decide_eq_false (by omega))
      · exact .inl (decide_eq_false h)
    rw [h1,h2]
    rfl
end Go.Proofs.YthmnlfenkhmmhaaGreat
namespace Go.Proofs.YthmnlfenkhmmhaaGreat
set_option linter.unusedSimpArgs false
set_option linter.unusedVariables false
def ixF {α:Type} (p:α→Bool):Nat→List α→Int
  | _,[]=>-1
  | k,x :: r=>cond (p x) (k:Int) (ixF p (k+1) r)
theorem zfc {α:Type} (p:α→Bool):∀ (k:Nat) (l:List α),decide (0≤ixF p k l)=l.any p
  | _,[]=>rfl
  | k,x :: r=>by
    unfold ixF
    rw [List.any_cons]
    cases p x with
    | true=>exact decide_eq_true (show (0:Int)≤(k:Int) by omega)
    | false=>exact zfc p (k+1) r
theorem zbT {α:Type} {body:Int→Option (Sum Int (Sum Unit Int))} {l:List α} {p:α→Bool} (hl:l.length≤9223372036854775807)
    (hb:∀ (i:Nat) x,l[i]?=some x→body (i:Int)=cond (p x) (some (.inr (.inr (i:Int)))) (some (.inl (IntKind.i64.wrap ((i:Int)+1)))))
    (he:body (l.length:Int)=some (.inr (.inl ()))) :
    (zu body 0).bind (fun o=>zQ o (fun _=>some (-1:Int)) some)=some (ixF p 0 l):=by
  have key:∀ (r pre:List α),l=pre++r→(zu body (pre.length:Int)).bind (fun o=>zQ o (fun _=>some (-1:Int)) some)=some (ixF p pre.length r):=by
    intro r
    induction r with
    | nil =>
      intro pre h
      rw [List.append_nil] at h
      subst h
      rw [zH,he]
      rfl
    | cons x r ih =>
      intro pre h
      have hlen:l.length=pre.length+(r.length+1):=by rw [h]; simp
      have hx:l[pre.length]?=some x:=by rw [h]; simp
      rw [zH,hb _ x hx]
      unfold ixF
      cases p x with
      | true=>rfl
      | false =>
        rw [zK (by omega)]
        have:=ih (pre++[x]) (by rw [h]; simp)
        rw [show (pre++[x]).length=pre.length+1 by simp] at this
        exact this
  exact key l [] rfl
def uB {α:Type} (ok:α→Bool) (nm:α→List UInt8):List α→List α→Bool
  | _,[]=>false
  | pre,x :: r=>(!ok x||pre.any (fun y=>nm x == nm y))||uB ok nm (pre++[x]) r
theorem zkO {α:Type} {body:Int→Option (Sum Int (Sum Unit Bool))} {l:List α} {ok:α→Bool} {nm:α→List UInt8} (hl:l.length≤9223372036854775807)
    (hb:∀ (i:Nat) x,l[i]?=some x→body (i:Int)=cond (!ok x||(l.take i).any (fun y=>nm x == nm y)) (some (.inr (.inr false))) (some (.inl (IntKind.i64.wrap ((i:Int)+1)))))
    (he:body (l.length:Int)=some (.inr (.inl ()))) {k:Option Bool} :
    (zu body 0).bind (fun o=>zQ o (fun _=>k) some)=cond (uB ok nm [] l) (some false) k:=by
  have key:∀ (r pre:List α),l=pre++r→(zu body (pre.length:Int)).bind (fun o=>zQ o (fun _=>k) some)=cond (uB ok nm pre r) (some false) k:=by
    intro r
    induction r with
    | nil =>
      intro pre h
      rw [List.append_nil] at h
      subst h
      rw [zH,he]
      rfl
    | cons x r ih =>
      intro pre h
      have hlen:l.length=pre.length+(r.length+1):=by rw [h]; simp
      have hx:l[pre.length]?=some x:=by rw [h]; simp
      have ht:l.take pre.length=pre:=by rw [h]; simp
      rw [zH,hb _ x hx,ht]
      unfold uB
      cases !ok x||pre.any (fun y=>nm x == nm y) with
      | true=>rfl
      | false =>
        rw [zK (by omega)]
        have:=ih (pre++[x]) (by rw [h]; simp)
        rw [show (pre++[x]).length=pre.length+1 by simp] at this
        exact this
  exact key l [] rfl
abbrev zhT {α:Type} (l:List α):Prop:=l.length≤9223372036854775807
theorem zeK {α:Type} {l:List α} {i:Nat} {x:α} (h:l[i]?=some x):decide ((i:Int) < (l.length:Int))=true :=
  decide_eq_true (by have:=(List.getElem?_eq_some_iff.1 h).1; omega)
theorem ze4 {α:Type} (l:List α):decide ((l.length:Int) < (l.length:Int))=false:=decide_eq_false (by omega)
theorem zsk {l:List zt} (hl:zhT l) (n t:List UInt8) (s:Bool):zX l n t s=some (l.any fun y=>n == y.Name):=by
  unfold zX zax
  rw [show ((zu (fun z=>zJ l n t s z) 0).bind fun o=>zQ o (fun b=>zai) some)=_ from zbT (p:=fun y:zt=>n == y.Name) hl
    (fun i x hx=>by unfold zJ; rw [zeK hx,zy,hx]; rfl) (by unfold zJ; rw [ze4]; rfl)]
  exact congrArg some (zfc _ 0 l)
theorem zqX {l:List zi} (hl:zhT l) (n:List UInt8) (a b c d e f g h i):zR l n a b c d e f g h i=some (l.any fun y=>n == y.Name):=by
  unfold zR zal
  rw [show ((zu (fun z=>zG l n a b c d e f g h i z) 0).bind fun o=>zQ o (fun b=>zac) some)=_ from zbT (p:=fun y:zi=>n == y.Name) hl
    (fun i x hx=>by unfold zG; rw [zeK hx,zy,hx]; rfl) (by unfold zG; rw [ze4]; rfl)]
  exact congrArg some (zfc _ 0 l)
theorem ztW {l:List (List UInt8)} (hl:zhT l) (n:List UInt8):z5 l n=some (l.any fun y=>n == y):=by
  unfold z5 zaN
  rw [show ((zu (fun z=>zN l n z) 0).bind fun o=>zQ o (fun b=>zaz) some)=_ from zbT (p:=fun y:List UInt8=>n == y) hl
    (fun i x hx=>by unfold zN; rw [zeK hx,zy,hx]; rfl) (by unfold zN; rw [ze4]; rfl)]
  exact congrArg some (zfc _ 0 l)
noncomputable def zhw (f:zt):Bool:=(zkA f.Name&&!(f.Name == [36,105,110,105,116]))&&zkQ f.Type_
theorem zkS {f:zt} (h1:Len f.Name) (h2:Len f.Type_):zfv f=some (zhw f):=by
  unfold zfv zhw
  rw [zhz h1,zgM h2,Option.bind_some]
  cases (zkA f.Name&&!(f.Name == [36,105,110,105,116])) <;> rfl
theorem zqn {l:List zt} (hl:zhT l) (h:∀ f∈l,Len f.Name∧Len f.Type_) (n:Int):zbW l n=cond (uB zhw (·.Name) [] l) (some false) (some (decide ((l.length:Int)≤n))):=by
  unfold zbW
  refine zkO (ok:=zhw) (nm:=(·.Name)) hl (fun i x hx=>?_) ?_
  · have hm:=h x (List.mem_of_getElem? hx)
    have hi:=(List.getElem?_eq_some_iff.1 hx).1
    unfold zbn
    rw [zeK hx,zy,hx]
    simp only [Option.bind_some,cond_true]
    rw [zkS hm.1 hm.2,Option.bind_some,zkp (by omega),Option.bind_some,zsk (by unfold zhT at *; rw [List.length_take]; omega)]
    cases zhw x <;> rfl
  · unfold zbn
    rw [ze4]; rfl
theorem zr7 {l:List (List UInt8)} (hl:zhT l) (h:∀ s∈l,Len s) (n:Int):zcM l n=cond (uB zbJ id [] l) (some false) (some (decide ((l.length:Int)≤n))):=by
  unfold zcM
  refine zkO (ok:=zbJ) (nm:=id) hl (fun i x hx=>?_) ?_
  · have hm:=h x (List.mem_of_getElem? hx)
    have hi:=(List.getElem?_eq_some_iff.1 hx).1
    unfold zbX
    rw [zeK hx,zy,hx]
    simp only [Option.bind_some,cond_true]
    rw [zdE hm,Option.bind_some,zkp (by omega),Option.bind_some,ztW (by unfold zhT at *; rw [List.length_take]; omega)]
    cases zbJ x <;> rfl
  · unfold zbX
    rw [ze4]; rfl
noncomputable def zpj (l:List (List UInt8)):Bool:=!(l.any fun s=>!zkQ s)
theorem zkY {l:List (List UInt8)} (hl:zhT l) (h:∀ s∈l,Len s):zfx l=some (zpj l):=by
  unfold zfx zaK za3
  rw [show ((zu (fun z=>zY l z) 0).bind fun o=>zQ o (fun b=>zaL) some)=_ from zbT (p:=fun s=>!zkQ s) hl
    (fun i x hx=>by
      unfold zY zfj
      rw [zeK hx,zy,hx]
      simp only [Option.bind_some,cond_true]
      rw [zgM (h x (List.mem_of_getElem? hx))]
      rfl) (by unfold zY; rw [ze4]; rfl)]
  rw [Option.bind_some,zfc]
  rfl
noncomputable def zuq (n:Int) (x:z3):Bool:=(!ziY x)||(zgU x.Op&&decide (n≤x.A))
noncomputable def instrN (c:List z3):Bool:=zh (c.length:Int) 1 100&&(c.getLast?.elim false (fun y=>zhF y.Op)&&!(c.any (zuq (c.length:Int))))
theorem zhv {m:zi} (hl:zhT m.Code) (h:∀ x∈m.Code,Len x.C∧Len x.M):zca m=some (instrN m.Code):=by
  have hc:z9 m.Code (m.Code.length:Int)=some (m.Code.any (zuq (m.Code.length:Int))):=by
    unfold z9 zaR
    rw [show ((zu (fun z=>zT m.Code (m.Code.length:Int) z) 0).bind fun o=>zQ o (fun b=>zaH) some)=_ from zbT (p:=zuq (m.Code.length:Int)) hl
      (fun i x hx=>by
        have hm:=h x (List.mem_of_getElem? hx)
        unfold zT zcw
        rw [zeK hx,zy,hx]
        simp only [Option.bind_some,cond_true]
        rw [zrd hm.1 hm.2]
        rfl) (by unfold zT; rw [ze4]; rfl)]
    exact congrArg some (zfc _ 0 _)
  unfold zca instrN
  rw [hc]
  cases hb:zh (m.Code.length:Int) 1 100 with
  | false=>rfl
  | true =>
    have hb':(decide (1≤(m.Code.length:Int))&&decide ((m.Code.length:Int)≤100))=true:=hb
    simp only [Bool.and_eq_true,decide_eq_true_eq] at hb'
    have e:IntKind.i64.wrap ((m.Code.length:Int) - 1)=((m.Code.length - 1:Nat):Int):=by
      rw [zjk (by omega) (by omega)]; omega
    rw [e,zy,← List.getLast?_eq_getElem?]
    cases hg:m.Code.getLast? with
    | none =>
      rw [List.getLast?_eq_none_iff] at hg
      rw [hg] at hb'
      simp at hb'
    | some y =>
      simp only [Option.bind_some,Bool.not_true,cond_false,Option.elim_some,Bool.true_and]
      cases zhF y.Op <;> rfl
noncomputable def zmA (n:Int) (y:zaI):Bool:=(((decide (y.From < 0)||decide (y.To≤y.From))||decide (n < y.To))||!(zh y.At 0 (IntKind.i64.wrap (n - 1))))||(!(y.C == [])&&!zbJ y.C)
noncomputable def zjT (m:zi):Bool:=!(m.Traps.any (zmA (m.Code.length:Int)))&&decide ((m.Traps.length:Int)≤6)
theorem zkW {m:zi} (hl:zhT m.Traps) (h:∀ x∈m.Traps,Len x.C):zfw m=some (zjT m):=by
  unfold zfw zar zaJ
  rw [show ((zu (fun z=>zL m.Traps m.Name m.Params m.Ret m.Static m.Abstract m.Locals m.Stack m.Code m.Maps m.Traps z) 0).bind fun o=>zQ o (fun b=>zas) some)=_ from zbT (p:=zmA (m.Code.length:Int)) hl
    (fun i x hx=>by
      have hm:=h x (List.mem_of_getElem? hx)
      unfold zL zfi zmA
      rw [zeK hx,zy,hx]
      simp only [Option.bind_some,cond_true]
      rw [zdE hm]
      cases (((decide (x.From < 0)||decide (x.To≤x.From))||decide ((m.Code.length:Int) < x.To))||!(zh x.At 0 (IntKind.i64.wrap ((m.Code.length:Int) - 1)))) with
      | true=>rfl
      | false=>cases (x.C == []) <;> rfl) (by unfold zL; rw [ze4]; rfl)]
  rw [Option.bind_some,zfc]
  rfl
end Go.Proofs.YthmnlfenkhmmhaaGreat
namespace Go.Proofs.YthmnlfenkhmmhaaGreat
set_option linter.unusedSimpArgs false
set_option linter.unusedVariables false
def gB {α:Type} (bad:List α→α→Bool):List α→List α→Bool
  | _,[]=>false
  | pre,x :: r=>bad pre x||gB bad (pre++[x]) r
theorem zhU {α:Type} {body:Int→Option (Sum Int (Sum Unit Bool))} {l:List α} {bad:List α→α→Bool} (hl:l.length≤9223372036854775807)
    (hb:∀ (i:Nat) x,l[i]?=some x→body (i:Int)=cond (bad (l.take i) x) (some (.inr (.inr false))) (some (.inl (IntKind.i64.wrap ((i:Int)+1)))))
    (he:body (l.length:Int)=some (.inr (.inl ()))):zu body 0=some (cond (gB bad [] l) (.inr false) (.inl ())):=by
  have key:∀ (r pre:List α),l=pre++r→zu body (pre.length:Int)=some (cond (gB bad pre r) (.inr false) (.inl ())):=by
    intro r
    induction r with
    | nil =>
      intro pre h
      rw [List.append_nil] at h
      subst h
      rw [zH,he]
      rfl
    | cons x r ih =>
      intro pre h
      have hlen:l.length=pre.length+(r.length+1):=by rw [h]; simp
      have hx:l[pre.length]?=some x:=by rw [h]; simp
      have ht:l.take pre.length=pre:=by rw [h]; simp
      rw [zH,hb _ x hx,ht]
      unfold gB
      cases bad pre x with
      | true=>rfl
      | false =>
        rw [zK (by omega)]
        have:=ih (pre++[x]) (by rw [h]; simp)
        rw [show (pre++[x]).length=pre.length+1 by simp] at this
        exact this
  exact key l [] rfl
theorem ztb {α:Type} (p:α→Bool):∀ (pre r:List α),gB (fun _ x=>p x) pre r=r.any p
  | _,[]=>rfl
  | pre,x :: r=>by
    show (p x||gB _ _ r)=_
    rw [ztb p (pre++[x]) r,List.any_cons]
theorem zsT {α:Type} (ok:α→Bool) (nm:α→List UInt8):∀ (pre r:List α),uB ok nm pre r=gB (fun pre x=>!ok x||pre.any (fun y=>nm x == nm y)) pre r
  | _,[]=>rfl
  | pre,x :: r=>by
    show (_||uB ok nm (pre++[x]) r)=(_||gB _ (pre++[x]) r)
    rw [zsT ok nm (pre++[x]) r]
theorem zgi {α:Type} {body:Int→Option (Sum Int (Sum Unit Bool))} {l:List α} {bad:α→Bool} (hl:l.length≤9223372036854775807)
    (hb:∀ (i:Nat) x,l[i]?=some x→body (i:Int)=cond (bad x) (some (.inr (.inr false))) (some (.inl (IntKind.i64.wrap ((i:Int)+1)))))
    (he:body (l.length:Int)=some (.inr (.inl ()))):zu body 0=some (cond (l.any bad) (.inr false) (.inl ())):=by
  rw [zhU (bad:=fun _ x=>bad x) hl hb he,ztb]
noncomputable def zjd (v:List UInt8):Bool:=(((v == [73])||(v == [78]))||(v == [84]))||zo5 v
theorem zlQ {s:List UInt8} (h:Len s):zgb s=some (zjd s):=by
  unfold zgb zjd
  rw [zir h]
  cases (((s == [73])||(s == [78]))||(s == [84])) <;> rfl
noncomputable def zfN (l:List (List UInt8)):Bool:=!(l.any fun s=>!zjd s)
theorem zgc {l:List (List UInt8)} (hl:zhT l) (h:∀ s∈l,Len s):zcR l=some (zfN l):=by
  unfold zcR zaw zaM
  rw [show ((zu (fun z=>zM l z) 0).bind fun o=>zQ o (fun b=>zay) some)=_ from zbT (p:=fun s=>!zjd s) hl
    (fun i x hx=>by
      unfold zM zd2
      rw [zeK hx,zy,hx]
      simp only [Option.bind_some,cond_true]
      rw [zlQ (h x (List.mem_of_getElem? hx))]
      rfl) (by unfold zM; rw [ze4]; rfl)]
  rw [Option.bind_some,zfc]
  rfl
theorem zqY {l:List (List UInt8)} (hl:zhT l) (n:List UInt8):zZ l n=some (l.any fun y=>n == y):=by
  unfold zZ zbm
  rw [show ((zu (fun z=>zag l n z) 0).bind fun o=>zQ o (fun b=>za6) some)=_ from zbT (p:=fun y:List UInt8=>n == y) hl
    (fun i x hx=>by unfold zag; rw [zeK hx,zy,hx]; rfl) (by unfold zag; rw [ze4]; rfl)]
  exact congrArg some (zfc _ 0 l)
noncomputable def zt1 (m:zi) (pre:List zaY) (x:zaY):Bool :=
  ((!(decide (0≤x.At)&&decide (x.At < (m.Code.length:Int))))||(pre.getLast?.elim false (fun y=>decide (x.At≤y.At)))) ||
  (((!((x.Locals.length:Int) == m.Locals))||decide (m.Stack < (x.Stack.length:Int)))||((!zfN x.Locals||!zfN x.Stack)||x.Stack.any (fun y=>[84] == y)))
noncomputable def zna (m:zi):Bool:=!(gB (zt1 m) [] m.Maps)&&decide ((m.Maps.length:Int)≤100)
structure zqg (m:zi):Prop where
  len:zhT m.Maps
  code:zhT m.Code
  all:∀ x∈m.Maps,(zhT x.Locals∧∀ s∈x.Locals,Len s)∧(zhT x.Stack∧∀ s∈x.Stack,Len s)
theorem zny {α:Type} {l:List α} {i:Nat} (h:i < l.length) (h0:0 < i):(l.take i).getLast?=l[i - 1]?:=by
  rw [List.getLast?_eq_getElem?,List.getElem?_take_of_lt (by simp; omega)]
  congr 1
  simp; omega
theorem zlP {m:zi} (h:zqg m):zga m=some (zna m):=by
  have j2:∀ (i:Nat) (x:zaY) (b:Bool),x∈m.Maps→zcb m (i:Int) x b=cond (b||(((!((x.Locals.length:Int) == m.Locals))||decide (m.Stack < (x.Stack.length:Int)))||((!zfN x.Locals||!zfN x.Stack)||x.Stack.any (fun y=>[84] == y)))) (some (.inr (.inr false))) (some (.inl (IntKind.i64.wrap ((i:Int)+1)))):=fun i x b hx=>by
    obtain ⟨⟨h1,h2⟩,h3,h4⟩:=h.all x hx
    unfold zcb
    rw [zgc h1 h2,zgc h3 h4,zqY h3]
    cases b with
    | true=>rfl
    | false =>
      cases ((!((x.Locals.length:Int) == m.Locals))||decide (m.Stack < (x.Stack.length:Int))) with
      | true=>rfl
      | false =>
        cases zfN x.Locals with
        | false=>rfl
        | true=>cases zfN x.Stack <;> rfl
  have hl:zu (fun z=>zcc m z) 0=_:=zhU (bad:=zt1 m) h.len (fun i x hx=>by
    have hm:=List.mem_of_getElem? hx
    have hi:=(List.getElem?_eq_some_iff.1 hx).1
    have hlen:=h.len
    have hcode:=h.code
    unfold zhT at hlen hcode
    show zcc m (i:Int)=_
    unfold zcc zt1
    rw [zeK hx,zy,hx]
    simp only [Option.bind_some,cond_true]
    have hb:zh x.At 0 (IntKind.i64.wrap ((m.Code.length:Int) - 1))=(decide (0≤x.At)&&decide (x.At < (m.Code.length:Int))):=by
      show (decide (0≤x.At)&&decide (x.At≤IntKind.i64.wrap ((m.Code.length:Int) - 1)))=_
      rw [zjk (by omega) (by omega)]
      congr 1
      exact decide_eq_decide.2 (by omega)
    rw [hb]
    cases (decide (0≤x.At)&&decide (x.At < (m.Code.length:Int))) with
    | false=>exact j2 i x true hm
    | true =>
      rcases Nat.eq_zero_or_pos i with h0 | h0
      · subst h0
        exact j2 0 x false hm
      · rw [decide_eq_true (show (0:Int) < (i:Int) by omega),zny hi h0]
        have e:IntKind.i64.wrap ((i:Int) - 1)=((i - 1:Nat):Int):=by
          rw [zjk (by omega) (by omega)]; omega
        rw [e,zy,List.getElem?_eq_getElem (show i - 1 < m.Maps.length by omega)]
        exact j2 i x _ hm) (by show zcc m (m.Maps.length:Int)=_; unfold zcc; rw [ze4]; rfl)
  unfold zga zna
  rw [hl]
  cases gB (zt1 m) [] m.Maps <;> rfl
end Go.Proofs.YthmnlfenkhmmhaaGreat
namespace Go.Proofs.YthmnlfenkhmmhaaGreat
set_option linter.unusedSimpArgs false
set_option linter.unusedVariables false
theorem zsK (v:List UInt8):(cond (!(v == [84])&&!(v == [78])) (!zkQ v) false)=!zjd v:=by
  by_cases h1:v=[73]
  · subst h1; decide +kernel
  by_cases h2:v=[78]
  · subst h2; decide +kernel
  by_cases h3:v=[84]
  · subst h3; decide +kernel
  unfold zjd zo5
  rw [beq_eq_false_iff_ne.2 h1,beq_eq_false_iff_ne.2 h2,beq_eq_false_iff_ne.2 h3]
  simp
theorem zsL (v:List UInt8):(cond (!(v == [78])) (!zkQ v) false)=(!zjd v||([84] == v)):=by
  by_cases h1:v=[73]
  · subst h1; decide +kernel
  by_cases h2:v=[78]
  · subst h2; decide +kernel
  by_cases h3:v=[84]
  · subst h3; decide +kernel
  unfold zjd zo5
  rw [beq_eq_false_iff_ne.2 h1,beq_eq_false_iff_ne.2 h2,beq_eq_false_iff_ne.2 h3,beq_eq_false_iff_ne.2 (Ne.symm h3)]
  simp
theorem zuF {α:Type} (l:List α) (p q:α→Bool):l.any (fun x=>p x||q x)=(l.any p||l.any q):=by
  induction l with
  | nil=>rfl
  | cons x l ih =>
    simp only [List.any_cons,ih]
    cases p x <;> cases q x <;> simp
theorem znr {m:zi} (h:zqg m):zhL m=some (zna m):=by
  have l7:∀ x:zaY,x∈m.Maps→zu (fun z=>zcm x z) 0=some (cond (!zfN x.Locals) (.inr false) (.inl ())):=fun x hx=>by
    obtain ⟨⟨h1,h2⟩,h3,h4⟩:=h.all x hx
    have:=zgi (body:=fun z=>zcm x z) (bad:=fun v=>!zjd v) h1 (fun i v hv=>by
      show zcm x (i:Int)=_
      unfold zcm
      rw [zeK hv,zy,hv]
      simp only [Option.bind_some,cond_true]
      rw [zeQ (h2 v (List.mem_of_getElem? hv)),← zsK]
      cases (!(v == [84])&&!(v == [78])) <;> rfl) (by show zcm x (x.Locals.length:Int)=_; unfold zcm; rw [ze4]; rfl)
    rw [this]
    unfold zfN
    rw [Bool.not_not]
  have l9:∀ x:zaY,x∈m.Maps→zu (fun z=>zcn x z) 0=some (cond (!zfN x.Stack||x.Stack.any (fun y=>[84] == y)) (.inr false) (.inl ())):=fun x hx=>by
    obtain ⟨⟨h1,h2⟩,h3,h4⟩:=h.all x hx
    have:=zgi (body:=fun z=>zcn x z) (bad:=fun v=>!zjd v||([84] == v)) h3 (fun i v hv=>by
      show zcn x (i:Int)=_
      unfold zcn
      rw [zeK hv,zy,hv]
      simp only [Option.bind_some,cond_true]
      rw [zeQ (h4 v (List.mem_of_getElem? hv)),← zsL]
      cases (!(v == [78])) <;> rfl) (by show zcn x (x.Stack.length:Int)=_; unfold zcn; rw [ze4]; rfl)
    rw [this,zuF]
    unfold zfN
    rw [Bool.not_not]
  have j6:∀ (i:Nat) (x:zaY) (b:Bool),x∈m.Maps→za1 (i:Int) x b=cond (b||((!zfN x.Locals||!zfN x.Stack)||x.Stack.any (fun y=>[84] == y))) (some (.inr (.inr false))) (some (.inl (IntKind.i64.wrap ((i:Int)+1)))):=fun i x b hx=>by
    unfold za1
    rw [l7 x hx]
    cases b with
    | true=>rfl
    | false =>
      cases zfN x.Locals with
      | false=>rfl
      | true =>
        show ze5 (i:Int) x=_
        unfold ze5
        rw [l9 x hx]
        cases zfN x.Stack with
        | false=>rfl
        | true=>cases x.Stack.any (fun y=>[84] == y) <;> rfl
  have hl:zu (fun z=>zcl m z) 0=_:=zhU (bad:=zt1 m) h.len (fun i x hx=>by
    have hm:=List.mem_of_getElem? hx
    have hi:=(List.getElem?_eq_some_iff.1 hx).1
    have hlen:=h.len
    have hcode:=h.code
    unfold zhT at hlen hcode
    show zcl m (i:Int)=_
    unfold zcl zt1
    rw [zeK hx,zy,hx]
    simp only [Option.bind_some,cond_true]
    by_cases h1:x.At < 0
    · rw [decide_eq_true h1,decide_eq_false (show ¬ 0≤x.At by omega)]
      exact j6 i x true hm
    rw [decide_eq_false h1,decide_eq_true (show 0≤x.At by omega)]
    by_cases h2:(m.Code.length:Int)≤x.At
    · rw [decide_eq_true h2,decide_eq_false (show ¬ x.At < (m.Code.length:Int) by omega)]
      exact j6 i x true hm
    rw [decide_eq_false h2,decide_eq_true (show x.At < (m.Code.length:Int) by omega)]
    rcases Nat.eq_zero_or_pos i with h0 | h0
    · subst h0
      show cond (!((x.Locals.length:Int) == m.Locals)) (za1 ((0:Nat):Int) x true) (za1 ((0:Nat):Int) x (decide (m.Stack < (x.Stack.length:Int))))=_
      cases (!((x.Locals.length:Int) == m.Locals)) with
      | true=>exact j6 0 x true hm
      | false=>exact j6 0 x _ hm
    · rw [decide_eq_true (show (0:Int) < (i:Int) by omega),zny hi h0]
      have e:IntKind.i64.wrap ((i:Int) - 1)=((i - 1:Nat):Int):=by
        rw [zjk (by omega) (by omega)]; omega
      rw [e,zy,List.getElem?_eq_getElem (show i - 1 < m.Maps.length by omega)]
      simp only [cond_true,cond_false,Option.bind_some,Option.elim_some]
      cases decide (x.At≤m.Maps[i - 1].At) with
      | true=>exact j6 i x true hm
      | false =>
        cases (!((x.Locals.length:Int) == m.Locals)) with
        | true=>exact j6 i x true hm
        | false=>exact j6 i x _ hm) (by show zcl m (m.Maps.length:Int)=_; unfold zcl; rw [ze4]; rfl)
  unfold zhL zna
  rw [hl]
  by_cases hn:(m.Maps.length:Int)≤100
  · rw [decide_eq_true hn,decide_eq_false (show ¬ 100 < (m.Maps.length:Int) by omega)]
    cases gB (zt1 m) [] m.Maps <;> rfl
  · rw [decide_eq_false hn,decide_eq_true (show 100 < (m.Maps.length:Int) by omega),Bool.and_false]
    rfl
structure zsX (m:zi):Prop where
  code:zhT m.Code∧∀ x∈m.Code,Len x.C∧Len x.M
  traps:zhT m.Traps∧∀ x∈m.Traps,Len x.C
theorem znp {m:zi} (h:zsX m):zhJ m=some (instrN m.Code&&zjT m):=by
  have hcl:=h.code.1
  unfold zhT at hcl
  have lc:zu (fun z=>zcD m z) 0=some (cond (m.Code.any (zuq (m.Code.length:Int))) (.inr false) (.inl ())) :=
    zgi h.code.1 (fun i x hx=>by
      have hm:=h.code.2 x (List.mem_of_getElem? hx)
      show zcD m (i:Int)=_
      unfold zcD
      rw [zeK hx,zy,hx]
      simp only [Option.bind_some,cond_true]
      rw [zlb hm.1 hm.2]
      rfl) (by show zcD m (m.Code.length:Int)=_; unfold zcD; rw [ze4]; rfl)
  have lt:zu (fun z=>zcE m z) 0=some (cond (m.Traps.any (zmA (m.Code.length:Int))) (.inr false) (.inl ())) :=
    zgi h.traps.1 (fun i x hx=>by
      have hm:=h.traps.2 x (List.mem_of_getElem? hx)
      show zcE m (i:Int)=_
      unfold zcE
      rw [zeK hx,zy,hx]
      simp only [Option.bind_some,cond_true]
      rw [zdI hm]
      have hb:(!(zh x.At 0 (IntKind.i64.wrap ((m.Code.length:Int) - 1))))=(decide (x.At < 0)||decide ((m.Code.length:Int)≤x.At)):=by
        show (!(decide (0≤x.At)&&decide (x.At≤IntKind.i64.wrap ((m.Code.length:Int) - 1))))=_
        rw [zjk (by omega) (by omega)]
        by_cases h1:x.At < 0
        · rw [decide_eq_true h1,decide_eq_false (show ¬ 0≤x.At by omega)]; rfl
        · rw [decide_eq_false h1,decide_eq_true (show 0≤x.At by omega)]
          by_cases h2:(m.Code.length:Int)≤x.At
          · rw [decide_eq_true h2,decide_eq_false (show ¬ x.At≤(m.Code.length:Int) - 1 by omega)]; rfl
          · rw [decide_eq_false h2,decide_eq_true (show x.At≤(m.Code.length:Int) - 1 by omega)]; rfl
      unfold zmA
      rw [hb]
      cases decide (x.From < 0) <;> cases decide (x.To≤x.From) <;> cases decide ((m.Code.length:Int) < x.To) <;> cases decide (x.At < 0) <;> cases decide ((m.Code.length:Int)≤x.At) <;> cases (x.C == []) <;> rfl) (by show zcE m (m.Traps.length:Int)=_; unfold zcE; rw [ze4]; rfl)
  have hn:decide (6 < (m.Traps.length:Int))=!decide ((m.Traps.length:Int)≤6):=by
    by_cases h6:(m.Traps.length:Int)≤6
    · rw [decide_eq_true h6,decide_eq_false (show ¬ 6 < (m.Traps.length:Int) by omega)]; rfl
    · rw [decide_eq_false h6,decide_eq_true (show 6 < (m.Traps.length:Int) by omega)]; rfl
  have k2:zel m=some (!m.Traps.any (zmA (m.Code.length:Int))):=by
    unfold zel
    rw [lt]
    cases m.Traps.any (zmA (m.Code.length:Int)) <;> rfl
  unfold zhJ zjT instrN
  rw [lc,hn]
  by_cases h1:(m.Code.length:Int) < 1
  · rw [decide_eq_true h1,show zh (m.Code.length:Int) 1 100=false from by show (decide (1≤(m.Code.length:Int))&&_)=false; rw [decide_eq_false (show ¬ 1≤(m.Code.length:Int) by omega)]; rfl]
    rfl
  by_cases h2:100 < (m.Code.length:Int)
  · rw [decide_eq_true h2,show zh (m.Code.length:Int) 1 100=false from by show (decide (1≤(m.Code.length:Int))&&decide ((m.Code.length:Int)≤100))=false; rw [decide_eq_false (show ¬ (m.Code.length:Int)≤100 by omega),Bool.and_false],Bool.or_true]
    rfl
  rw [decide_eq_false h1,decide_eq_false h2,show zh (m.Code.length:Int) 1 100=true from by show (decide (1≤(m.Code.length:Int))&&decide ((m.Code.length:Int)≤100))=true; rw [decide_eq_true (show 1≤(m.Code.length:Int) by omega),decide_eq_true (show (m.Code.length:Int)≤100 by omega)]; rfl]
  have e:IntKind.i64.wrap ((m.Code.length:Int) - 1)=((m.Code.length - 1:Nat):Int):=by
    rw [zjk (by omega) (by omega)]; omega
  rw [e,zy,← List.getLast?_eq_getElem?]
  cases hg:m.Code.getLast? with
  | none =>
    rw [List.getLast?_eq_none_iff] at hg
    rw [hg] at h1
    simp at h1
  | some y =>
    simp only [Option.bind_some,Option.elim_some]
    rw [show zi2 y.Op=zhF y.Op from rfl]
    cases zhF y.Op with
    | false=>rfl
    | true =>
      cases decide ((m.Traps.length:Int)≤6) with
      | false =>
        cases m.Code.any (zuq (m.Code.length:Int)) <;> cases m.Traps.any (zmA (m.Code.length:Int)) <;> rfl
      | true =>
        cases m.Code.any (zuq (m.Code.length:Int)) with
        | true=>rfl
        | false =>
          show zel m=_
          rw [k2]
          cases m.Traps.any (zmA (m.Code.length:Int)) <;> rfl
end Go.Proofs.YthmnlfenkhmmhaaGreat
namespace Go.Proofs.YthmnlfenkhmmhaaGreat
set_option linter.unusedSimpArgs false
set_option linter.unusedVariables false
structure GIn (m:zi):Prop where
  name:Len m.Name
  params:m.Params.length≤1000000000000∧∀ s∈m.Params,Len s
  ret:Len m.Ret
  maps:zqg m
  body:zsX m
  small:m.Code.length≤1000000000000∧m.Maps.length≤1000000000000∧m.Traps.length≤1000000000000
noncomputable def zfE (m:zi):Bool :=
  ((!((!zkA m.Name)||decide (6 < (m.Params.length:Int)))&&zpj m.Params)&&zrx m.Ret)&&cond m.Abstract (zd7 m)
    (!((m.Name == [36,105,110,105,116])&&(((!m.Static)||decide (0 < (m.Params.length:Int)))||(!(m.Ret == [86]))))&&(zh m.Locals (zA m) 16&&(zh m.Stack 0 16&&((instrN m.Code&&zjT m)&&zna m))))
theorem zwq {m:zi} (h:GIn m):zhT m.Params:=by have:=h.params.1; unfold zhT; omega
theorem zjV {m:zi} (h:GIn m):ze3 m=some (zfE m):=by
  unfold ze3 zfE
  rw [zhz h.name,Option.bind_some,zkY (zwq h) h.params.2,zn0 h.ret,zhv h.body.code.1 h.body.code.2,zlP h.maps,zkW h.body.traps.1 h.body.traps.2]
  cases ((!zkA m.Name)||decide (6 < (m.Params.length:Int))) with
  | true=>rfl
  | false =>
    cases zpj m.Params with
    | false=>rfl
    | true =>
      cases zrx m.Ret with
      | false=>rfl
      | true =>
        cases m.Abstract with
        | true=>rfl
        | false =>
          cases ((m.Name == [36,105,110,105,116])&&(((!m.Static)||decide (0 < (m.Params.length:Int)))||(!(m.Ret == [86])))) with
          | true=>rfl
          | false =>
            cases zh m.Locals (zA m) 16 with
            | false=>rfl
            | true =>
              cases zh m.Stack 0 16 with
              | false=>rfl
              | true=>cases instrN m.Code <;> cases zna m <;> cases zjT m <;> rfl
theorem zom {s:List UInt8} (h:Len s):zi4 s=some (zrx s):=by
  unfold zi4 zrx
  rw [zeQ h]
  cases (s == [86]) <;> rfl
theorem zse {m:zi} (h:GIn m):zd7 m=(((((((!m.Static)&&(!(m.Name == [36,105,110,105,116])))&&(m.Locals == (0:Int)))&&(m.Stack == (0:Int)))&&((m.Code.length:Int) == (0:Int)))&&((m.Maps.length:Int) == (0:Int)))&&((m.Traps.length:Int) == (0:Int))):=by
  obtain ⟨h1,h2,h3⟩:=h.small
  have key:(((m.Code.length:Int)+(m.Maps.length:Int)+(m.Traps.length:Int)) == (0:Int))=((((m.Code.length:Int) == 0)&&((m.Maps.length:Int) == 0))&&((m.Traps.length:Int) == 0)):=by
    by_cases a:(m.Code.length:Int)=0
    · by_cases b:(m.Maps.length:Int)=0
      · rw [a,b,Int.zero_add,Int.zero_add]; rfl
      · rw [beq_eq_false_iff_ne.2 (show ((m.Code.length:Int)+m.Maps.length+m.Traps.length)≠0 by omega),beq_eq_false_iff_ne.2 b,Bool.and_false,Bool.false_and]
    · rw [beq_eq_false_iff_ne.2 (show ((m.Code.length:Int)+m.Maps.length+m.Traps.length)≠0 by omega),beq_eq_false_iff_ne.2 a,Bool.false_and,Bool.false_and]
  unfold zd7
  rw [zjk (n:=(m.Code.length:Int)+(m.Maps.length:Int)) (by omega) (by omega),zjk (by omega) (by omega),key]
  simp only [Bool.and_assoc]
theorem zki (x a b:Int):(decide (x < a)||decide (b < x))=!(zh x a b):=by
  show _=!(decide (a≤x)&&decide (x≤b))
  by_cases h1:x < a
  · rw [decide_eq_true h1,decide_eq_false (show ¬ a≤x by omega)]; rfl
  · rw [decide_eq_false h1,decide_eq_true (show a≤x by omega)]
    by_cases h2:b < x
    · rw [decide_eq_true h2,decide_eq_false (show ¬ x≤b by omega)]; rfl
    · rw [decide_eq_false h2,decide_eq_true (show x≤b by omega)]; rfl
theorem zjA {m:zi} (h:GIn m):zdW m=some (zfE m):=by
  have lp:zu (fun z=>za9 m z) 0=some (cond (m.Params.any fun s=>!zkQ s) (.inr false) (.inl ())) :=
    zgi (zwq h) (fun i x hx=>by
      show za9 m (i:Int)=_
      unfold za9
      rw [zeK hx,zy,hx]
      simp only [Option.bind_some,cond_true]
      rw [zeQ (h.params.2 x (List.mem_of_getElem? hx))]
      rfl) (by show za9 m (m.Params.length:Int)=_; unfold za9; rw [ze4]; rfl)
  have j3:∀ a,zbr m a=some (zh m.Locals a 16&&(zh m.Stack 0 16&&((instrN m.Code&&zjT m)&&zna m))):=fun a=>by
    unfold zbr
    rw [zki,Bool.or_assoc,zki,znp h.body,znr h.maps]
    cases zh m.Locals a 16 with
    | false=>rfl
    | true =>
      cases zh m.Stack 0 16 with
      | false=>rfl
      | true=>cases (instrN m.Code&&zjT m) <;> rfl
  have k2:zcy m=some (cond m.Abstract (zd7 m)
    (!((m.Name == [36,105,110,105,116])&&(((!m.Static)||decide (0 < (m.Params.length:Int)))||(!(m.Ret == [86]))))&&(zh m.Locals (zA m) 16&&(zh m.Stack 0 16&&((instrN m.Code&&zjT m)&&zna m))))):=by
    unfold zcy zA
    rw [j3,j3,zse h]
    cases m.Abstract with
    | true=>rfl
    | false =>
      cases ((m.Name == [36,105,110,105,116])&&(((!m.Static)||decide (0 < (m.Params.length:Int)))||(!(m.Ret == [86])))) with
      | true=>rfl
      | false=>cases m.Static <;> rfl
  unfold zdW zfE zpj
  rw [zhG h.name,Option.bind_some,zom h.ret,lp]
  cases ((!zkA m.Name)||decide (6 < (m.Params.length:Int))) with
  | true=>rfl
  | false =>
    cases zrx m.Ret with
    | false=>rw [Bool.and_false]; rfl
    | true =>
      cases m.Params.any fun s=>!zkQ s with
      | true=>rfl
      | false=>exact k2
theorem znQ {l:List zi} (hl:zhT l) (h:∀ m∈l,GIn m) (n:Int) (a b:List UInt8) (i:Bool) (c:List (List UInt8)) (d:List zt) (e:List zi) :
    zbK l n a b i c d e=cond (uB (fun m=>(m.Abstract == i)&&zfE m) (·.Name) [] l) (some false) (some (decide ((l.length:Int)≤n))):=by
  unfold zbK
  refine zkO (ok:=fun m=>(m.Abstract == i)&&zfE m) (nm:=(·.Name)) hl (fun j x hx=>?_) ?_
  · have hm:=h x (List.mem_of_getElem? hx)
    have hi:=(List.getElem?_eq_some_iff.1 hx).1
    unfold zbd zgv
    rw [zeK hx,zy,hx]
    simp only [Option.bind_some,cond_true]
    rw [zjV hm,zkp (by omega)]
    simp only [Option.bind_some]
    rw [zqX (by unfold zhT at *; rw [List.length_take]; omega)]
    cases (x.Abstract == i) with
    | false=>rfl
    | true=>cases zfE x <;> rfl
  · unfold zbd
    rw [ze4]; rfl
structure zsY (c:za):Prop where
  name:Len c.Name
  super:Len c.Super
  impl:zhT c.Impl∧∀ s∈c.Impl,Len s
  fields:zhT c.Fields∧∀ f∈c.Fields,Len f.Name∧Len f.Type_
  methods:zhT c.Methods∧∀ m∈c.Methods,GIn m
noncomputable def zme (c:za):Bool :=
  !(c.Interface&&((!(c.Super == [79,98,106,101,99,116]))||decide (0 < (c.Fields.length:Int)))) &&
  (((((zbJ c.Name&&zbJ c.Super)&&(!(uB zbJ id [] c.Impl)&&decide ((c.Impl.length:Int)≤4)))&&(!(uB zhw (·.Name) [] c.Fields)&&decide ((c.Fields.length:Int)≤8)))) &&
    (!(uB (fun m=>(m.Abstract == c.Interface)&&zfE m) (·.Name) [] c.Methods)&&decide ((c.Methods.length:Int)≤8)))
theorem zlO {c:za} (h:zsY c):zht c=some (zme c):=by
  have e:∀ (b d:Bool),cond b (some false) (some d)=some (!b&&d):=fun b d=>by cases b <;> rfl
  unfold zht zme
  rw [zqn h.fields.1 h.fields.2,znQ h.methods.1 h.methods.2,zdE h.name,zdE h.super,zr7 h.impl.1 h.impl.2,e,e,e]
  cases (c.Interface&&((!(c.Super == [79,98,106,101,99,116]))||decide (0 < (c.Fields.length:Int)))) with
  | true=>rfl
  | false =>
    cases zbJ c.Name with
    | false=>rfl
    | true=>cases zbJ c.Super <;> rfl
theorem zlW {α:Type} (p:α→Bool):∀ (l:List α) (k i:Nat) (x:α),l[i]?=some x→p x=true→(ixF p k l == ((k+i:Nat):Int))=!((l.take i).any p)
  | [],k,i,x,h,_=>by simp at h
  | y :: r,k,0,x,h,hp=>by
    have:y=x:=by simpa using h
    subst this
    show (cond (p y) (k:Int) (ixF p (k+1) r) == (k:Int))=true
    rw [hp]
    exact beq_self_eq_true _
  | y :: r,k,i+1,x,h,hp=>by
    have h':r[i]?=some x:=by simpa using h
    show (cond (p y) (k:Int) (ixF p (k+1) r) == ((k+(i+1):Nat):Int))=!(p y||(r.take i).any p)
    cases p y with
    | true=>exact beq_eq_false_iff_ne.2 (show (k:Int)≠((k+(i+1):Nat):Int) by omega)
    | false =>
      have:=zlW p r (k+1) i x h' hp
      rw [show k+1+i=k+(i+1) by omega] at this
      exact this
theorem zmm {c:za} (hl:zhT c.Fields) (n:List UInt8):zgn c n=some (ixF (fun y=>y.Name == n) 0 c.Fields):=by
  unfold zgn
  rw [show ((zu (fun z=>zdK c n z) 0).bind fun o=>zQ o (fun b=>zfo) some)=_ from zbT (p:=fun y:zt=>y.Name == n) hl
    (fun i x hx=>by unfold zdK; rw [zeK hx,zy,hx]; rfl) (by unfold zdK; rw [ze4]; rfl)]
theorem zld {c:za} (hl:zhT c.Methods) (n:List UInt8):zfJ c n=some (ixF (fun y=>y.Name == n) 0 c.Methods):=by
  unfold zfJ
  rw [show ((zu (fun z=>zcZ c n z) 0).bind fun o=>zQ o (fun b=>ze1) some)=_ from zbT (p:=fun y:zi=>y.Name == n) hl
    (fun i x hx=>by unfold zcZ; rw [zeK hx,zy,hx]; rfl) (by unfold zcZ; rw [ze4]; rfl)]
theorem zvQ (x y:List UInt8):(x == y)=(y == x):=by
  by_cases h:x=y
  · rw [h]
  · rw [beq_eq_false_iff_ne.2 h,beq_eq_false_iff_ne.2 (Ne.symm h)]
theorem zou {α:Type} (l:List α) (f:α→List UInt8) (n:List UInt8):(l.any fun y=>f y == n)=l.any fun y=>n == f y:=by
  congr 1
  funext y
  exact zvQ _ _
theorem zj0 {c:za} (h:zsY c):zeA c=some (zme c):=by
  have himp:=h.impl.1
  unfold zhT at himp
  have lf:zu (fun z=>zbj c z) 0=some (cond (uB zhw (·.Name) [] c.Fields) (.inr false) (.inl ())):=by
    rw [zsT]
    refine zhU h.fields.1 (fun i x hx=>?_) (by show zbj c (c.Fields.length:Int)=_; unfold zbj; rw [ze4]; rfl)
    have hm:=h.fields.2 x (List.mem_of_getElem? hx)
    have hfi:=zlW (fun y:zt=>y.Name == x.Name) c.Fields 0 i x hx (beq_self_eq_true _)
    rw [Nat.zero_add,zou] at hfi
    show zbj c (i:Int)=_
    unfold zbj zhw
    rw [zeK hx,zy,hx]
    simp only [Option.bind_some,cond_true]
    rw [zhG hm.1,zeQ hm.2,zmm h.fields.1]
    simp only [Option.bind_some]
    rw [hfi]
    cases zkA x.Name with
    | false=>rfl
    | true =>
      cases (x.Name == [36,105,110,105,116]) with
      | true=>rfl
      | false =>
        cases zkQ x.Type_ with
        | false=>rfl
        | true=>cases (c.Fields.take i).any fun y=>x.Name == y.Name <;> rfl
  have lm:zu (fun z=>zbk c z) 0=some (cond (uB (fun m=>(m.Abstract == c.Interface)&&zfE m) (·.Name) [] c.Methods) (.inr false) (.inl ())):=by
    rw [zsT]
    refine zhU h.methods.1 (fun i x hx=>?_) (by show zbk c (c.Methods.length:Int)=_; unfold zbk; rw [ze4]; rfl)
    have hm:=h.methods.2 x (List.mem_of_getElem? hx)
    have hfi:=zlW (fun y:zi=>y.Name == x.Name) c.Methods 0 i x hx (beq_self_eq_true _)
    rw [Nat.zero_add,zou] at hfi
    show zbk c (i:Int)=_
    unfold zbk
    rw [zeK hx,zy,hx]
    simp only [Option.bind_some,cond_true]
    rw [zjA hm,zld h.methods.1]
    simp only [Option.bind_some]
    rw [hfi]
    cases (x.Abstract == c.Interface) with
    | false=>rfl
    | true =>
      cases zfE x with
      | false=>cases (c.Methods.take i).any fun y=>x.Name == y.Name <;> rfl
      | true=>cases (c.Methods.take i).any fun y=>x.Name == y.Name <;> rfl
  have li:zu (fun z=>zbi c z) 0=some (cond (uB zbJ id [] c.Impl) (.inr false) (.inl ())):=by
    rw [zsT]
    refine zhU h.impl.1 (fun i x hx=>?_) (by show zbi c (c.Impl.length:Int)=_; unfold zbi; rw [ze4]; rfl)
    have hm:=h.impl.2 x (List.mem_of_getElem? hx)
    have hi:=(List.getElem?_eq_some_iff.1 hx).1
    have hin:zu (fun z=>zbh c (i:Int) z) 0=some (cond ((c.Impl.take i).any fun y=>y == x) (.inr false) (.inl ())):=by
      have ht:(c.Impl.take i).length=i:=by rw [List.length_take]; omega
      refine zgi (by omega) (fun j y hy=>?_) ?_
      · have hj:=(List.getElem?_eq_some_iff.1 hy).1
        rw [ht] at hj
        rw [List.getElem?_take_of_lt hj] at hy
        show zbh c (i:Int) (j:Int)=_
        unfold zbh
        rw [decide_eq_true (show (j:Int) < (i:Int) by omega),zy,hy,zy,hx]
        rfl
      · rw [ht]
        show zbh c (i:Int) (i:Int)=_
        unfold zbh
        rw [decide_eq_false (show ¬ (i:Int) < (i:Int) by omega)]; rfl
    show zbi c (i:Int)=_
    unfold zbi
    rw [zeK hx,zy,hx]
    simp only [Option.bind_some,cond_true]
    rw [zdI hm,hin,show ((c.Impl.take i).any fun y=>y == x)=(c.Impl.take i).any fun y=>id x == id y from zou _ id x]
    cases zbJ x with
    | false=>rfl
    | true=>cases (c.Impl.take i).any fun y=>id x == id y <;> rfl
  have hle:∀ (n:Nat) (b:Int),decide (b < (n:Int))=!decide ((n:Int)≤b):=fun n b=>by
    by_cases hb:(n:Int)≤b
    · rw [decide_eq_true hb,decide_eq_false (show ¬ b < (n:Int) by omega)]; rfl
    · rw [decide_eq_false hb,decide_eq_true (show b < (n:Int) by omega)]; rfl
  unfold zeA zd4 zd5 zme
  rw [zdI h.name,zdI h.super,li,lf,lm,hle c.Impl.length 4,hle c.Fields.length 8,hle c.Methods.length 8]
  generalize (c.Interface&&((!(c.Super == [79,98,106,101,99,116]))||decide (0 < (c.Fields.length:Int))))=B
  generalize uB zbJ id [] c.Impl=u1
  generalize uB zhw (·.Name) [] c.Fields=u2
  generalize uB (fun m=>(m.Abstract == c.Interface)&&zfE m) (·.Name) [] c.Methods=u3
  generalize decide ((c.Impl.length:Int)≤4)=d1
  generalize decide ((c.Fields.length:Int)≤8)=d2
  generalize decide ((c.Methods.length:Int)≤8)=d3
  cases zbJ c.Name with
  | false=>cases B <;> rfl
  | true =>
    cases zbJ c.Super with
    | false=>cases B <;> rfl
    | true=>cases B <;> cases u1 <;> cases u2 <;> cases u3 <;> cases d1 <;> cases d2 <;> cases d3 <;> rfl
end Go.Proofs.YthmnlfenkhmmhaaGreat
namespace Go.Proofs.YthmnlfenkhmmhaaGreat
set_option linter.unusedSimpArgs false
set_option linter.unusedVariables false
abbrev Tx:=List UInt8
def cl (L:List za) (n:Tx):Option za:=L.find? (fun c=>c.Name == n)
def atN (L:List za) (n:Tx):Int:=ixF (fun c=>c.Name == n) 0 L
def zcr (L:List za) (n:Tx):Bool:=L.any (fun c=>c.Name == n)
def isF (L:List za) (n:Tx):Bool:=match cl L n with | some c=>c.Interface | none=>false
theorem zl0 {α:Type} (p:α→Bool):∀ (l:List α) (k:Nat),(∃ j x,ixF p k l=((k+j:Nat):Int)∧l[j]?=some x∧p x=true∧l.find? p=some x)∨(ixF p k l=-1∧l.find? p=none)
  | [],k=>.inr ⟨rfl,rfl⟩
  | y :: r,k=>by
    unfold ixF
    cases h:p y with
    | true=>exact .inl ⟨0,y,rfl,rfl,h,by simp [List.find?,h]⟩
    | false =>
      rcases zl0 p r (k+1) with ⟨j,x,h1,h2,h3,h4⟩ | ⟨h1,h2⟩
      · exact .inl ⟨j+1,x,by show ixF p (k+1) r=_; rw [h1]; congr 1; omega,by simpa using h2,h3,by simp [List.find?,h,h4]⟩
      · exact .inr ⟨h1,by simp [List.find?,h,h2]⟩
theorem zls {α:Type} (p:α→Bool):∀ (l r:List α) (k:Nat),ixF p k (l++r)=cond (l.any p) (ixF p k l) (ixF p (k+l.length) r)
  | [],r,k=>rfl
  | y :: l,r,k=>by
    show ixF p k (y :: (l++r))=_
    rw [show ixF p k (y :: (l++r))=cond (p y) (k:Int) (ixF p (k+1) (l++r)) from rfl,show ixF p k (y :: l)=cond (p y) (k:Int) (ixF p (k+1) l) from rfl,List.any_cons]
    cases h:p y with
    | true=>rfl
    | false =>
      rw [Bool.false_or,cond_false,cond_false,zls p l r (k+1),show k+1+l.length=k+(y :: l).length by simp; omega]
theorem zmP (L:List za) (n:Tx):decide (0≤atN L n)=zcr L n:=zfc _ 0 L
theorem zs2 (L:List za) (n:Tx):decide (atN L n < 0)=!zcr L n:=by
  rw [← zmP]
  by_cases h:0≤atN L n
  · rw [decide_eq_true h,decide_eq_false (by omega)]; rfl
  · rw [decide_eq_false h,decide_eq_true (by omega)]; rfl
theorem zoM (L:List za) (n:Tx):idx L (atN L n)=cl L n:=by
  unfold atN cl
  rcases zl0 (fun c:za=>c.Name == n) L 0 with ⟨j,x,h1,h2,h3,h4⟩ | ⟨h1,h2⟩
  · rw [h1,h4,zy,Nat.zero_add,h2]
  · rw [h1,h2]; rfl
theorem zqB (L:List za) (n:Tx):(cl L n).isSome=zcr L n:=by
  unfold cl zcr
  rw [Bool.eq_iff_iff,List.any_eq_true]
  exact List.find?_isSome
theorem zeJ {L:List za} {n:Tx} {c:za} (h:cl L n=some c):c∈L∧c.Name=n:=by
  unfold cl at h
  exact ⟨List.mem_of_find?_eq_some h,eq_of_beq (List.find?_some (p:=fun c:za=>c.Name == n) h)⟩
theorem zhg {L:List za} {n:Tx} (h:zcr L n=true):∃ c,cl L n=some c:=by
  rw [← zqB] at h
  exact Option.isSome_iff_exists.1 h
theorem zhh {L:List za} {n:Tx} {c:za} (h:cl L n=some c):zcr L n=true:=by rw [← zqB,h]; rfl
theorem znX {L:List za} {n:Tx} (h:cl L n=none):zcr L n=false:=by rw [← zqB,h]; rfl
theorem zgD {L:List za} {n:Tx}:zcr L n=true↔n∈L.map (·.Name):=by
  unfold zcr
  rw [List.any_eq_true,List.mem_map]
  constructor
  · rintro ⟨c,h1,h2⟩; exact ⟨c,h1,eq_of_beq h2⟩
  · rintro ⟨c,h1,h2⟩; exact ⟨c,h1,beq_iff_eq.2 h2⟩
def Nd (L:List za):Prop:=∀ (i j:Nat) (c d:za),L[i]?=some c→L[j]?=some d→c.Name=d.Name→i=j
theorem Nd.at {L:List za} (h:Nd L) {i:Nat} {c:za} (hi:L[i]?=some c):atN L c.Name=(i:Int):=by
  unfold atN
  rcases zl0 (fun d:za=>d.Name == c.Name) L 0 with ⟨j,x,h1,h2,h3,h4⟩ | ⟨h1,h2⟩
  · rw [h1,Nat.zero_add,h j i x c h2 hi (eq_of_beq h3)]
  · have:=List.find?_eq_none.1 h2 c (List.mem_of_getElem? hi)
    simp at this
theorem Nd.cl {L:List za} (h:Nd L) {c:za} (hc:c∈L):cl L c.Name=some c:=by
  obtain ⟨i,hi,e⟩:=List.getElem_of_mem hc
  have hi':L[i]?=some c:=by rw [List.getElem?_eq_getElem hi,e]
  rw [← zoM,h.at hi',zy,hi']
theorem Nd.snoc {L:List za} (h:Nd L) {c:za} (hc:zcr L c.Name=false):Nd (L++[c]):=by
  have no:∀ (i:Nat) d,L[i]?=some d→d.Name≠c.Name:=fun i d hi e=>by
    have:zcr L c.Name=true:=zgD.2 (List.mem_map.2 ⟨d,List.mem_of_getElem? hi,e⟩)
    rw [hc] at this; cases this
  have get:∀ (i:Nat) d,(L++[c])[i]?=some d→(L[i]?=some d)∨(i=L.length∧d=c):=fun i d hi=>by
    rw [List.getElem?_append] at hi
    split at hi
    · exact .inl hi
    · rename_i hlt
      right
      have h1:=(List.getElem?_eq_some_iff.1 hi).1
      simp at h1
      have h2:i=L.length:=by omega
      subst h2
      simp at hi
      exact ⟨rfl,hi.symm⟩
  intro i j d e hi hj hn
  rcases get i d hi with h1 | ⟨h1,h1'⟩ <;> rcases get j e hj with h2 | ⟨h2,h2'⟩
  · exact h i j d e h1 h2 hn
  · subst h2'; exact absurd hn (no i d h1)
  · subst h1'; exact absurd hn.symm (no j e h2)
  · rw [h1,h2]
theorem zsm (L:List za) (c:za) (n:Tx):zcr (L++[c]) n=(zcr L n||(c.Name == n)):=by
  unfold zcr; simp
theorem zbV {α:Type} (k k':Tx) (x:α):∀ (m:List (Tx×α)),zw k (zat k' x m)=if k=k' then some x else zw k m
  | []=>by
    unfold zat zw zw
    by_cases h:k=k'
    · rw [if_pos h,decide_eq_true h]; rfl
    · rw [if_neg h,decide_eq_false h]; rfl
  | (a,y) :: r=>by
    unfold zat
    by_cases h':k'=a
    · subst h'
      rw [decide_eq_true rfl]
      show zw k ((k',x) :: r)=_
      unfold zw
      by_cases h:k=k'
      · rw [if_pos h,decide_eq_true h]; rfl
      · rw [if_neg h,decide_eq_false h]; rfl
    · rw [decide_eq_false h']
      show zw k ((a,y) :: zat k' x r)=_
      unfold zw
      rw [zbV k k' x r]
      by_cases h:k=k'
      · subst h
        rw [if_pos rfl,decide_eq_false h',if_pos rfl]; rfl
      · rw [if_neg h,if_neg h]
def zeI (L:List za) (m:List (Tx×Int)):Prop:=∀ n,zw n m=cond (zcr L n) (some (atN L n)) none
theorem zeI.snoc {L:List za} {m:List (Tx×Int)} (h:zeI L m) {c:za} (hc:zcr L c.Name=false):zeI (L++[c]) (zat c.Name (L.length:Int) m):=by
  intro n
  rw [zbV,zsm,h n]
  unfold atN
  rw [zls]
  show _=cond _ (some (cond (zcr L n) _ _)) none
  by_cases e:n=c.Name
  · subst e
    rw [if_pos rfl,hc,beq_self_eq_true]
    simp [ixF]
  · rw [if_neg e,beq_eq_false_iff_ne.2 (Ne.symm e)]
    cases zcr L n <;> rfl
theorem zeI.has {L:List za} {m:List (Tx×Int)} (h:zeI L m) (n:Tx):(zw n m).isSome=zcr L n:=by
  rw [h n]; cases zcr L n <;> rfl
theorem zeI.idx {L:List za} {m:List (Tx×Int)} (h:zeI L m) {n:Tx} (hn:zcr L n=true):idx L ((zw n m).getD 0)=cl L n:=by
  rw [h n,hn]; exact zoM L n
inductive Rc (nx:Tx→List Tx):Tx→Tx→Prop
  | one {a b}:b∈nx a→Rc nx a b
  | more {a b c}:b∈nx a→Rc nx b c→Rc nx a c
theorem Rc.snoc {nx:Tx→List Tx} {a b c:Tx} (h:Rc nx a b) (hc:c∈nx b):Rc nx a c:=by
  induction h with
  | one h=>exact .more h (.one hc)
  | more h _ ih=>exact .more h (ih hc)
theorem Rc.into {nx:Tx→List Tx} {F:Tx→Prop} (hF:∀ x,F x→∀ y∈nx x,F y) {a b:Tx} (h:Rc nx a b):(∀ y∈nx a,F y)→F b:=by
  induction h with
  | one h=>exact fun ha=>ha _ h
  | more h _ ih=>exact fun ha=>ih (hF _ (ha _ h))
theorem zro:∀ {a b:List Tx},a.Nodup→(∀ x∈a,x∈b)→a.length≤b.length
  | [],b,_,_=>by simp
  | x :: r,b,h,hs=>by
    rw [List.nodup_cons] at h
    have hx:=hs x (by simp)
    have h1:=zro (a:=r) (b:=b.erase x) h.2 (fun y hy=>(List.mem_erase_of_ne (fun e=>h.1 (by rw [← e]; exact hy))).2 (hs y (by simp [hy])))
    have h2:=List.length_erase_of_mem hx
    have h3:=List.length_pos_of_mem hx
    simp only [List.length_cons]
    omega
def push (zaj:List Tx):List Tx→List Tx
  | []=>zaj
  | s :: r=>push (cond (zaj.any fun y=>s == y) zaj (zaj++[s])) r
theorem zqp {s:Tx} {l:List Tx}:(l.any fun y=>s == y)=true↔s∈l:=by
  rw [List.any_eq_true]
  constructor
  · rintro ⟨y,h1,h2⟩; rw [eq_of_beq h2]; exact h1
  · intro h; exact ⟨s,h,beq_self_eq_true _⟩
theorem zgV:∀ (l zaj:List Tx),∃ t,push zaj l=zaj++t∧t.Nodup∧(∀ x∈t,x ∉ zaj∧x∈l)∧∀ x∈l,x∈zaj++t
  | [],zaj=>⟨[],by simp [push],by simp,fun x h=>(by cases h),fun x h=>(by cases h)⟩
  | s :: r,zaj=>by
    unfold push
    cases h:(zaj.any fun y=>s == y) with
    | true =>
      obtain ⟨t,h1,h2,h3,h4⟩:=zgV r zaj
      refine ⟨t,h1,h2,fun x hx=>⟨(h3 x hx).1,List.mem_cons_of_mem _ (h3 x hx).2⟩,fun x hx=>?_⟩
      rcases List.mem_cons.1 hx with e | e
      · rw [e]; exact List.mem_append_left _ (zqp.1 h)
      · exact h4 x e
    | false =>
      have hs:s ∉ zaj:=fun hm=>by rw [zqp.2 hm] at h; cases h
      obtain ⟨t,h1,h2,h3,h4⟩:=zgV r (zaj++[s])
      refine ⟨s :: t,by show push (zaj++[s]) r=_; rw [h1]; simp,List.nodup_cons.2 ⟨fun hm=>(h3 s hm).1 (by simp),h2⟩,fun x hx=>?_,fun x hx=>?_⟩
      · rcases List.mem_cons.1 hx with e | e
        · rw [e]; exact ⟨hs,by simp⟩
        · exact ⟨fun hm=>(h3 x e).1 (List.mem_append_left _ hm),List.mem_cons_of_mem _ (h3 x e).2⟩
      · rcases List.mem_cons.1 hx with e | e
        · rw [e]; simp
        · have:=h4 x e
          simpa using this
def bfs (nx:Tx→List Tx):Nat→Nat→List Tx→List Tx
  | 0,_,zaj=>zaj
  | d+1,i,zaj=>match zaj[i]? with | none=>zaj | some x=>bfs nx d (i+1) (push zaj (nx x))
def fin (nx:Tx→List Tx):Nat→Nat→List Tx→Bool
  | 0,i,zaj=>decide (zaj.length≤i)
  | d+1,i,zaj=>match zaj[i]? with | none=>true | some x=>fin nx d (i+1) (push zaj (nx x))
def Inv (U s0 zaj:List Tx):Prop:=∃ T,zaj=s0++T∧T.Nodup∧(∀ x∈T,x∈U) 
theorem Inv.push {U s0 zaj l:List Tx} (h:Inv U s0 zaj) (hU:∀ y∈l,y∈U):Inv U s0 (push zaj l):=by
  obtain ⟨T,h1,h2,h3⟩:=h
  obtain ⟨t,k1,k2,k3,k4⟩:=zgV l zaj
  refine ⟨T++t,by rw [k1,h1]; simp,List.nodup_append.2 ⟨h2,k2,fun a ha b hb e=>(k3 b hb).1 (by rw [h1,← e]; exact List.mem_append_right _ ha)⟩,fun x hx=>?_⟩
  rcases List.mem_append.1 hx with e | e
  · exact h3 x e
  · exact hU x (k3 x e).2
theorem Inv.len {U s0 zaj:List Tx} (h:Inv U s0 zaj):zaj.length≤s0.length+U.length:=by
  obtain ⟨T,h1,h2,h3⟩:=h
  have:=zro h2 h3
  rw [h1,List.length_append]; omega
theorem Inv.mem {U s0 zaj:List Tx} (h:Inv U s0 zaj) (h0:∀ x∈s0,x∈U):∀ x∈zaj,x∈U:=by
  obtain ⟨T,h1,h2,h3⟩:=h
  intro x hx
  rw [h1] at hx
  rcases List.mem_append.1 hx with e | e
  · exact h0 x e
  · exact h3 x e
theorem Inv.start {U s0:List Tx}:Inv U s0 s0:=⟨[],by simp,by simp,fun x h=>(by cases h)⟩
theorem zta {nx:Tx→List Tx} {U s0:List Tx} (hU:∀ x y,y∈nx x→y∈U):∀ (d i:Nat) (zaj:List Tx),Inv U s0 zaj→s0.length+U.length≤d+i→fin nx d i zaj=true
  | 0,i,zaj,h,hd=>by
    have:=h.len
    exact decide_eq_true (by omega)
  | d+1,i,zaj,h,hd=>by
    unfold fin
    cases zaj[i]? with
    | none=>rfl
    | some x=>exact zta hU d (i+1) _ (h.push (hU x)) (by omega)
theorem zlN {nx:Tx→List Tx}:∀ (d i:Nat) (zaj:List Tx),∃ t,bfs nx d i zaj=zaj++t
  | 0,i,zaj=>⟨[],by simp [bfs]⟩
  | d+1,i,zaj=>by
    unfold bfs
    cases zaj[i]? with
    | none=>exact ⟨[],by simp⟩
    | some x =>
      obtain ⟨t,h⟩:=zlN (nx:=nx) d (i+1) (push zaj (nx x))
      obtain ⟨u,k,_⟩:=zgV (nx x) zaj
      exact ⟨u++t,by show bfs nx d (i+1) _=_; rw [h,k]; simp⟩
theorem zmQ {nx:Tx→List Tx} {Q:Tx→Prop} (hQ:∀ x,Q x→∀ y∈nx x,Q y):∀ (d i:Nat) (zaj:List Tx),(∀ x∈zaj,Q x)→∀ x∈bfs nx d i zaj,Q x
  | 0,i,zaj,h=>h
  | d+1,i,zaj,h=>by
    unfold bfs
    cases hi:zaj[i]? with
    | none=>exact h
    | some x =>
      refine zmQ hQ d (i+1) _ fun y hy=>?_
      obtain ⟨u,k1,_,k3,_⟩:=zgV (nx x) zaj
      rw [k1] at hy
      rcases List.mem_append.1 hy with e | e
      · exact h y e
      · exact hQ x (h x (List.mem_of_getElem? hi)) y (k3 y e).2
theorem zlo {nx:Tx→List Tx}:∀ (d i:Nat) (zaj:List Tx),fin nx d i zaj=true→(∀ j x,j < i→zaj[j]?=some x→∀ y∈nx x,y∈zaj)→∀ x∈bfs nx d i zaj,∀ y∈nx x,y∈bfs nx d i zaj
  | 0,i,zaj,hf,h=>fun x hx y hy=>by
    have hl:zaj.length≤i:=of_decide_eq_true hf
    obtain ⟨j,hj,e⟩:=List.getElem_of_mem (show x∈zaj from hx)
    exact h j x (by omega) (by rw [List.getElem?_eq_getElem hj,e]) y hy
  | d+1,i,zaj,hf,h=>by
    unfold fin at hf
    unfold bfs
    cases hi:zaj[i]? with
    | none =>
      intro x hx y hy
      have hl:zaj.length≤i:=List.getElem?_eq_none_iff.1 hi
      obtain ⟨j,hj,e⟩:=List.getElem_of_mem (show x∈zaj from hx)
      exact h j x (by omega) (by rw [List.getElem?_eq_getElem hj,e]) y hy
    | some z =>
      rw [hi] at hf
      obtain ⟨u,k1,_,k3,k4⟩:=zgV (nx z) zaj
      have hlt:i < zaj.length:=(List.getElem?_eq_some_iff.1 hi).1
      refine zlo d (i+1) _ hf fun j x hj hx y hy=>?_
      rw [k1] at hx ⊢
      rw [List.getElem?_append_left (by omega)] at hx
      by_cases e:j=i
      · subst e
        rw [hi] at hx
        cases hx
        exact k4 y hy
      · exact List.mem_append_left _ (h j x (by omega) hx y hy)
theorem zuH {nx:Tx→List Tx} {d:Nat} {a b:Tx} (hf:fin nx d 0 (nx a)=true):b∈bfs nx d 0 (nx a)↔Rc nx a b:=by
  constructor
  · exact zmQ (Q:=fun x=>Rc nx a x) (fun x hx y hy=>hx.snoc hy) d 0 _ (fun x hx=>.one hx) b
  · intro h
    refine h.into (F:=fun x=>x∈bfs nx d 0 (nx a)) (zlo d 0 _ hf (fun j x hj=>by omega)) fun y hy=>?_
    obtain ⟨t,e⟩:=zlN (nx:=nx) d 0 (nx a)
    rw [e]; exact List.mem_append_left _ hy
theorem znD {R:Type} {I:List Tx→Prop} {nx:Tx→List Tx} {stop:Tx→Option R} {body:List Tx×Int→Option (Sum (List Tx×Int) (Sum Unit R))}
    (hb:∀ (i:Nat) zaj x,I zaj→zaj[i]?=some x→body (zaj,(i:Int))=match stop x with | some r=>some (.inr (.inr r)) | none=>some (.inl (push zaj (nx x),((i+1:Nat):Int))))
    (he:∀ (i:Nat) zaj,I zaj→zaj.length≤i→body (zaj,(i:Int))=some (.inr (.inl ())))
    (hp:∀ zaj x,I zaj→x∈zaj→I (push zaj (nx x))):∀ (d i:Nat) (zaj:List Tx),I zaj→fin nx d i zaj=true →
    zu body (zaj,(i:Int))=some (match ((bfs nx d i zaj).drop i).findSome? stop with | some r=>(Sum.inr r:Sum Unit R) | none=>Sum.inl ())
  | 0,i,zaj,hI,hf=>by
    have hl:zaj.length≤i:=of_decide_eq_true hf
    rw [zH,he i zaj hI hl]
    show _=some (match (zaj.drop i).findSome? stop with | some r=>(Sum.inr r:Sum Unit R) | none=>Sum.inl ())
    rw [List.drop_eq_nil_of_le hl]
    rfl
  | d+1,i,zaj,hI,hf=>by
    unfold fin at hf
    unfold bfs
    cases hi:zaj[i]? with
    | none =>
      have hl:zaj.length≤i:=List.getElem?_eq_none_iff.1 hi
      rw [zH,he i zaj hI hl]
      show _=some (match (zaj.drop i).findSome? stop with | some r=>(Sum.inr r:Sum Unit R) | none=>Sum.inl ())
      rw [List.drop_eq_nil_of_le hl]
      rfl
    | some x =>
      rw [hi] at hf
      obtain ⟨t,ht⟩:=zlN (nx:=nx) d (i+1) (push zaj (nx x))
      obtain ⟨u,hu,_⟩:=zgV (nx x) zaj
      have hx:(bfs nx d (i+1) (push zaj (nx x)))[i]?=some x:=by
        rw [ht,hu,List.append_assoc,List.getElem?_append_left (List.getElem?_eq_some_iff.1 hi).1,hi]
      obtain ⟨hlt,hge⟩:=List.getElem?_eq_some_iff.1 hx
      rw [zH,hb i zaj x hI hi]
      show _=some (match ((bfs nx d (i+1) (push zaj (nx x))).drop i).findSome? stop with | some r=>(Sum.inr r:Sum Unit R) | none=>Sum.inl ())
      rw [List.drop_eq_getElem_cons hlt,List.findSome?_cons,hge]
      cases stop x with
      | some r=>rfl
      | none=>exact znD hb he hp d (i+1) _ (hp _ _ hI (List.mem_of_getElem? hi)) hf
def nxA (L:List za) (n:Tx):List Tx:=match cl L n with | none=>[] | some c=>(c.Super :: c.Impl).filter (fun s=>!(s == []))
structure zts (L:List za):Prop where
  nd:Nd L
  noE:zcr L []=false
  closed:∀ c∈L,∀ s∈c.Super :: c.Impl,s≠[]→zcr L s=true
  implE:∀ c∈L,[] ∉ c.Impl
structure Wf (L:List za):Prop extends zts L where
  acyc:∀ n,¬ Rc (nxA L) n n
  superF:∀ c∈L,isF L c.Super=false
  implF:∀ c∈L,∀ s∈c.Impl,isF L s=true
theorem zts.nxA_in {L:List za} (h:zts L) (x y:Tx) (hy:y∈nxA L x):y∈L.map (·.Name):=by
  unfold nxA at hy
  split at hy
  · cases hy
  · rename_i c hc
    rw [List.mem_filter] at hy
    exact zgD.1 (h.closed c (zeJ hc).1 y hy.1 (by have:=hy.2; simpa using this))
def sup (L:List za):Nat→Tx→List Tx
  | 0,_=>[]
  | d+1,n=>match cl L n with | none=>[] | some c=>n :: sup L d c.Super
def zqe (L:List za):Nat→Tx→Bool
  | 0,n=>!zcr L n
  | d+1,n=>match cl L n with | none=>true | some c=>zqe L d c.Super
theorem zpe {L:List za} (h:Wf L):∀ (d:Nat) (n:Tx),zqe L d n=false→zcr L n=true∧∃ r,sup L (d+1) n=n :: r∧r.length=d∧(n :: r).Nodup∧(∀ x∈r,x∈L.map (·.Name)∧Rc (nxA L) n x)
  | 0,n,hf=>by
    have hn:zcr L n=true:=by simpa [zqe] using hf
    obtain ⟨c,hc⟩:=zhg hn
    exact ⟨hn,[],by simp [sup,hc],rfl,by simp,fun x h=>(by cases h)⟩
  | d+1,n,hf=>by
    unfold zqe at hf
    split at hf
    · cases hf
    · rename_i c hc
      obtain ⟨h0,r,h1,h2,h3,h4⟩:=zpe h d c.Super hf
      have hs:c.Super∈nxA L n:=by
        unfold nxA
        rw [hc]
        refine List.mem_filter.2 ⟨by simp,?_⟩
        have:c.Super≠[]:=fun e=>by rw [e,h.noE] at h0; cases h0
        simpa using this
      have h5:∀ x∈c.Super :: r,x∈L.map (·.Name)∧Rc (nxA L) n x:=fun x hx=>by
        rcases List.mem_cons.1 hx with e | e
        · rw [e]; exact ⟨zgD.1 h0,.one hs⟩
        · exact ⟨(h4 x e).1,.more hs (h4 x e).2⟩
      refine ⟨zhh hc,c.Super :: r,?_,by simp [h2],List.nodup_cons.2 ⟨fun hm=>h.acyc n (h5 n hm).2,h3⟩,h5⟩
      show (match cl L n with | none=>[] | some c=>n :: sup L (d+1) c.Super)=_
      rw [hc]
      show n :: sup L (d+1) c.Super=_
      rw [h1]
theorem zpd {L:List za} (h:Wf L) (n:Tx):zqe L L.length n=true:=by
  cases hf:zqe L L.length n with
  | true=>rfl
  | false =>
    obtain ⟨h0,r,h1,h2,h3,h4⟩:=zpe h _ n hf
    have:=zro h3 (b:=L.map (·.Name)) (fun x hx=>by
      rcases List.mem_cons.1 hx with e | e
      · rw [e]; exact zgD.1 h0
      · exact (h4 x e).1)
    simp at this
    omega
end Go.Proofs.YthmnlfenkhmmhaaGreat
namespace Go.Proofs.YthmnlfenkhmmhaaGreat
set_option linter.unusedSimpArgs false
set_option linter.unusedVariables false
def zww:Tx:=[79,98,106,101,99,116]
def zsQ:Tx:=[84,104,114,111,119,110]
def gC (n s:Tx):za:=za.mk n s false [] [] []
def giv:List za:=[gC zww [],gC zsQ zww,gC [78,117,108,108,69,114,114] zsQ,gC [82,97,110,103,101,69,114,114] zsQ,gC [77,97,116,104,69,114,114] zsQ,gC [67,97,115,116,69,114,114] zsQ,
  gC [83,105,122,101,69,114,114] zsQ,gC [83,116,111,114,101,69,114,114] zsQ,gC [73,110,105,116,69,114,114] zsQ,gC [67,108,97,115,115,69,114,114] zsQ]
theorem zlY:zhY=some giv:=by kernel_rfl
theorem zmq:zh2=some giv:=by kernel_rfl
def znf (k:Nat) (m:List (Tx×Int)):List za→List (Tx×Int)
  | []=>m
  | c :: r=>znf (k+1) (zat c.Name (k:Int) m) r
def fresh (pre:List za):List za→Bool
  | []=>true
  | c :: r=>!zcr pre c.Name&&fresh (pre++[c]) r
theorem zoT:∀ (r pre:List za) (m:List (Tx×Int)),zeI pre m→fresh pre r=true→zeI (pre++r) (znf pre.length m r)
  | [],pre,m,h,_=>by simpa [znf] using h
  | c :: r,pre,m,h,hf=>by
    simp only [fresh,Bool.and_eq_true,Bool.not_eq_true'] at hf
    have:=zoT r (pre++[c]) _ (h.snoc hf.1) hf.2
    simpa [znf] using this
theorem zoL:∀ (r pre:List za),Nd pre→fresh pre r=true→Nd (pre++r)
  | [],pre,h,_=>by simpa using h
  | c :: r,pre,h,hf=>by
    simp only [fresh,Bool.and_eq_true,Bool.not_eq_true'] at hf
    have:=zoL r (pre++[c]) (h.snoc hf.1) hf.2
    simpa using this
theorem ztS:zu (fun z=>zgH giv z.1 z.2) ([],0)=some (.inl (znf 0 [] giv)):=by kernel_rfl
theorem zqU:zeI giv (znf 0 [] giv):=zoT giv [] [] (fun n=>rfl) (by decide +kernel)
theorem zlr:Nd giv:=zoL giv [] (fun i j c d h=>by simp at h) (by decide +kernel)
noncomputable def lay:List za→List za→Option (List za)
  | L,[]=>some L
  | L,c :: r=>cond (zcr L c.Name||!zme c) none (lay (L++[c]) r)
theorem zlu:∀ (r L L':List za),Nd L→lay L r=some L'→L'=L++r∧Nd L'∧∀ c∈r,zme c=true
  | [],L,L',h,e=>by
    unfold lay at e
    cases e
    exact ⟨by simp,h,fun c hc=>by cases hc⟩
  | c :: r,L,L',h,e=>by
    unfold lay at e
    cases h1:zcr L c.Name with
    | true=>rw [h1] at e; cases e
    | false =>
      cases h2:zme c with
      | false=>rw [h1,h2] at e; cases e
      | true =>
        rw [h1,h2] at e
        obtain ⟨k1,k2,k3⟩:=zlu r (L++[c]) L' (h.snoc h1) e
        refine ⟨by rw [k1]; simp,k2,fun d hd=>?_⟩
        rcases List.mem_cons.1 hd with e | e
        · rw [e]; exact h2
        · exact k3 d e
theorem zwl {w:Nat} {L:List za} {c:za} (h:L.length≤1000) (hw:w≤1000):zhp w L [c]=some (L++[c]):=by
  refine zcx ?_ (by simp; omega)
  have:(L.length+[c].length) * w≤1001 * 1000:=Nat.mul_le_mul (by simp; omega) hw
  omega
theorem zoQ {l:List za} (hl:l.length≤16) (hc:∀ c∈l,zsY c):∀ (r pre L:List za) (m:List (Tx×Int)),l=pre++r→zeI L m→L.length=10+pre.length →
    (lay L r=none→zu (fun z=>zbq l z.1 z.2.1 z.2.2) (L,m,(pre.length:Int))=some (.inr (none,1))) ∧
    (∀ L',lay L r=some L'→∃ m',zeI L' m'∧zu (fun z=>zbq l z.1 z.2.1 z.2.2) (L,m,(pre.length:Int))=some (.inl (L',m')))
  | [],pre,L,m,e,hm,hL=>by
    rw [List.append_nil] at e
    subst e
    unfold lay
    refine ⟨fun h=>(by cases h),fun L' h=>?_⟩
    cases h
    refine ⟨m,hm,?_⟩
    rw [zH]
    show (zbq l L m (l.length:Int)).bind _=_
    unfold zbq
    rw [ze4]; rfl
  | c :: r,pre,L,m,e,hm,hL=>by
    have hlen:l.length=pre.length+(r.length+1):=by rw [e]; simp
    have hx:l[pre.length]?=some c:=by rw [e]; simp
    have hcm:c∈l:=List.mem_of_getElem? hx
    have step:zu (fun z=>zbq l z.1 z.2.1 z.2.2) (L,m,(pre.length:Int))=(cond (zcr L c.Name||!zme c) (some (.inr (.inr (none,1)))) (some (.inl (L++[c],zat c.Name (L.length:Int) m,((pre.length+1:Nat):Int))))).bind (Sum.elim (zu (fun z=>zbq l z.1 z.2.1 z.2.2)) some):=by
      rw [zH]
      show (zbq l L m (pre.length:Int)).bind _=_
      congr 1
      unfold zbq
      rw [zeK hx,zy,hx]
      simp only [cond_true,Option.bind_some]
      rw [hm.has,zlO (hc c hcm),zwl (by omega) (by omega),zK (by omega)]
      cases zcr L c.Name <;> cases zme c <;> rfl
    rw [step]
    unfold lay
    cases h1:(zcr L c.Name||!zme c) with
    | true=>exact ⟨fun _=>rfl,fun L' h=>by cases h⟩
    | false =>
      rw [Bool.or_eq_false_iff] at h1
      have:=zoQ hl hc r (pre++[c]) (L++[c]) _ (by rw [e]; simp) (hm.snoc h1.1) (by simp; omega)
      rw [show (pre++[c]).length=pre.length+1 by simp] at this
      exact this
structure Okc (c:za):Prop where
  name:c.Name≠[]
  impl:c.Impl.length≤4
  implE:∀ s∈c.Impl,s≠[]
theorem zmS {s:Tx} (h:zbJ s=true):s≠[]:=by
  intro e
  subst e
  unfold zbJ at h
  simp at h
theorem zrU {α:Type} {ok:α→Bool} {nm:α→List UInt8}:∀ {l pre:List α},uB ok nm pre l=false→∀ x∈l,ok x=true
  | [],_,_,x,hx=>by cases hx
  | y :: r,pre,h,x,hx=>by
    unfold uB at h
    simp only [Bool.or_eq_false_iff,Bool.not_eq_false'] at h
    rcases List.mem_cons.1 hx with e | e
    · rw [e]; exact h.1.1
    · exact zrU h.2 x e
theorem zt3 {c:za} (h:zme c=true):Okc c:=by
  unfold zme at h
  simp only [Bool.and_eq_true,Bool.not_eq_true',decide_eq_true_eq] at h
  obtain ⟨_,⟨⟨⟨⟨h1,h2⟩,h3,h4⟩,h5⟩,h6⟩⟩:=h
  exact ⟨zmS h1,by omega,fun s hs=>zmS (zrU h3 s hs)⟩
theorem ztU:∀ c∈giv,Okc c:=by
  intro c hc
  have h:giv.all (fun c=>!(c.Name == [])&&(c.Impl == []))=true:=by decide +kernel
  have:=List.all_eq_true.1 h c hc
  simp only [Bool.and_eq_true,Bool.not_eq_true',beq_eq_false_iff_ne,beq_iff_eq] at this
  exact ⟨this.1,by rw [this.2]; simp,fun s hs=>by rw [this.2] at hs; cases hs⟩
theorem zl7 {l L:List za} (h:lay giv l=some L):∀ c∈L,Okc c:=by
  obtain ⟨h1,h2,h3⟩:=zlu l giv L zlr h
  intro c hc
  rw [h1] at hc
  rcases List.mem_append.1 hc with e | e
  · exact ztU c e
  · exact zt3 (h3 c e)
theorem zoA {c:za} (h:c.Impl.length≤4):zhp 16 [c.Super] c.Impl=some (c.Super :: c.Impl):=zcx (by simp; omega) (by simp; omega)
theorem zgI {c:za} (h:c.Impl.length≤4):zeL c=some (c.Super :: c.Impl):=by
  unfold zeL; rw [zoA h]; rfl
theorem zqF {l:List Tx} {L:List za} {m:List (Tx×Int)} (hm:zeI L m) (hl:l.length≤1000):z6 l L m=some (l.any fun s=>!zcr L s):=by
  unfold z6 zaO
  rw [show ((zu (fun z=>zO l L m z) 0).bind fun o=>zQ o (fun b=>zaA) some)=_ from zbT (l:=l) (p:=fun s=>!zcr L s) (by omega)
    (fun i x hx=>by unfold zO zhX zbw; rw [zeK hx,zy,hx]; simp only [cond_true,Option.bind_some]; rw [hm.has]) (by unfold zO; rw [ze4]; rfl)]
  exact congrArg some (zfc _ 0 l)
theorem zm0 {L:List za} {m:List (Tx×Int)} (hm:zeI L m) {n:Tx} (hn:zcr L n=true):zbv L m n=cl L n:=by
  unfold zbv
  rw [hm.idx hn]
  cases cl L n <;> rfl
theorem zqG {l:List Tx} {L:List za} {m:List (Tx×Int)} (hm:zeI L m) (hl:l.length≤1000) (hh:∀ s∈l,zcr L s=true):z7 l L m=some (l.any fun s=>!isF L s):=by
  unfold z7 zaP
  rw [show ((zu (fun z=>zP l L m z) 0).bind fun o=>zQ o (fun b=>zaB) some)=_ from zbT (l:=l) (p:=fun s=>!isF L s) (by omega)
    (fun i x hx=>by
      obtain ⟨c,hc⟩:=zhg (hh x (List.mem_of_getElem? hx))
      unfold zP zd3 isF
      rw [zeK hx,zy,hx]; simp only [cond_true,Option.bind_some]; rw [zm0 hm (zhh hc),hc]; rfl) (by unfold zP; rw [ze4]; rfl)]
  exact congrArg some (zfc _ 0 l)
noncomputable def cyc (L:List za) (n:Tx):Bool:=@decide (Rc (nxA L) n n) (Classical.propDecidable _)
theorem zlU {L:List za} {n:Tx}:cyc L n=true↔Rc (nxA L) n n:=by unfold cyc; exact @decide_eq_true_iff _ (Classical.propDecidable _)
noncomputable def znG (L:List za) (c:za):Bool:=isF L c.Super||(c.Impl.any (fun s=>!isF L s)||cyc L c.Name)
theorem znn {R:Type} {body:List Tx×Int→Option (Sum (List Tx×Int) (Sum (List Tx) R))} {l:List Tx} {p:Tx→Bool} (hl:l.length≤100)
    (hb:∀ (i:Nat) x zaj,zaj.length≤1000→l[i]?=some x→body (zaj,(i:Int))=some (.inl (cond (p x&&!(zaj.any fun y=>x == y)) (zaj++[x]) zaj,IntKind.i64.wrap ((i:Int)+1))))
    (he:∀ zaj,body (zaj,(l.length:Int))=some (.inr (.inl zaj))):∀ (r pre zaj:List Tx),l=pre++r→zaj.length+r.length≤1000→zu body (zaj,(pre.length:Int))=some (.inl (push zaj (r.filter p)))
  | [],pre,zaj,e,hs=>by
    rw [List.append_nil] at e
    subst e
    rw [zH,he]; rfl
  | x :: r,pre,zaj,e,hs=>by
    have hlen:l.length=pre.length+(r.length+1):=by rw [e]; simp
    have hx:l[pre.length]?=some x:=by rw [e]; simp
    simp only [List.length_cons] at hs
    rw [zH,hb _ x zaj (by omega) hx,zK (by omega)]
    have ih:=fun s h=>znn hl hb he r (pre++[x]) s (by rw [e]; simp) h
    rw [show (pre++[x]).length=pre.length+1 by simp] at ih
    cases h1:p x with
    | false =>
      rw [List.filter_cons_of_neg (by rw [h1]; exact Bool.false_ne_true)]
      exact ih zaj (by omega)
    | true =>
      rw [List.filter_cons_of_pos h1]
      unfold push
      cases h2:(zaj.any fun y=>x == y) with
      | true=>exact ih zaj (by omega)
      | false=>exact ih (zaj++[x]) (by simp; omega)
theorem zsl {l:List Tx} (hl:l.length≤1000) (n:Tx):zZ l n=some (l.any fun y=>n == y):=zqY (by unfold zhT; omega) n
theorem zqN {l zaj:List Tx} (hl:l.length≤100) (hs:zaj.length+l.length≤1000):zu (fun z=>za7 l z.1 z.2) (zaj,0)=some (.inl (push zaj (l.filter (fun s=>!(s == []))))):=by
  refine znn (l:=l) (p:=fun s=>!(s == [])) hl (fun i x s h hx=>?_) (fun s=>?_) l [] zaj rfl hs
  · show za7 l s (i:Int)=_
    unfold za7 zbS
    rw [zeK hx,zy,hx]
    simp only [cond_true,Option.bind_some]
    rw [zsl h,zcx (w:=16) (l:=s) (x:=[x]) (by simp; omega) (by simp; omega)]
    cases (x == []) <;> cases (s.any fun y=>x == y) <;> rfl
  · show za7 l s (l.length:Int)=_
    unfold za7
    rw [ze4]; rfl
theorem zlz {L:List za} {n:Tx} {c:za} (h:cl L n=some c):nxA L n=(c.Super :: c.Impl).filter (fun s=>!(s == [])):=by unfold nxA; rw [h]
theorem ztg {L:List za} (hL:∀ c∈L,Okc c) (n:Tx):(nxA L n).length≤5:=by
  unfold nxA
  split
  · simp
  · rename_i c hc
    have:=(hL c (zeJ hc).1).impl
    exact Nat.le_trans (List.length_filter_le _ _) (by simp; omega)
theorem zsA (l zaj:List Tx):(push zaj l).length≤zaj.length+l.length:=by
  induction l generalizing zaj with
  | nil=>simp [push]
  | cons x r ih =>
    unfold push
    cases (zaj.any fun y=>x == y) with
    | true=>have:=ih zaj; simp only [cond_true,List.length_cons]; omega
    | false=>have:=ih (zaj++[x]); simp only [cond_false,List.length_cons]; simp at this; omega
theorem ztM {L:List za} {m:List (Tx×Int)} (hm:zeI L m) (h:zts L) (hO:∀ c∈L,Okc c) (hlen:L.length≤100) {c:za} (hc:c∈L) (hs:c.Super≠[]):zcS L m c=some (!znG L c):=by
  have hcs:=h.closed c hc
  have hsup:zcr L c.Super=true:=hcs c.Super (by simp) hs
  obtain ⟨x,hx⟩:=zhg hsup
  have himp:∀ s∈c.Impl,zcr L s=true:=fun s hm=>hcs s (by simp [hm]) ((hO c hc).implE s hm)
  have hi4:=(hO c hc).impl
  have e0:(c.Super :: c.Impl)=nxA L c.Name:=by
    rw [zlz (h.nd.cl hc),List.filter_eq_self.2]
    intro s hsm
    rcases List.mem_cons.1 hsm with e | e
    · rw [e]; simpa using hs
    · simpa using (hO c hc).implE s e
  unfold zcS
  rw [zm0 hm hsup,hx,zqG hm (by omega) himp,zgI hi4]
  simp only [Option.bind_some]
  have eF:isF L c.Super=x.Interface:=by unfold isF; rw [hx]
  unfold znG
  rw [eF]
  cases x.Interface with
  | true=>rfl
  | false =>
    cases c.Impl.any (fun s=>!isF L s) with
    | true=>rfl
    | false =>
      have hfin:fin (nxA L) (5+L.length) 0 (nxA L c.Name)=true:=zta (U:=L.map (·.Name)) (s0:=nxA L c.Name) h.nxA_in _ _ _ .start (by have:=ztg hO c.Name; simp; omega)
      have hw:=znD (R:=Bool) (I:=fun s=>Inv (List.map (fun c:za=>c.Name) L) (nxA L c.Name) s) (nx:=nxA L) (stop:=fun y=>cond (y == c.Name) (some false) none) (body:=fun z=>zaW L m c z.1 z.2)
        (fun i zaj y hI hy=>by
          have hsl:=hI.len
          have h5:=ztg hO c.Name
          have hym:zcr L y=true:=zgD.2 (hI.mem (fun z hz=>h.nxA_in _ z hz) y (List.mem_of_getElem? hy))
          obtain ⟨d,hd⟩:=zhg hym
          have hd4:=(hO d (zeJ hd).1).impl
          have hpl:=zsA (nxA L y) zaj
          simp only [List.length_map] at hsl
          show zaW L m c zaj (i:Int)=_
          unfold zaW zdD
          rw [zeK hy,zy,hy]
          simp only [cond_true,Option.bind_some]
          have hilt:=(List.getElem?_eq_some_iff.1 hy).1
          rw [zm0 hm hym,hd]
          simp only [Option.bind_some]
          rw [zgI hd4]
          simp only [Option.bind_some]
          rw [zqN (by simp; omega) (by simp; omega),← zlz hd,zK (by omega)]
          cases y == c.Name <;> rfl)
        (fun i zaj hI hle=>by
          show zaW L m c zaj (i:Int)=_
          unfold zaW
          rw [decide_eq_false (by omega)]; rfl)
        (fun zaj y hI hy=>hI.push (h.nxA_in y)) (5+L.length) 0 (nxA L c.Name) .start hfin
      rw [e0]
      rw [show zu (fun z=>zaW L m c z.1 z.2) (nxA L c.Name,0)=_ from hw,List.drop_zero,zcd]
      have:(bfs (nxA L) (5+L.length) 0 (nxA L c.Name)).any (fun y=>y == c.Name)=cyc L c.Name:=by
        rw [Bool.eq_iff_iff,zlU,← zuH hfin,List.any_eq_true]
        constructor
        · rintro ⟨y,h1,h2⟩; obtain rfl:=eq_of_beq h2; exact h1
        · intro h1; exact ⟨_,h1,beq_self_eq_true _⟩
      rw [this]
      cases cyc L c.Name <;> rfl
end Go.Proofs.YthmnlfenkhmmhaaGreat
namespace Go.Proofs.YthmnlfenkhmmhaaGreat
set_option linter.unusedSimpArgs false
set_option linter.unusedVariables false
def onB (inn:List Bool) (n:Nat):Bool:=inn.getD n false
def zk9 (L:List za) (inn:List Bool) (s:Tx):Bool:=zcr L s&&!onB inn (atN L s).toNat
def mk1 (L:List za) (inn:List Bool) (s:Tx):List Bool:=cond (zk9 L inn s) (inn.set (atN L s).toNat true) inn
def mkS (L:List za):List Bool→List Tx→List Bool
  | inn,[]=>inn
  | inn,s :: r=>mkS L (mk1 L inn s) r
theorem zsb {L:List za} {s:Tx} (h:zcr L s=true):0≤atN L s∧(atN L s).toNat < L.length:=by
  unfold zcr at h
  unfold atN
  rcases zl0 (fun c:za=>c.Name == s) L 0 with ⟨j,x,h1,h2,h3,h4⟩ | ⟨h1,h2⟩
  · have:=(List.getElem?_eq_some_iff.1 h2).1
    rw [h1]
    omega
  · rw [List.any_eq_true] at h
    obtain ⟨c,k1,k2⟩:=h
    have:=List.find?_eq_none.1 h2 c k1
    exact absurd k2 this
theorem zmg (L:List za) (inn:List Bool) (s:Tx):(mk1 L inn s).length=inn.length:=by
  unfold mk1
  cases zk9 L inn s <;> simp
theorem ziw (L:List za):∀ (l:List Tx) (inn:List Bool),(mkS L inn l).length=inn.length
  | [],inn=>rfl
  | s :: r,inn=>by unfold mkS; rw [ziw L r,zmg]
theorem zu7 {inn:List Bool} {n k:Nat} (h:n < inn.length):onB (inn.set n true) k=(onB inn k||Nat.beq k n):=by
  unfold onB
  rw [List.getD_eq_getElem?_getD,List.getD_eq_getElem?_getD,List.getElem?_set]
  by_cases e:n=k
  · subst e
    simp [h]
  · rw [if_neg e]
    have:Nat.beq k n=false:=by
      cases hb:Nat.beq k n with
      | false=>rfl
      | true=>exact absurd (Nat.eq_of_beq_eq_true hb).symm e
    rw [this,Bool.or_false]
theorem zu2 {L:List za} {inn:List Bool} (hl:inn.length=L.length) (s:Tx) (k:Nat):onB (mk1 L inn s) k=(onB inn k||(zcr L s&&Nat.beq k (atN L s).toNat)):=by
  unfold mk1 zk9
  cases h:zcr L s with
  | false=>simp
  | true =>
    cases h2:onB inn (atN L s).toNat with
    | false =>
      simp only [Bool.not_false,Bool.and_self,cond_true,Bool.true_and]
      exact zu7 (by rw [hl]; exact (zsb h).2)
    | true =>
      simp only [Bool.not_true,Bool.and_false,cond_false,Bool.true_and]
      cases h3:Nat.beq k (atN L s).toNat with
      | false=>simp
      | true=>rw [Nat.eq_of_beq_eq_true h3,h2]; rfl
theorem zoS {L:List za}:∀ (l:List Tx) (inn:List Bool),inn.length=L.length→∀ k,onB (mkS L inn l) k=(onB inn k||l.any (fun s=>zcr L s&&Nat.beq k (atN L s).toNat))
  | [],inn,hl,k=>by simp [mkS]
  | s :: r,inn,hl,k=>by
    unfold mkS
    rw [zoS r _ (by rw [zmg]; exact hl),zu2 hl,List.any_cons,Bool.or_assoc]
theorem zne {L:List za}:∀ (l:List Tx) (inn:List Bool),l.any (zk9 L inn)=false→mkS L inn l=inn
  | [],inn,_=>rfl
  | s :: r,inn,h=>by
    rw [List.any_cons,Bool.or_eq_false_iff] at h
    unfold mkS
    have:mk1 L inn s=inn:=by unfold mk1; rw [h.1]; rfl
    rw [this,zne r inn h.2]
theorem zlx {R:Type} {L:List za} {l:List Tx} {body:List Bool×Bool×Int→Option (Sum (List Bool×Bool×Int) (Sum (List Bool×Bool) R))} (hl:l.length≤1000)
    (hb:∀ (j:Nat) s inn more,inn.length=L.length→l[j]?=some s→body (inn,more,(j:Int))=some (.inl (mk1 L inn s,more||zk9 L inn s,IntKind.i64.wrap ((j:Int)+1))))
    (he:∀ inn more,body (inn,more,(l.length:Int))=some (.inr (.inl (inn,more)))) :
    ∀ (r pre:List Tx) (inn:List Bool) (more:Bool),l=pre++r→inn.length=L.length→zu body (inn,more,(pre.length:Int))=some (.inl (mkS L inn r,more||r.any (zk9 L inn)))
  | [],pre,inn,more,e,hi=>by
    rw [List.append_nil] at e
    subst e
    rw [zH,he]
    show some _=some _
    simp [mkS]
  | s :: r,pre,inn,more,e,hi=>by
    have hlen:l.length=pre.length+(r.length+1):=by rw [e]; simp
    have hx:l[pre.length]?=some s:=by rw [e]; simp
    rw [zH,hb _ s inn more hi hx,zK (by omega)]
    have ih:=fun i m h=>zlx hl hb he r (pre++[s]) i m (by rw [e]; simp) h
    rw [show (pre++[s]).length=pre.length+1 by simp] at ih
    show zu body (mk1 L inn s,more||zk9 L inn s,((pre.length+1:Nat):Int))=_
    rw [ih _ _ (by rw [zmg]; exact hi),List.any_cons,show mkS L inn (s :: r)=mkS L (mk1 L inn s) r from rfl]
    cases h:zk9 L inn s with
    | true=>simp
    | false =>
      have:mk1 L inn s=inn:=by unfold mk1; rw [h]; rfl
      rw [this]; simp
def zfF (L:List za) (nx:za→List Tx) (act:Nat→Bool):List Bool→Nat→List za→List Bool
  | inn,_,[]=>inn
  | inn,k,c :: r=>zfF L nx act (cond (onB inn k||act k) (mkS L inn (nx c)) inn) (k+1) r
def ziy (L:List za) (nx:za→List Tx) (act:Nat→Bool):List Bool→Nat→List za→Bool
  | _,_,[]=>false
  | inn,k,c :: r=>cond (onB inn k||act k) ((nx c).any (zk9 L inn)) false||ziy L nx act (cond (onB inn k||act k) (mkS L inn (nx c)) inn) (k+1) r
section
variable {L : List za} {nx : za → List Tx} {act : Nat → Bool}
theorem zmk:∀ (r:List za) (k:Nat) (inn:List Bool),(zfF L nx act inn k r).length=inn.length
  | [],k,inn=>rfl
  | c :: r,k,inn=>by
    unfold zfF
    rw [zmk r]
    cases onB inn k||act k
    · rfl
    · exact ziw L _ _
theorem zrF {inn:List Bool} (hl:inn.length=L.length) (b:Bool) (l:List Tx) (n:Nat) (h:onB inn n=true):onB (cond b (mkS L inn l) inn) n=true:=by
  cases b with
  | false=>exact h
  | true=>show onB (mkS L inn l) n=true; rw [zoS l inn hl,h]; rfl
theorem zkF:∀ (r:List za) (k:Nat) (inn:List Bool),inn.length=L.length→∀ n,onB inn n=true→onB (zfF L nx act inn k r) n=true
  | [],k,inn,hl,n,h=>h
  | c :: r,k,inn,hl,n,h=>by
    unfold zfF
    refine zkF r (k+1) _ ?_ n (zrF hl _ _ n h)
    cases onB inn k||act k
    · exact hl
    · exact (ziw L _ _).trans hl
theorem zh1:∀ (r:List za) (k:Nat) (inn:List Bool),ziy L nx act inn k r=false→zfF L nx act inn k r=inn∧∀ (j:Nat) c,r[j]?=some c→(onB inn (k+j)||act (k+j))=true→(nx c).any (zk9 L inn)=false
  | [],k,inn,_=>⟨rfl,fun j c h=>by simp at h⟩
  | c :: r,k,inn,h=>by
    unfold ziy at h
    unfold zfF
    rw [Bool.or_eq_false_iff] at h
    have e:cond (onB inn k||act k) (mkS L inn (nx c)) inn=inn:=by
      cases hb:onB inn k||act k with
      | false=>rfl
      | true=>rw [hb] at h; exact zne _ _ h.1
    rw [e] at h ⊢
    obtain ⟨h1,h2⟩:=zh1 r (k+1) inn h.2
    refine ⟨h1,fun j d hj hb=>?_⟩
    cases j with
    | zero =>
      have:c=d:=by simpa using hj
      subst this
      rw [Nat.add_zero] at hb
      rw [hb] at h
      exact h.1
    | succ j=>exact h2 j d (by simpa using hj) (by rw [show k+1+j=k+(j+1) by omega]; exact hb)
theorem zo0:∀ (r:List za) (k:Nat) (inn:List Bool),inn.length=L.length→∀ (j:Nat) c,r[j]?=some c→(onB inn (k+j)||act (k+j))=true→∀ s∈nx c,zcr L s=true→onB (zfF L nx act inn k r) (atN L s).toNat=true
  | [],k,inn,hl,j,c,h,_=>by simp at h
  | d :: r,k,inn,hl,j,c,hj,hb=>by
    intro s hs hh
    unfold zfF
    have hl2:(cond (onB inn k||act k) (mkS L inn (nx d)) inn).length=L.length:=by
      cases onB inn k||act k
      · exact hl
      · exact (ziw L _ _).trans hl
    cases j with
    | zero =>
      have:d=c:=by simpa using hj
      subst this
      rw [Nat.add_zero] at hb
      refine zkF r (k+1) _ hl2 _ ?_
      rw [hb]
      show onB (mkS L inn (nx d)) _=true
      rw [zoS _ _ hl,Bool.or_eq_true]
      right
      rw [List.any_eq_true]
      exact ⟨s,hs,by rw [hh,Bool.true_and]; exact Nat.beq_refl _⟩
    | succ j =>
      refine zo0 r (k+1) _ hl2 j c (by simpa using hj) ?_ s hs hh
      rw [show k+1+j=k+(j+1) by omega]
      rw [Bool.or_eq_true] at hb ⊢
      rcases hb with hb | hb
      · exact .inl (zrF hl _ _ _ hb)
      · exact .inr hb
theorem zjz {Q:Nat→Prop}:∀ (r:List za) (k:Nat) (inn:List Bool),inn.length=L.length→(∀ (j:Nat) c,r[j]?=some c→(Q (k+j)∨act (k+j)=true)→∀ s∈nx c,zcr L s=true→Q (atN L s).toNat) →
    (∀ n,onB inn n=true→Q n)→∀ n,onB (zfF L nx act inn k r) n=true→Q n
  | [],k,inn,hl,hQ,h=>h
  | c :: r,k,inn,hl,hQ,h=>by
    unfold zfF
    refine zjz r (k+1) _ ?_ (fun j d hj hor=>?_) (fun n hn=>?_)
    · cases onB inn k||act k
      · exact hl
      · exact (ziw L _ _).trans hl
    · rw [show k+1+j=k+(j+1) by omega] at hor
      exact hQ (j+1) d (by simpa using hj) hor
    · cases hb:onB inn k||act k with
      | false=>rw [hb] at hn; exact h n hn
      | true =>
        rw [hb] at hn
        have hn:onB (mkS L inn (nx c)) n=true:=hn
        rw [zoS _ _ hl,Bool.or_eq_true] at hn
        rcases hn with hn | hn
        · exact h n hn
        · rw [List.any_eq_true] at hn
          obtain ⟨s,hs,hs2⟩:=hn
          rw [Bool.and_eq_true] at hs2
          rw [Nat.eq_of_beq_eq_true hs2.2]
          refine hQ 0 c rfl ?_ s hs hs2.1
          rw [Nat.add_zero]
          rw [Bool.or_eq_true] at hb
          exact hb.imp (h k) id
def cnt (inn:List Bool):Nat:=inn.count true
theorem zqE:∀ (inn:List Bool) (n:Nat),n < inn.length→onB inn n=false→cnt (inn.set n true)=cnt inn+1
  | [],n,h,_=>by simp at h
  | b :: r,0,h,hb=>by
    have:b=false:=by simpa [onB] using hb
    subst this
    simp [cnt]
  | b :: r,n+1,h,hb=>by
    have:=zqE r n (by simpa using h) (by simpa [onB] using hb)
    unfold cnt at this ⊢
    rw [List.set_cons_succ,List.count_cons,List.count_cons,this]
    omega
theorem ztF {inn:List Bool} (hl:inn.length=L.length) (s:Tx):cnt (mk1 L inn s)=cnt inn+cond (zk9 L inn s) 1 0:=by
  unfold mk1
  cases h:zk9 L inn s with
  | false=>rfl
  | true =>
    unfold zk9 at h
    rw [Bool.and_eq_true,Bool.not_eq_true'] at h
    exact zqE inn _ (by rw [hl]; exact (zsb h.1).2) h.2
theorem zqD:∀ (l:List Tx) (inn:List Bool),inn.length=L.length→cnt inn+cond (l.any (zk9 L inn)) 1 0≤cnt (mkS L inn l)
  | [],inn,hl=>by simp [mkS]
  | s :: r,inn,hl=>by
    have ih:=zqD r (mk1 L inn s) (by rw [zmg]; exact hl)
    have h1:=ztF hl s
    unfold mkS
    rw [List.any_cons]
    cases h:zk9 L inn s with
    | true=>rw [h] at h1; simp only [cond_true] at h1; simp only [Bool.true_or,cond_true]; omega
    | false =>
      have e:mk1 L inn s=inn:=by unfold mk1; rw [h]; rfl
      rw [e] at ih ⊢
      simpa using ih
theorem zoE:∀ (r:List za) (k:Nat) (inn:List Bool),inn.length=L.length→cnt inn+cond (ziy L nx act inn k r) 1 0≤cnt (zfF L nx act inn k r)
  | [],k,inn,hl=>by simp [zfF,ziy]
  | c :: r,k,inn,hl=>by
    unfold zfF ziy
    have hl2:(cond (onB inn k||act k) (mkS L inn (nx c)) inn).length=L.length:=by
      cases onB inn k||act k
      · exact hl
      · exact (ziw L _ _).trans hl
    have ih:=zoE r (k+1) _ hl2
    have h1:cnt inn+cond (cond (onB inn k||act k) ((nx c).any (zk9 L inn)) false) 1 0≤cnt (cond (onB inn k||act k) (mkS L inn (nx c)) inn):=by
      cases onB inn k||act k with
      | false=>simp
      | true=>exact zqD _ _ hl
    generalize cond (onB inn k||act k) ((nx c).any (zk9 L inn)) false=x at *
    generalize ziy L nx act (cond (onB inn k||act k) (mkS L inn (nx c)) inn) (k+1) r=y at *
    cases x <;> cases y <;> simp only [Bool.or_false,Bool.or_true,cond_true,cond_false] at * <;> omega
theorem zuJ (inn:List Bool):cnt inn≤inn.length:=List.count_le_length
theorem znk {R X:Type} {st:List Bool→Bool→Int→X} {body:X→Option (Sum X (Sum (List Bool×Bool) R))} (hL:L.length≤1000)
    (hb:∀ (k:Nat) c inn more,inn.length=L.length→L[k]?=some c→body (st inn more (k:Int))=some (.inl (cond (onB inn k||act k) (st (mkS L inn (nx c)) (more||(nx c).any (zk9 L inn)) ((k+1:Nat):Int)) (st inn more ((k+1:Nat):Int)))))
    (he:∀ inn more,body (st inn more (L.length:Int))=some (.inr (.inl (inn,more)))) :
    ∀ (r pre:List za) (inn:List Bool) (more:Bool),L=pre++r→inn.length=L.length→zu body (st inn more (pre.length:Int))=some (.inl (zfF L nx act inn pre.length r,more||ziy L nx act inn pre.length r))
  | [],pre,inn,more,e,hi=>by
    rw [List.append_nil] at e
    subst e
    rw [zH,he]
    show some _=some _
    simp [zfF,ziy]
  | c :: r,pre,inn,more,e,hi=>by
    have hx:L[pre.length]?=some c:=by rw [e]; simp
    rw [zH,hb _ c inn more hi hx]
    have ih:=fun i m h=>znk hL hb he r (pre++[c]) i m (by rw [e]; simp) h
    rw [show (pre++[c]).length=pre.length+1 by simp] at ih
    unfold zfF ziy
    cases onB inn pre.length||act pre.length with
    | false =>
      show zu body (st inn more ((pre.length+1:Nat):Int))=_
      rw [ih _ _ hi]
      simp
    | true =>
      show zu body (st (mkS L inn (nx c)) _ ((pre.length+1:Nat):Int))=_
      rw [ih _ _ (by rw [ziw]; exact hi),Bool.or_assoc]
      rfl
def zvN (L:List za) (nx:za→List Tx) (act:Nat→Bool) (R:List Bool):Prop :=
  ∀ (k:Nat) c,L[k]?=some c→(onB R k||act k)=true→∀ s∈nx c,zcr L s=true→onB R (atN L s).toNat=true
theorem zuf {inn:List Bool} (h:ziy L nx act inn 0 L=false):zvN L nx act inn:=fun k c hk hb s hs hh=>by
  have:=(zh1 L 0 inn h).2 k c hk (by rw [Nat.zero_add]; exact hb)
  rw [List.any_eq_false] at this
  have:=this s hs
  unfold zk9 at this
  rw [hh,Bool.true_and,Bool.not_eq_true',Bool.not_eq_false] at this
  exact this
theorem zlA {R X:Type} {st:List Bool→Bool→X} {body:X→Option (Sum X (Sum (List Bool) R))} {Q:Nat→Prop}
    (hb:∀ inn,inn.length=L.length→body (st inn true)=some (.inl (st (zfF L nx act inn 0 L) (ziy L nx act inn 0 L))))
    (he:∀ inn,inn.length=L.length→body (st inn false)=some (.inr (.inl inn)))
    (hQ:∀ (j:Nat) c,L[j]?=some c→(Q j∨act j=true)→∀ s∈nx c,zcr L s=true→Q (atN L s).toNat) :
    ∀ (d:Nat) (inn:List Bool),inn.length=L.length→L.length≤d+cnt inn→(∀ n,onB inn n=true→Q n) →
    ∃ F,zu body (st inn true)=some (.inl F)∧F.length=L.length∧zvN L nx act F∧(∀ n,onB inn n=true→onB F n=true)∧(∀ n,onB F n=true→Q n)
  | d,inn,hl,hd,hq=>by
    have hl2:(zfF L nx act inn 0 L).length=L.length:=(zmk L 0 inn).trans hl
    rw [zH,hb inn hl]
    cases hg:ziy L nx act inn 0 L with
    | false =>
      have e:=(zh1 L 0 inn hg).1
      refine ⟨inn,?_,hl,zuf hg,fun n h=>h,hq⟩
      show zu body (st _ false)=_
      rw [zH,he _ hl2,e]; rfl
    | true =>
      have hc:=zoE (nx:=nx) (act:=act) L 0 inn hl
      rw [hg] at hc
      simp only [cond_true] at hc
      have hle:=zuJ (zfF L nx act inn 0 L)
      have hq2:∀ n,onB (zfF L nx act inn 0 L) n=true→Q n:=zjz L 0 inn hl (fun j c hj hor=>by rw [Nat.zero_add] at hor; exact hQ j c hj hor) hq
      cases d with
      | zero=>omega
      | succ d =>
        obtain ⟨F,k1,k2,k3,k4,k5⟩:=zlA hb he hQ d _ hl2 (by omega) hq2
        exact ⟨F,k1,k2,k3,fun n h=>k4 n (zkF L 0 inn hl n h),k5⟩
end
end Go.Proofs.YthmnlfenkhmmhaaGreat
namespace Go.Proofs.YthmnlfenkhmmhaaGreat
set_option linter.unusedSimpArgs false
set_option linter.unusedVariables false
def mis (L:List za) (c:za):Bool:=(c.Super :: c.Impl).any (fun s=>!zcr L s)
noncomputable def zq7 (l:List za):Option (List za)×Int :=
  cond (decide (16 < (l.length:Int))) (none,3) (match lay giv l with
    | none=>(none,1)
    | some L=>cond (l.any (mis L)) (none,4) (cond (l.any (znG L)) (none,1) (some L,0)))
theorem zn2 {l L:List za} (h:lay giv l=some L) (hm:l.any (mis L)=false):zts L∧∀ c∈l,c.Super≠[]:=by
  obtain ⟨h1,h2,h3⟩:=zlu l giv L zlr h
  have hO:=zl7 h
  have noE:zcr L []=false:=by
    cases hh:zcr L [] with
    | false=>rfl
    | true =>
      obtain ⟨c,hc⟩:=zhg hh
      exact absurd (zeJ hc).2 (hO c (zeJ hc).1).name
  have hl:∀ c∈l,∀ s∈c.Super :: c.Impl,zcr L s=true:=fun c hc s hs=>by
    have:=List.any_eq_false.1 hm c hc
    unfold mis at this
    rw [Bool.not_eq_true,List.any_eq_false] at this
    simpa using this s hs
  refine ⟨⟨h2,noE,fun c hc s hs hne=>?_,fun c hc hm=>(hO c hc).implE [] hm rfl⟩,fun c hc e=>?_⟩
  · rw [h1] at hc
    rcases List.mem_append.1 hc with e | e
    · have hg:giv.all (fun c=>(c.Super :: c.Impl).all (fun s=>s == []||zcr giv s))=true:=by decide +kernel
      have:=List.all_eq_true.1 (List.all_eq_true.1 hg c e) s hs
      rw [Bool.or_eq_true,beq_iff_eq] at this
      rcases this with e | e
      · exact absurd e hne
      · rw [zgD] at e ⊢
        rw [h1,List.map_append]
        exact List.mem_append_left _ e
    · exact hl c e s hs
  · have:=hl c hc c.Super (by simp)
    rw [e,noE] at this; cases this
theorem zu4 {l L:List za} {m:List (Tx×Int)} (hl:l.length≤16) (hm:zeI L m) (hO:∀ c∈l,c.Impl.length≤4) :
    zu (fun z=>zdm l L m z) 0=some (zqc () (cond (l.any (mis L)) (some (none,4)) none)):=by
  rw [← zcd]
  refine ziX (fun i c hc=>?_) ?_
  · show zdm l L m (i:Int)=_
    have:=hO c (List.mem_of_getElem? hc)
    have hi:=(List.getElem?_eq_some_iff.1 hc).1
    unfold zdm
    rw [zeK hc,zy,hc]
    simp only [cond_true,Option.bind_some]
    rw [zgI this]
    simp only [Option.bind_some]
    rw [zqF hm (by simp; omega),zK (by omega)]
    simp only [Option.bind_some]
    show _=some (zs1 i (cond (mis L c) _ _))
    unfold mis
    cases ((c.Super :: c.Impl).any fun s=>!zcr L s) <;> rfl
  · show zdm l L m (l.length:Int)=_
    unfold zdm
    rw [ze4]; rfl
theorem zu5 {l L:List za} {m:List (Tx×Int)} (hl:l.length≤16) (hf:∀ c∈l,zcS L m c=some (!znG L c)) :
    zu (fun z=>zdn l L m z) 0=some (zqc () (cond (l.any (znG L)) (some (none,1)) none)):=by
  rw [← zcd]
  refine ziX (fun i c hc=>?_) ?_
  · show zdn l L m (i:Int)=_
    have hi:=(List.getElem?_eq_some_iff.1 hc).1
    unfold zdn
    rw [zeK hc,zy,hc]
    simp only [cond_true,Option.bind_some]
    rw [hf c (List.mem_of_getElem? hc),zK (by omega)]
    simp only [Option.bind_some]
    cases znG L c <;> rfl
  · show zdn l L m (l.length:Int)=_
    unfold zdn
    rw [ze4]; rfl
theorem znY {l:List za} (hc:∀ c∈l,zsY c):∃ m,(∀ L,(zq7 l).1=some L→zeI L m)∧zhW l=some ((zq7 l).1.map (fun L=>zaZ.mk L m),(zq7 l).2):=by
  unfold zhW zq7
  cases hl:decide (16 < (l.length:Int)) with
  | true=>exact ⟨[],fun L h=>(by cases h),rfl⟩
  | false =>
    have hl:=of_decide_eq_false hl
    rw [zlY]
    simp only [cond_false,Option.bind_some]
    rw [ztS]
    simp only [Option.bind_some,zQ]
    have hl16:l.length≤16:=by omega
    obtain ⟨h1,h2⟩:=zoQ hl16 hc l [] giv _ rfl zqU rfl
    unfold zgE
    cases hy:lay giv l with
    | none =>
      rw [show zu (fun z=>zbq l z.1 z.2.1 z.2.2) (giv,znf 0 [] giv,0)=_ from h1 hy]
      exact ⟨[],fun L h=>(by cases h),rfl⟩
    | some L =>
      obtain ⟨m,hm,e⟩:=h2 L hy
      rw [show zu (fun z=>zbq l z.1 z.2.1 z.2.2) (giv,znf 0 [] giv,0)=_ from e]
      obtain ⟨k1,k2,k3⟩:=zlu l giv L zlr hy
      have hO:=zl7 hy
      have hlL:∀ c∈l,c∈L:=fun c hc=>by rw [k1]; exact List.mem_append_right _ hc
      have hlen:L.length≤100:=by rw [k1,List.length_append]; have:giv.length=10:=rfl; omega
      simp only [Option.bind_some,zQ]
      unfold zgF
      rw [zu4 hl16 hm (fun c hc=>(hO c (hlL c hc)).impl)]
      cases hmis:l.any (mis L) with
      | true=>exact ⟨[],fun L h=>(by cases h),rfl⟩
      | false =>
        obtain ⟨hL,hS⟩:=zn2 hy hmis
        simp only [cond_false,Option.bind_some,zQ,zqc]
        unfold zgG
        rw [zu5 hl16 (fun c hc=>ztM hm hL hO hlen (hlL c hc) (hS c hc))]
        cases hb:l.any (znG L) with
        | true=>exact ⟨[],fun L h=>(by cases h),rfl⟩
        | false=>exact ⟨m,fun L' h=>(by cases h; exact hm),rfl⟩
theorem zlM {L:List za} (hl:L.length≤1000) (n:Tx):zba L n=some (atN L n):=by
  unfold zba
  rw [show ((zu (fun z=>zcA L n z) 0).bind fun o=>zQ o (fun b=>zeB) some)=_ from zbT (l:=L) (p:=fun c:za=>c.Name == n) (by omega)
    (fun i x hx=>by unfold zcA; rw [zeK hx,zy,hx]; rfl) (by unfold zcA; rw [ze4]; rfl)]
  rfl
theorem zq1 {l:List za} (hl:l.length≤16) (hc:∀ c∈l,zsY c):∀ (r pre L:List za),l=pre++r→L.length=10+pre.length →
    zu (fun z=>zbZ l z.1 z.2) (L,(pre.length:Int))=some (match lay L r with | none=>.inr (none,1) | some L'=>.inl L')
  | [],pre,L,e,hL=>by
    rw [List.append_nil] at e
    subst e
    rw [zH]
    show (zbZ l L (l.length:Int)).bind _=_
    unfold zbZ
    rw [ze4]; rfl
  | c :: r,pre,L,e,hL=>by
    have hlen:l.length=pre.length+(r.length+1):=by rw [e]; simp
    have hx:l[pre.length]?=some c:=by rw [e]; simp
    have hcm:c∈l:=List.mem_of_getElem? hx
    have step:zu (fun z=>zbZ l z.1 z.2) (L,(pre.length:Int))=(cond (zcr L c.Name||!zme c) (some (.inr (.inr (none,1)))) (some (.inl (L++[c],((pre.length+1:Nat):Int))))).bind (Sum.elim (zu (fun z=>zbZ l z.1 z.2)) some):=by
      rw [zH]
      show (zbZ l L (pre.length:Int)).bind _=_
      congr 1
      unfold zbZ
      rw [zeK hx,zy,hx]
      simp only [cond_true,Option.bind_some]
      rw [zj0 (hc c hcm),zlM (by omega),zwl (by omega) (by omega),zK (by omega)]
      simp only [Option.bind_some]
      rw [zmP]
      cases zcr L c.Name <;> cases zme c <;> rfl
    rw [step]
    unfold lay
    cases h1:(zcr L c.Name||!zme c) with
    | true=>rfl
    | false =>
      have:=zq1 hl hc r (pre++[c]) (L++[c]) (by rw [e]; simp) (by simp; omega)
      rw [show (pre++[c]).length=pre.length+1 by simp] at this
      exact this
theorem zvk {L:List za} (hL:L.length≤100) {c:za} (hi:c.Impl.length≤4):zu (fun z=>zdv L c z) 0=some (zqc () (cond (c.Impl.any (fun s=>!zcr L s)) (some (none,4)) none)):=by
  rw [← zcd]
  refine ziX (fun i s hs=>?_) ?_
  · show zdv L c (i:Int)=_
    have hi:=(List.getElem?_eq_some_iff.1 hs).1
    unfold zdv
    rw [zeK hs,zy,hs]
    simp only [cond_true,Option.bind_some]
    rw [zlM (by omega),zK (by omega)]
    simp only [Option.bind_some]
    rw [zs2]
    cases zcr L s <;> rfl
  · show zdv L c (c.Impl.length:Int)=_
    unfold zdv
    rw [ze4]; rfl
theorem zvl {L:List za} (hL:L.length≤100) (h1:1≤L.length) (hO:∀ c∈L,Okc c):zu (fun z=>zdw L z) 1=some (zqc () (cond ((L.drop 1).any (mis L)) (some (none,4)) none)):=by
  rw [← zcd]
  refine zhD (k:=1) (fun i c _ hc=>?_) ?_ h1
  · show zdw L (i:Int)=_
    have hi:=(List.getElem?_eq_some_iff.1 hc).1
    unfold zdw
    rw [zeK hc,zy,hc]
    simp only [cond_true,Option.bind_some]
    rw [zlM (by omega)]
    simp only [Option.bind_some]
    rw [zs2,zvk hL (hO c (List.mem_of_getElem? hc)).impl]
    unfold zg1
    rw [zK (by omega)]
    show _=some (zs1 i (cond (mis L c) _ _))
    unfold mis
    rw [List.any_cons]
    cases zcr L c.Super <;> cases (c.Impl.any fun s=>!zcr L s) <;> rfl
  · show zdw L (L.length:Int)=_
    unfold zdw
    rw [ze4]; rfl
theorem znM {L:List za} {l:List Tx} (hL:L.length≤100) (hl:l.length≤100) {inn:List Bool} (hi:inn.length=L.length) (more:Bool) :
    zu (fun z=>zaT L l z.1 z.2.1 z.2.2) (inn,more,0)=some (.inl (mkS L inn l,more||l.any (zk9 L inn))):=by
  refine zlx (l:=l) (by omega) (fun j s inn more hi hs=>?_) (fun inn more=>?_) l [] inn more rfl hi
  · show zaT L l inn more (j:Int)=_
    unfold zaT zbs
    rw [zeK hs,zy,hs]
    simp only [cond_true,Option.bind_some]
    rw [zlM (by omega)]
    simp only [Option.bind_some]
    rw [zmP]
    unfold mk1 zk9
    cases hh:zcr L s with
    | false=>simp
    | true =>
      obtain ⟨g1,g2⟩:=zsb hh
      have e:idx inn (atN L s)=some (onB inn (atN L s).toNat):=by
        unfold idx onB
        rw [if_pos g1,List.getD_eq_getElem?_getD,List.getElem?_eq_getElem (by omega)]; rfl
      rw [e]
      simp only [cond_true,Option.bind_some,Bool.true_and]
      cases onB inn (atN L s).toNat <;> simp
  · show zaT L l inn more (l.length:Int)=_
    unfold zaT
    rw [ze4]; rfl
theorem zth {inn:List Bool} {k:Nat} (h:k < inn.length):idx inn (k:Int)=some (onB inn k):=by
  rw [zy,List.getElem?_eq_getElem h]
  unfold onB
  rw [List.getD_eq_getElem?_getD,List.getElem?_eq_getElem h]; rfl
abbrev abv (c:za):List Tx:=c.Super :: c.Impl
theorem zlj {L:List za} (hL:L.length≤100) (hO:∀ c∈L,Okc c) (v:Nat) (first:Bool) {inn:List Bool} (hi:inn.length=L.length) (more:Bool) :
    zu (fun z=>zaF L (v:Int) first z.1 z.2.1 z.2.2) (inn,more,0)=some (.inl (zfF L abv (fun k=>first&&Nat.beq k v) inn 0 L,more||ziy L abv (fun k=>first&&Nat.beq k v) inn 0 L)):=by
  refine znk (st:=fun a b c=>(a,b,c)) (nx:=abv) (act:=fun k=>first&&Nat.beq k v) (by omega) (fun k c inn more hi hc=>?_) (fun inn more=>?_) L [] inn more rfl hi
  · show zaF L (v:Int) first inn more (k:Int)=_
    have hk:=(List.getElem?_eq_some_iff.1 hc).1
    have h4:=(hO c (List.mem_of_getElem? hc)).impl
    unfold zaF
    rw [zeK hc,zth (by omega),zy,hc]
    simp only [cond_true,Option.bind_some]
    rw [zoA h4]
    simp only [Option.bind_some]
    rw [znM hL (by simp; omega) hi]
    unfold zcJ zbt
    rw [zK (by omega)]
    have e:((k:Int) == (v:Int))=Nat.beq k v:=by
      rw [Bool.eq_iff_iff,beq_iff_eq,Nat.beq_eq]; omega
    rw [e]
    cases onB inn k <;> cases first <;> cases Nat.beq k v <;> rfl
  · show zaF L (v:Int) first inn more (L.length:Int)=_
    unfold zaF
    rw [ze4]; rfl
theorem zqj {L:List za} (hL:L.length≤100) (hO:∀ c∈L,Okc c) (h:zts L) {v:Nat} {c0:za} (hv:L[v]?=some c0):zdu L (v:Int)=some (cyc L c0.Name):=by
  have hvl:=(List.getElem?_eq_some_iff.1 hv).1
  let Q:Nat→Prop:=fun n=>∃ c,L[n]?=some c∧Rc (nxA L) c0.Name c.Name
  have hnx:∀ {c:za},c∈L→∀ s∈abv c,zcr L s=true→s∈nxA L c.Name:=fun {c} hc s hs hh=>by
    rw [zlz (h.nd.cl hc)]
    refine List.mem_filter.2 ⟨hs,?_⟩
    have:s≠[]:=fun e=>by rw [e,h.noE] at hh; cases hh
    simpa using this
  have hat:∀ {s:Tx},zcr L s=true→∃ d,L[(atN L s).toNat]?=some d∧d.Name=s:=fun {s} hh=>by
    obtain ⟨d,hd⟩:=zhg hh
    have e:=zoM L s
    rw [hd] at e
    obtain ⟨g1,g2⟩:=zsb hh
    refine ⟨d,?_,(zeJ hd).2⟩
    unfold idx at e
    rw [if_pos g1] at e
    exact e
  have hQ:∀ (a:Nat→Bool),(∀ k,a k=true→k=v)→∀ (j:Nat) c,L[j]?=some c→(Q j∨a j=true)→∀ s∈abv c,zcr L s=true→Q (atN L s).toNat:=fun a ha j c hj hor s hs hh=>by
    obtain ⟨d,hd,hd2⟩:=hat hh
    have hsx:=hnx (List.mem_of_getElem? hj) s hs hh
    refine ⟨d,hd,?_⟩
    rw [hd2]
    rcases hor with ⟨c',hc',hr⟩ | hj2
    · rw [hj] at hc'; cases hc'
      exact hr.snoc hsx
    · have:=ha j hj2
      subst this
      rw [hj] at hv; cases hv
      exact .one hsx
  have body2:∀ inn more first,zaG L (v:Int) inn more first=cond more ((zu (fun z=>zaF L (v:Int) first z.1 z.2.1 z.2.2) (inn,false,0)).bind fun o=>zQ o (fun b=>zcK b.1 b.2) (fun r=>some (.inr (.inr r)))) (some (.inr (.inl inn))):=fun _ _ _=>rfl
  have hrep:(List.replicate L.length false).length=L.length:=by simp
  have hoff:∀ n,onB (List.replicate L.length false) n=false:=fun n=>by
    unfold onB
    rw [List.getD_eq_getElem?_getD,List.getElem?_replicate]
    split <;> rfl
  have hF:∃ F,zu (fun z=>zaG L (v:Int) z.1 z.2.1 z.2.2) (List.replicate L.length false,true,true)=some (.inl F)∧F.length=L.length∧zvN L abv (fun _=>false) F∧(∀ s∈abv c0,zcr L s=true→onB F (atN L s).toNat=true)∧(∀ n,onB F n=true→Q n):=by
    let inn1:=zfF L abv (fun k=>true&&Nat.beq k v) (List.replicate L.length false) 0 L
    have hl1:inn1.length=L.length:=(zmk L 0 _).trans hrep
    have hq1:∀ n,onB inn1 n=true→Q n:=zjz L 0 _ hrep (fun j c hj hor=>by
      rw [Nat.zero_add] at hor
      exact hQ (fun k=>true&&Nat.beq k v) (fun k hk=>by simpa using hk) j c hj hor) (fun n hn=>by rw [hoff] at hn; cases hn)
    have ha1:∀ s∈abv c0,zcr L s=true→onB inn1 (atN L s).toNat=true:=zo0 L 0 _ hrep v c0 hv (by simp)
    rw [zH]
    show ∃ F,(zaG L (v:Int) (List.replicate L.length false) true true).bind _=_∧_
    rw [body2,zlj hL hO v true hrep false]
    cases hg:ziy L abv (fun k=>true&&Nat.beq k v) (List.replicate L.length false) 0 L with
    | false =>
      refine ⟨inn1,?_,hl1,?_,ha1,hq1⟩
      · show zu (fun z=>zaG L (v:Int) z.1 z.2.1 z.2.2) (inn1,false,false)=_
        rw [zH]
        rfl
      · have e:inn1=List.replicate L.length false:=(zh1 L 0 _ hg).1
        rw [e]
        intro k c hk hb
        rw [hoff] at hb
        cases hb
    | true =>
      obtain ⟨F,k1,k2,k3,k4,k5⟩:=zlA (L:=L) (nx:=abv) (act:=fun k=>false&&Nat.beq k v) (R:=Bool) (st:=fun a b=>(a,b,false)) (body:=fun z=>zaG L (v:Int) z.1 z.2.1 z.2.2) (Q:=Q)
        (fun inn hi=>by
          show zaG L (v:Int) inn true false=_
          rw [body2,zlj hL hO v false hi false]
          rfl) (fun inn hi=>rfl) (hQ _ (fun k hk=>by simp at hk)) L.length inn1 hl1 (by omega) hq1
      refine ⟨F,k1,k2,fun k c hk hb=>k3 k c hk (by simpa using hb),fun s hs hh=>k4 _ (ha1 s hs hh),k5⟩
  obtain ⟨F,f1,f2,f3,f4,f5⟩:=hF
  unfold zdu
  rw [show mkP 1 (L.length:Int)=some L.length by unfold mkP; rw [if_pos (by omega),Int.toNat_natCast]]
  simp only [Option.bind_some]
  rw [f1]
  show (idx F (v:Int)).bind _=_
  rw [zth (by omega)]
  show some (onB F v)=_
  congr 1
  rw [Bool.eq_iff_iff,zlU]
  constructor
  · intro hb
    obtain ⟨c,hc,hr⟩:=f5 v hb
    rw [hv] at hc; cases hc
    exact hr
  · intro hr
    have key:∀ x,Rc (nxA L) c0.Name x→onB F (atN L x).toNat=true:=fun x hx=>by
      refine hx.into (F:=fun y=>onB F (atN L y).toNat=true∧zcr L y=true) (fun y hy z hz=>?_) (fun y hy=>?_) |>.1
      · have hz2:zcr L z=true:=zgD.2 (h.nxA_in y z hz)
        obtain ⟨d,hd,hd2⟩:=hat hy.2
        refine ⟨f3 _ d hd (by rw [hy.1]; rfl) z ?_ hz2,hz2⟩
        rw [← hd2,zlz (h.nd.cl (List.mem_of_getElem? hd))] at hz
        exact (List.mem_filter.1 hz).1
      · have hy2:zcr L y=true:=zgD.2 (h.nxA_in _ y hy)
        refine ⟨f4 y ?_ hy2,hy2⟩
        rw [zlz (h.nd.cl (List.mem_of_getElem? hv))] at hy
        exact (List.mem_filter.1 hy).1
    have:=key _ hr
    rw [h.nd.at hv,Int.toNat_natCast] at this
    exact this
end Go.Proofs.YthmnlfenkhmmhaaGreat
namespace Go.Proofs.YthmnlfenkhmmhaaGreat
set_option linter.unusedSimpArgs false
set_option linter.unusedVariables false
theorem zqA {L l:List za} (h:L=giv++l) {n:Tx} {c:za} (hc:cl giv n=some c):cl L n=some c:=by
  rw [h]
  unfold cl at hc ⊢
  rw [List.find?_append,hc]; rfl
theorem zuI {L l:List za} (h:L=giv++l) {n:Tx} (hn:zcr giv n=true):cl L n=cl giv n:=by
  obtain ⟨c,hc⟩:=zhg hn
  rw [hc,zqA h hc]
theorem ztX {L l:List za} (h:L=giv++l) {n:Tx} (hn:zcr giv n=true):zcr L n=true:=by
  obtain ⟨c,hc⟩:=zhg hn
  exact zhh (zqA h hc)
theorem zsi:giv.all (fun c=>(nxA giv c.Name).all (fun s=>decide (atN giv s < atN giv c.Name)&&zcr giv s))=true:=by decide +kernel
theorem zuQ {L l:List za} (h:L=giv++l) {a b:Tx} (hr:Rc (nxA L) a b):zcr giv a=true→atN giv b < atN giv a∧zcr giv b=true:=by
  have one:∀ {a b:Tx},b∈nxA L a→zcr giv a=true→atN giv b < atN giv a∧zcr giv b=true:=fun {a b} hb ha=>by
    have e:nxA L a=nxA giv a:=by unfold nxA; rw [zuI h ha]
    rw [e] at hb
    obtain ⟨c,hc⟩:=zhg ha
    have h1:=List.all_eq_true.1 zsi c (zeJ hc).1
    rw [(zeJ hc).2] at h1
    have h2:=List.all_eq_true.1 h1 b hb
    rw [Bool.and_eq_true,decide_eq_true_eq] at h2
    exact h2
  induction hr with
  | one hb=>exact one hb
  | more hb _ ih =>
    intro ha
    have h1:=one hb ha
    have h2:=ih h1.2
    exact ⟨by omega,h2.2⟩
theorem ztQ {L l:List za} (h:L=giv++l) {c:za} (hc:c∈giv):cyc L c.Name=false:=by
  cases hh:cyc L c.Name with
  | false=>rfl
  | true =>
    have:=(zuQ h (zlU.1 hh) (zhh (zlr.cl hc))).1
    omega
theorem zqT:giv.all (fun c=>(c.Impl == [])&&!c.Interface&&(c.Super == []||zcr giv c.Super))=true:=by decide +kernel
theorem zm1:(giv.drop 1).all (fun c=>!(c.Super == []))=true:=by decide +kernel
theorem ztP {c:za} (hc:c∈giv):c.Impl=[]∧c.Interface=false∧(c.Super=[]∨zcr giv c.Super=true):=by
  have:=List.all_eq_true.1 zqT c hc
  simp only [Bool.and_eq_true,beq_iff_eq,Bool.not_eq_true',Bool.or_eq_true] at this
  exact ⟨this.1.1,this.1.2,this.2⟩
theorem ztR {L l:List za} (h:L=giv++l) {n:Tx} (hn:zcr giv n=true):isF L n=false:=by
  obtain ⟨c,hc⟩:=zhg hn
  unfold isF
  rw [zqA h hc]
  exact (ztP (zeJ hc).1).2.1
theorem zqS {L l:List za} (h:L=giv++l) (hE:zcr L []=false) {c:za} (hc:c∈giv):znG L c=false:=by
  obtain ⟨h1,h2,h3⟩:=ztP hc
  unfold znG
  rw [ztQ h hc,h1]
  rcases h3 with e | e
  · rw [e]
    have:isF L []=false:=by
      unfold isF
      cases hcl:cl L [] with
      | none=>rfl
      | some d=>rw [zhh hcl] at hE; cases hE
    rw [this]; rfl
  · rw [ztR h e]; rfl
theorem ztT {L l:List za} (h:L=giv++l) {c:za} (hc:c∈giv.drop 1):mis L c=false:=by
  obtain ⟨h1,h2,h3⟩:=ztP (List.mem_of_mem_drop hc)
  have hs:=List.all_eq_true.1 zm1 c hc
  unfold mis
  rw [h1,List.any_cons,List.any_nil,Bool.or_false]
  rcases h3 with e | e
  · rw [e] at hs; cases hs
  · rw [ztX h e]; rfl
theorem zoH {L l:List za} (h:L=giv++l) {p:za→Bool} (hp:∀ c∈giv.drop 1,p c=false):(L.drop 1).any p=l.any p:=by
  have e:L.drop 1=giv.drop 1++l:=by rw [h]; rfl
  rw [e,List.any_append,List.any_eq_false.2 (fun c hc=>by rw [hp c hc]; exact Bool.false_ne_true),Bool.false_or]
theorem znZ {L:List za} {n:Tx} {c:za} (h:cl L n=some c):idx L (atN L n)=some c:=by rw [zoM,h]
theorem zrv {L:List za} (hL:L.length≤100) {c:za} (hi:c.Impl.length≤4) (hh:∀ s∈c.Impl,zcr L s=true) (b:Bool) :
    zu (fun z=>zbC L c z.1 z.2) (b,0)=some (.inl (b||c.Impl.any (fun s=>!isF L s))):=by
  have key:∀ (r pre:List Tx) (b:Bool),c.Impl=pre++r→zu (fun z=>zbC L c z.1 z.2) (b,(pre.length:Int))=some (.inl (b||r.any (fun s=>!isF L s))):=by
    intro r
    induction r with
    | nil =>
      intro pre b e
      rw [List.append_nil] at e
      rw [zH]
      show (zbC L c b (pre.length:Int)).bind _=_
      unfold zbC
      rw [← e,ze4]
      simp
    | cons s r ih =>
      intro pre b e
      have hlen:c.Impl.length=pre.length+(r.length+1):=by rw [e]; simp
      have hx:c.Impl[pre.length]?=some s:=by rw [e]; simp
      obtain ⟨d,hd⟩:=zhg (hh s (List.mem_of_getElem? hx))
      have step:zbC L c b (pre.length:Int)=some (.inl (b||!isF L s,((pre.length+1:Nat):Int))):=by
        unfold zbC
        rw [zeK hx,zy,hx]
        simp only [cond_true,Option.bind_some]
        rw [zlM (by omega)]
        simp only [Option.bind_some]
        rw [znZ hd,zK (by omega)]
        unfold isF
        rw [hd]
        cases b <;> rfl
      rw [zH]
      show (zbC L c b (pre.length:Int)).bind _=_
      rw [step]
      show zu (fun z=>zbC L c z.1 z.2) (b||!isF L s,((pre.length+1:Nat):Int))=_
      have:=ih (pre++[s]) (b||!isF L s) (by rw [e]; simp)
      rw [show (pre++[s]).length=pre.length+1 by simp] at this
      rw [this,List.any_cons,Bool.or_assoc]
  exact key c.Impl [] b rfl
theorem zub {L:List za} (hL:L.length≤100) (h1:1≤L.length) (hO:∀ c∈L,Okc c) (h:zts L) (hS:∀ c∈L.drop 1,c.Super≠[]) :
    zu (fun z=>zcF L z) 1=some (zqc () (cond ((L.drop 1).any (znG L)) (some (none,1)) none)):=by
  rw [← zcd]
  refine zhD (k:=1) (fun i c hk hc=>?_) ?_ h1
  · show zcF L (i:Int)=_
    have hcm:=List.mem_of_getElem? hc
    have hi:=(List.getElem?_eq_some_iff.1 hc).1
    have hcd:c∈L.drop 1:=List.mem_of_getElem? (i:=i - 1) (by rw [List.getElem?_drop,show 1+(i - 1)=i by omega,hc])
    obtain ⟨x,hx⟩:=zhg (h.closed c hcm c.Super (by simp) (hS c hcd))
    have himp:∀ s∈c.Impl,zcr L s=true:=fun s hs=>h.closed c hcm s (by simp [hs]) ((hO c hcm).implE s hs)
    unfold zcF
    rw [zeK hc,zy,hc]
    simp only [cond_true,Option.bind_some]
    rw [zlM (by omega)]
    simp only [Option.bind_some]
    rw [znZ hx]
    simp only [Option.bind_some]
    rw [zqj hL hO h hc]
    simp only [Option.bind_some]
    unfold zem
    rw [zrv hL (hO c hcm).impl himp,zrv hL (hO c hcm).impl himp]
    simp only [Option.bind_some,zQ]
    unfold zfZ
    rw [zK (by omega)]
    show _=some (zs1 i (cond (znG L c) _ _))
    unfold znG
    rw [show isF L c.Super=x.Interface by unfold isF; rw [hx]]
    cases x.Interface <;> cases (c.Impl.any fun s=>!isF L s) <;> cases cyc L c.Name <;> rfl
  · show zcF L (L.length:Int)=_
    unfold zcF
    rw [ze4]; rfl
theorem zpB {L l:List za} (h:L=giv++l) (hS:∀ c∈l,c.Super≠[]):∀ c∈L.drop 1,c.Super≠[]:=by
  have e:L.drop 1=giv.drop 1++l:=by rw [h]; rfl
  intro c hc
  rw [e] at hc
  rcases List.mem_append.1 hc with e | e
  · have:=List.all_eq_true.1 zm1 c e
    intro e2
    rw [e2] at this; cases this
  · exact hS c e
theorem zoo {l:List za} (hc:∀ c∈l,zsY c):zi8 l=some ((zq7 l).1.map zE.mk,(zq7 l).2):=by
  unfold zi8 zq7
  cases hl:decide (16 < (l.length:Int)) with
  | true=>rfl
  | false =>
    have hl:=of_decide_eq_false hl
    rw [zmq]
    simp only [cond_false,Option.bind_some]
    have hl16:l.length≤16:=by omega
    rw [show zu (fun z=>zbZ l z.1 z.2) (giv,0)=_ from zq1 hl16 hc l [] giv rfl rfl]
    cases hy:lay giv l with
    | none=>rfl
    | some L =>
      obtain ⟨k1,k2,k3⟩:=zlu l giv L zlr hy
      have hO:=zl7 hy
      have hlen:L.length≤100:=by rw [k1,List.length_append]; have:giv.length=10:=rfl; omega
      have hpos:1≤L.length:=by rw [k1,List.length_append]; have:giv.length=10:=rfl; omega
      simp only [Option.bind_some,zQ]
      unfold zg0
      rw [zvl hlen hpos hO,zoH k1 (fun c hc=>ztT k1 hc)]
      cases hmis:l.any (mis L) with
      | true=>rfl
      | false =>
        obtain ⟨hL,hS⟩:=zn2 hy hmis
        simp only [cond_false,Option.bind_some,zQ,zqc]
        unfold zg2
        rw [zub hlen hpos hO hL (zpB k1 hS),zoH k1 (fun c hc=>zqS k1 hL.noE (List.mem_of_mem_drop hc))]
        cases hb:l.any (znG L) with
        | true=>rfl
        | false=>rfl
structure zmB (l L:List za):Prop extends Wf L where
  app:L=giv++l
  few:l.length≤16
  okc:∀ c∈L,Okc c
  may:∀ c∈l,zme c=true
theorem zmB.len {l L:List za} (h:zmB l L):L.length≤26:=by
  rw [h.app,List.length_append]; have:giv.length=10:=rfl; have:=h.few; omega
theorem zq8 {l L:List za} (h:(zq7 l).1=some L):zmB l L∧(zq7 l).2=0:=by
  unfold zq7 at h ⊢
  cases hl:decide (16 < (l.length:Int)) with
  | true=>rw [hl] at h; cases h
  | false =>
    rw [hl] at h
    have hl:=of_decide_eq_false hl
    simp only [cond_false] at h ⊢
    cases hy:lay giv l with
    | none=>rw [hy] at h; cases h
    | some L' =>
      rw [hy] at h
      simp only at h ⊢
      cases hmis:l.any (mis L') with
      | true=>rw [hmis] at h; cases h
      | false =>
        cases hb:l.any (znG L') with
        | true=>rw [hmis,hb] at h; cases h
        | false =>
          rw [hmis,hb] at h
          have e:L'=L:=by
            have h:some L'=some L:=h
            cases h; rfl
          subst e
          obtain ⟨hL,hS⟩:=zn2 hy hmis
          obtain ⟨k1,k2,k3⟩:=zlu l giv L' zlr hy
          have bad:∀ c∈L',znG L' c=false:=fun c hc=>by
            rw [k1] at hc
            rcases List.mem_append.1 hc with e | e
            · exact zqS k1 hL.noE e
            · simpa using List.any_eq_false.1 hb c e
          have bad':∀ c∈L',isF L' c.Super=false∧(c.Impl.any (fun s=>!isF L' s)=false∧cyc L' c.Name=false):=fun c hc=>by
            have:=bad c hc
            unfold znG at this
            rw [Bool.or_eq_false_iff,Bool.or_eq_false_iff] at this
            exact this
          refine ⟨⟨⟨hL,fun n hr=>?_,fun c hc=>(bad' c hc).1,fun c hc s hs=>?_⟩,k1,by omega,zl7 hy,k3⟩,rfl⟩
          · cases hn:cl L' n with
            | none =>
              have:nxA L' n=[]:=by unfold nxA; rw [hn]
              cases hr with
              | one h=>rw [this] at h; cases h
              | more h _=>rw [this] at h; cases h
            | some c =>
              have h1:=(bad' c (zeJ hn).1).2.2
              rw [(zeJ hn).2] at h1
              rw [zlU.2 hr] at h1; cases h1
          · have:=List.any_eq_false.1 (bad' c hc).2.1 s hs
            simpa using this
end Go.Proofs.YthmnlfenkhmmhaaGreat
namespace Go.Proofs.YthmnlfenkhmmhaaGreat
set_option linter.unusedSimpArgs false
set_option linter.unusedVariables false
section
variable {l L : List za} {m : List (Tx × Int)}
theorem zkL (h:zmB l L) (hm:zeI L m):∀ (d:Nat) (n:Tx) (acc:List Tx),zqe L d n=true→acc.length+d≤200→zu (fun z=>zaa L m z.1 z.2) (n,acc)=some (.inl (acc++sup L d n))
  | 0,n,acc,hf,hd=>by
    rw [zH]
    show (zaa L m n acc).bind _=_
    unfold zaa zbw
    rw [hm.has]
    have:zcr L n=false:=by simpa [zqe] using hf
    rw [this]
    simp [sup]
  | d+1,n,acc,hf,hd=>by
    rw [zH]
    show (zaa L m n acc).bind _=_
    unfold zaa zbw
    rw [hm.has]
    unfold zqe at hf
    unfold sup
    cases hc:cl L n with
    | none=>rw [znX hc]; simp
    | some c =>
      rw [hc] at hf
      rw [zhh hc,zm0 hm (zhh hc),hc,zcx (by simp; omega) (by simp; omega)]
      show zu (fun z=>zaa L m z.1 z.2) (c.Super,acc++[n])=_
      rw [zkL h hm d c.Super (acc++[n]) hf (by simp; omega)]
      simp
def zuu (L:List za) (n:Tx):List Tx:=sup L L.length n
theorem zrI (h:zmB l L) (hm:zeI L m) (n:Tx):zbp L m n=some (zuu L n):=by
  unfold zbp
  rw [zkL h hm L.length n [] (zpd h.toWf n) (by have:=h.len; simp; omega)]
  rfl
theorem zhN (h:zmB l L):∀ (d:Nat) (n:Tx) (acc:List Tx),zqe L d n=true→acc.length+d≤200→zu (fun z=>zab L z.1 z.2) (acc,atN L n)=some (.inl (acc++sup L d n))
  | 0,n,acc,hf,hd=>by
    rw [zH]
    show (zab L acc (atN L n)).bind _=_
    unfold zab
    have:zcr L n=false:=by simpa [zqe] using hf
    rw [zmP,this]
    simp [sup]
  | d+1,n,acc,hf,hd=>by
    rw [zH]
    show (zab L acc (atN L n)).bind _=_
    unfold zab
    rw [zmP]
    unfold zqe at hf
    unfold sup
    cases hc:cl L n with
    | none=>rw [znX hc]; simp
    | some c =>
      rw [hc] at hf
      have:=h.len
      rw [zhh hc,znZ hc]
      simp only [cond_true,Option.bind_some]
      rw [zlM (by omega),zcx (by simp; omega) (by simp; omega),(zeJ hc).2]
      show zu (fun z=>zab L z.1 z.2) (acc++[n],atN L c.Super)=_
      rw [zhN h d c.Super (acc++[n]) hf (by simp; omega)]
      simp
theorem zms (h:zmB l L) (n:Tx):zbY L n=some (zuu L n):=by
  have:=h.len
  unfold zbY
  rw [zlM (by omega)]
  simp only [Option.bind_some]
  rw [zhN h L.length n [] (zpd h.toWf n) (by simp; omega)]
  rfl
theorem zrG:∀ (d:Nat) (n:Tx),(sup L d n).length≤d
  | 0,n=>by simp [sup]
  | d+1,n=>by
    unfold sup
    cases cl L n with
    | none=>simp
    | some c=>have:=zrG d c.Super; simpa using this
theorem zsO (h:zmB l L) (n:Tx):(zuu L n).length≤26:=Nat.le_trans (zrG _ n) h.len
theorem zuj (h:zmB l L):∀ d,sup L d []=[]
  | 0=>rfl
  | d+1=>by
    unfold sup
    cases hE:cl L [] with
    | none=>rfl
    | some c=>have:=zhh hE; rw [h.noE] at this; cases this
theorem zrH (h:zmB l L):∀ (d:Nat) (n x:Tx),x∈sup L d n→zcr L x=true∧(x=n∨Rc (nxA L) n x)∧(x=n∨∃ c∈L,x=c.Super)
  | 0,n,x,hx=>by simp [sup] at hx
  | d+1,n,x,hx=>by
    unfold sup at hx
    cases hc:cl L n with
    | none=>rw [hc] at hx; cases hx
    | some c =>
      rw [hc] at hx
      rcases List.mem_cons.1 hx with e | e
      · subst e; exact ⟨zhh hc,.inl rfl,.inl rfl⟩
      · obtain ⟨h1,h2,h3⟩:=zrH h d c.Super x e
        have hne:c.Super≠[]:=fun e2=>by rw [e2,zuj h] at e; cases e
        have h6:c.Super∈nxA L n:=by rw [zlz hc]; exact List.mem_filter.2 ⟨by simp,by simpa using hne⟩
        refine ⟨h1,.inr ?_,.inr ?_⟩
        · rcases h2 with e2 | e2
          · rw [e2]; exact .one h6
          · exact .more h6 e2
        · rcases h3 with e2 | e2
          · exact ⟨c,(zeJ hc).1,e2⟩
          · exact e2
theorem zui (h:zmB l L) {n x:Tx} (hx:x∈zuu L n):x∈L.map (·.Name):=zgD.1 (zrH h _ n x hx).1
end
section
variable {l L : List za} {m : List (Tx × Int)}
end
end Go.Proofs.YthmnlfenkhmmhaaGreat
namespace Go.Proofs.YthmnlfenkhmmhaaGreat
set_option linter.unusedSimpArgs false
set_option linter.unusedVariables false
abbrev I64 (n:Int):Prop:=-9223372036854775808≤n∧n≤9223372036854775807
abbrev FS (s:List UInt8):Prop:=s.length≤10000
structure FL {α:Type} (Q:α→Prop) (l:List α):Prop where
  len:l.length≤10000
  all:∀ x∈l,Q x
structure zuw (f:zt):Prop where
  name:FS f.Name
  type:FS f.Type_
structure zwC (x:z3):Prop where
  op:I64 x.Op
  a:I64 x.A
  c:FS x.C
  m:FS x.M
structure zwD (x:zaY):Prop where
  pl:I64 x.At
  locals:FL FS x.Locals
  stack:FL FS x.Stack
structure zvJ (x:zaI):Prop where
  lo:I64 x.From
  hi:I64 x.To
  pl:I64 x.At
  c:FS x.C
structure zux (m:zi):Prop where
  name:FS m.Name
  params:FL FS m.Params
  ret:FS m.Ret
  locals:I64 m.Locals
  stack:I64 m.Stack
  code:FL zwC m.Code
  maps:FL zwD m.Maps
  traps:FL zvJ m.Traps
structure zkc (c:za):Prop where
  name:FS c.Name
  super:FS c.Super
  impl:FL FS c.Impl
  fields:FL zuw c.Fields
  methods:FL zux c.Methods
theorem FL.le {α:Type} {Q:α→Prop} {l:List α} (h:FL Q l):zhT l:=by have:=h.len; unfold zhT; omega
theorem FS.le {s:List UInt8} (h:FS s):Len s:=by unfold FS at h; unfold Len; omega
theorem zkc.cg {c:za} (h:zkc c):zsY c where
  name:=h.name.le
  super:=h.super.le
  impl:=⟨h.impl.le,fun s hs=>(h.impl.all s hs).le⟩
  fields:=⟨h.fields.le,fun f hf=>⟨(h.fields.all f hf).name.le,(h.fields.all f hf).type.le⟩⟩
  methods:=⟨h.methods.le,fun m hm=>by
    have g:=h.methods.all m hm
    have g1:=g.params.len
    have g2:=g.code.len
    have g3:=g.maps.len
    have g4:=g.traps.len
    exact ⟨g.name.le,⟨by omega,fun s hs=>(g.params.all s hs).le⟩,g.ret.le,
      ⟨g.maps.le,g.code.le,fun x hx=>⟨⟨(g.maps.all x hx).locals.le,fun s hs=>((g.maps.all x hx).locals.all s hs).le⟩,(g.maps.all x hx).stack.le,fun s hs=>((g.maps.all x hx).stack.all s hs).le⟩⟩,
      ⟨⟨g.code.le,fun x hx=>⟨(g.code.all x hx).c.le,(g.code.all x hx).m.le⟩⟩,⟨g.traps.le,fun x hx=>(g.traps.all x hx).c.le⟩⟩,⟨by omega,by omega,by omega⟩⟩⟩
theorem zct {s:List UInt8} {n:Nat}:zbb s (n:Int)=some (s.take n):=by
  unfold zbb
  by_cases h:n < s.length
  · rw [decide_eq_true (show (n:Int) < (s.length:Int) by omega),zkp (by omega)]; rfl
  · rw [decide_eq_false (show ¬ (n:Int) < (s.length:Int) by omega),List.take_of_length_le (by omega)]; rfl
theorem zfQ {α β R:Type} {body:List β×Int→Option (Sum (List β×Int) (Sum (List β) R))} {l:List α} {n:Nat} {f:α→β} (hn:n≤1000)
    (hb:∀ acc (i:Nat) x,l[i]?=some x→i < n→acc.length=i→body (acc,(i:Int))=some (.inl (acc++[f x],IntKind.i64.wrap ((i:Int)+1))))
    (he:∀ acc (i:Nat),(decide ((i:Int) < (l.length:Int))&&decide ((i:Int) < (n:Int)))=false→body (acc,(i:Int))=some (.inr (.inl acc))):zu body ([],0)=some (.inl ((l.take n).map f)):=by
  have key:∀ d i,(l.take n).length - i=d→i≤(l.take n).length→zu body (((l.take n).take i).map f,(i:Int))=some (.inl ((l.take n).map f)):=by
    intro d
    induction d with
    | zero =>
      intro i hd hi
      have e:i=(l.take n).length:=by omega
      rw [zH,he _ i (by
        rw [List.length_take] at e
        rw [Bool.and_eq_false_iff]
        rcases Nat.le_total n l.length with h | h
        · exact .inr (decide_eq_false (by omega))
        · exact .inl (decide_eq_false (by omega))),e,List.take_length]
      rfl
    | succ d ih =>
      intro i hd hi
      have hlt:i < (l.take n).length:=by omega
      have h2:i < n∧i < l.length:=by rw [List.length_take] at hlt; omega
      have hx:l[i]?=some l[i]:=List.getElem?_eq_getElem h2.2
      rw [zH,hb _ i l[i] hx h2.1 (by rw [List.length_map,List.length_take]; omega),zK (by omega)]
      have:=ih (i+1) (by omega) (by omega)
      rw [List.take_add_one,List.getElem?_take_of_lt h2.1,hx] at this
      simp only [Option.toList_some,List.map_append,List.map_cons,List.map_nil] at this
      exact this
  exact key _ 0 rfl (Nat.zero_le _)
theorem more {α:Type} {l:List α} {n i:Nat} {x:α} (h:l[i]?=some x) (hi:i < n):(decide ((i:Int) < (l.length:Int))&&decide ((i:Int) < (n:Int)))=true:=by
  rw [zeK h,decide_eq_true (by omega)]; rfl
def zwm (f:zt):zt:=zt.mk (f.Name.take 10) (f.Type_.take 12) f.Static
def zvS (x:z3):z3:=z3.mk x.Op x.A (x.C.take 14) (x.M.take 12)
def zs7 (n:Nat) (l:List (List UInt8)):List (List UInt8):=(l.take n).map (·.take 12)
def zs6 (x:zaY):zaY:=zaY.mk x.At (zs7 20 x.Locals) (zs7 20 x.Stack)
def zwn (x:zaI):zaI:=zaI.mk x.From x.To x.At (x.C.take 10)
def zvA (m:zi):zi:=zi.mk (m.Name.take 10) (zs7 8 m.Params) (m.Ret.take 12) m.Static m.Abstract m.Locals m.Stack ((m.Code.take 104).map zvS) ((m.Maps.take 104).map zs6) ((m.Traps.take 8).map zwn)
def zs5 (c:za):za:=za.mk (c.Name.take 10) (c.Super.take 10) c.Interface (zs7 6 c.Impl) ((c.Fields.take 10).map zwm) ((c.Methods.take 10).map zvA)
theorem zfm {l:List (List UInt8)} {n:Nat} (hn:n≤100):zb8 l (n:Int)=some (zs7 n l):=by
  unfold zb8
  rw [show zu (fun z=>zch l (n:Int) z.1 z.2) ([],0)=some (.inl (zs7 n l)) from zfQ (by omega) (fun acc i x hx hi ha=>by
    show zch l (n:Int) acc (i:Int)=_
    unfold zch
    rw [more hx hi,zy,hx]
    simp only [Option.bind_some,cond_true]
    rw [show zbb x 12=_ from zct (n:=12),Option.bind_some,zcx (by simp; omega) (by simp; omega)]; rfl) (fun acc i h=>by
    show zch l (n:Int) acc (i:Int)=_
    unfold zch
    rw [h]; rfl)]
  rfl
theorem zn3 (x:z3):ziU x=some (zvS x):=by
  unfold ziU
  rw [show zbb x.C 14=_ from zct (n:=14),show zbb x.M 12=_ from zct (n:=12)]; rfl
theorem zk5 (m:zi):zfD m=some (zvA m):=by
  unfold zfD
  rw [show zbb m.Name 10=_ from zct (n:=10),show zbb m.Ret 12=_ from zct (n:=12),show zb8 m.Params 8=_ from zfm (n:=8) (by decide)]
  simp only [Option.bind_some]
  rw [show zu (fun z=>zbO m z.1 z.2) ([],0)=some (.inl ((m.Code.take 104).map zvS)) from zfQ (by decide) (fun acc i x hx hi ha=>by
    show zbO m acc (i:Int)=_
    unfold zbO
    rw [show (decide ((i:Int) < (m.Code.length:Int))&&decide ((i:Int) < 104))=true from more hx hi,zy,hx]
    simp only [Option.bind_some,cond_true]
    rw [zn3,Option.bind_some,zcx (by simp; omega) (by simp; omega)]; rfl) (fun acc i h=>by
    show zbO m acc (i:Int)=_
    unfold zbO
    rw [show (decide ((i:Int) < (m.Code.length:Int))&&decide ((i:Int) < 104))=false from h]; rfl)]
  simp only [Option.bind_some]
  show zdT m _ _ _ _=_
  unfold zdT
  rw [show zu (fun z=>zbP m z.1 z.2) ([],0)=some (.inl ((m.Maps.take 104).map zs6)) from zfQ (by decide) (fun acc i x hx hi ha=>by
    show zbP m acc (i:Int)=_
    unfold zbP
    rw [show (decide ((i:Int) < (m.Maps.length:Int))&&decide ((i:Int) < 104))=true from more hx hi,zy,hx]
    simp only [Option.bind_some,cond_true]
    rw [show zb8 x.Locals 20=_ from zfm (n:=20) (by decide),show zb8 x.Stack 20=_ from zfm (n:=20) (by decide)]
    simp only [Option.bind_some]
    rw [zcx (by simp; omega) (by simp; omega)]; rfl) (fun acc i h=>by
    show zbP m acc (i:Int)=_
    unfold zbP
    rw [show (decide ((i:Int) < (m.Maps.length:Int))&&decide ((i:Int) < 104))=false from h]; rfl)]
  simp only [Option.bind_some]
  show zdU m _ _ _ _ _=_
  unfold zdU
  rw [show zu (fun z=>zbQ m z.1 z.2) ([],0)=some (.inl ((m.Traps.take 8).map zwn)) from zfQ (by decide) (fun acc i x hx hi ha=>by
    show zbQ m acc (i:Int)=_
    unfold zbQ
    rw [show (decide ((i:Int) < (m.Traps.length:Int))&&decide ((i:Int) < 8))=true from more hx hi,zy,hx]
    simp only [Option.bind_some,cond_true]
    rw [show zbb x.C 10=_ from zct (n:=10),Option.bind_some,zcx (by simp; omega) (by simp; omega)]; rfl) (fun acc i h=>by
    show zbQ m acc (i:Int)=_
    unfold zbQ
    rw [show (decide ((i:Int) < (m.Traps.length:Int))&&decide ((i:Int) < 8))=false from h]; rfl)]
  rfl
theorem zn7 (c:za):ziW c=some ((zs5 c).Name,(zs5 c).Super,(zs5 c).Impl,(zs5 c).Fields,(zs5 c).Methods):=by
  unfold ziW
  rw [show zbb c.Name 10=_ from zct (n:=10),show zbb c.Super 10=_ from zct (n:=10),show zb8 c.Impl 6=_ from zfm (n:=6) (by decide)]
  simp only [Option.bind_some]
  rw [show zu (fun z=>zdr c z.1 z.2) ([],0)=some (.inl ((c.Fields.take 10).map zwm)) from zfQ (by decide) (fun acc i x hx hi ha=>by
    show zdr c acc (i:Int)=_
    unfold zdr
    rw [show (decide ((i:Int) < (c.Fields.length:Int))&&decide ((i:Int) < 10))=true from more hx hi,zy,hx]
    simp only [Option.bind_some,cond_true]
    rw [show zbb x.Name 10=_ from zct (n:=10),show zbb x.Type_ 12=_ from zct (n:=12)]
    simp only [Option.bind_some]
    rw [zcx (by simp; omega) (by simp; omega)]; rfl) (fun acc i h=>by
    show zdr c acc (i:Int)=_
    unfold zdr
    rw [show (decide ((i:Int) < (c.Fields.length:Int))&&decide ((i:Int) < 10))=false from h]; rfl)]
  simp only [Option.bind_some]
  show zfC c _ _ _ _=_
  unfold zfC
  rw [show zu (fun z=>zds c z.1 z.2) ([],0)=some (.inl ((c.Methods.take 10).map zvA)) from zfQ (by decide) (fun acc i x hx hi ha=>by
    show zds c acc (i:Int)=_
    unfold zds
    rw [show (decide ((i:Int) < (c.Methods.length:Int))&&decide ((i:Int) < 10))=true from more hx hi,zy,hx]
    simp only [Option.bind_some,cond_true]
    rw [zk5,Option.bind_some,zcx (by simp; omega) (by simp; omega)]; rfl) (fun acc i h=>by
    show zds c acc (i:Int)=_
    unfold zds
    rw [show (decide ((i:Int) < (c.Methods.length:Int))&&decide ((i:Int) < 10))=false from h]; rfl)]
  rfl
theorem zm3 {n:Int} (h:wI .i64 n):I64 n:=by
  have h:(Lit.int .i64 n).wf=true:=h
  unfold Lit.wf at h
  simp [IntKind.min,IntKind.max,IntKind.bits,IntKind.signed] at h
  exact ⟨by omega,by omega⟩
theorem FS.take (s:List UInt8) {n:Nat} (hn:n≤100):FS (s.take n):=by unfold FS; rw [List.length_take]; omega
theorem zlT {l:List (List UInt8)} {n:Nat} (hn:n≤100):FL FS (zs7 n l):=by
  refine ⟨by unfold zs7; rw [List.length_map,List.length_take]; omega,fun x hx=>?_⟩
  obtain ⟨y,_,rfl⟩:=List.mem_map.1 hx
  exact FS.take y (by decide)
theorem zko {α:Type} {Q:α→Prop} {l:List α} {f:α→α} {n:Nat} (hn:n≤200) (h:∀ x∈l,Q (f x)):FL Q ((l.take n).map f):=by
  refine ⟨by rw [List.length_map,List.length_take]; omega,fun x hx=>?_⟩
  obtain ⟨y,hy,rfl⟩:=List.mem_map.1 hx
  exact h y (List.mem_of_mem_take hy)
theorem ztH {m:zi} (h:zjL m):zux (zvA m):=by
  obtain ⟨_,_,_,_,_,h1,h2,h3,h4,h5⟩:=h
  exact ⟨FS.take _ (by decide),zlT (by decide),FS.take _ (by decide),zm3 h1,zm3 h2,
    zko (by decide) fun x hx=>⟨zm3 (h3.2 x hx).1,zm3 (h3.2 x hx).2.1,FS.take _ (by decide),FS.take _ (by decide)⟩,
    zko (by decide) fun x hx=>⟨zm3 (h4.2 x hx).1,zlT (by decide),zlT (by decide)⟩,
    zko (by decide) fun x hx=>⟨zm3 (h5.2 x hx).1,zm3 (h5.2 x hx).2.1,zm3 (h5.2 x hx).2.2.1,FS.take _ (by decide)⟩⟩
theorem ztG {c:za} (h:zfR c):zkc (zs5 c):=by
  obtain ⟨_,_,_,_,_,h1⟩:=h
  exact ⟨FS.take _ (by decide),FS.take _ (by decide),zlT (by decide),zko (by decide) fun x hx=>⟨FS.take _ (by decide),FS.take _ (by decide)⟩,zko (by decide) fun x hx=>ztH (h1.2 x hx)⟩
def zuB (l:List za):List za:=(l.take 18).map zs5
theorem zn5 (l:List za):ziV l=some (zuB l):=by
  unfold ziV
  rw [show zu (fun z=>zdq l z.1 z.2) ([],0)=some (.inl (zuB l)) from zfQ (by decide) (fun acc i x hx hi ha=>by
    show zdq l acc (i:Int)=_
    unfold zdq
    rw [show (decide ((i:Int) < (l.length:Int))&&decide ((i:Int) < 18))=true from more hx hi,zy,hx]
    simp only [Option.bind_some,cond_true]
    rw [zn7,Option.bind_some,zcx (by simp; omega) (by simp; omega)]; rfl) (fun acc i h=>by
    show zdq l acc (i:Int)=_
    unfold zdq
    rw [show (decide ((i:Int) < (l.length:Int))&&decide ((i:Int) < 18))=false from h]; rfl)]
  rfl
structure zuA (c:za):Prop where
  fc:zkc c
  name:c.Name.length≤10
  super:c.Super.length≤10
  impl:∀ s∈c.Impl,s.length≤12
theorem zpA {c:za} (h:zfR c):zuA (zs5 c):=by
  refine ⟨ztG h,?_,?_,fun s hs=>?_⟩
  · show (c.Name.take 10).length≤10; rw [List.length_take]; omega
  · show (c.Super.take 10).length≤10; rw [List.length_take]; omega
  · obtain ⟨y,_,rfl⟩:=List.mem_map.1 (show s∈(c.Impl.take 6).map (·.take 12) from hs)
    rw [List.length_take]; omega
theorem zll {l:List za} (h:∀ c∈l,zfR c):∀ c∈zuB l,zuA c:=fun c hc=>by
  obtain ⟨d,hd,rfl⟩:=List.mem_map.1 hc
  exact zpA (h d (List.mem_of_mem_take hd))
theorem zty {l:List za} (h:∀ c∈l,zfR c):∀ c∈zuB l,zsY c:=fun c hc=>(zll h c hc).fc.cg
end Go.Proofs.YthmnlfenkhmmhaaGreat
namespace Go.Proofs.YthmnlfenkhmmhaaGreat
set_option linter.unusedSimpArgs false
set_option linter.unusedVariables false
section
variable {l L : List za} {m : List (Tx × Int)}
theorem zuP:∀ c∈giv,zkc c:=by
  intro c hc
  have hg:giv.all (fun c=>decide (c.Name.length≤10)&&decide (c.Super.length≤10)&&(c.Impl == [])&&decide (c.Fields.length=0)&&decide (c.Methods.length=0))=true:=by decide +kernel
  have:=List.all_eq_true.1 hg c hc
  simp only [Bool.and_eq_true,decide_eq_true_eq,beq_iff_eq] at this
  obtain ⟨⟨⟨⟨h1,h2⟩,h3⟩,h4⟩,h5⟩:=this
  refine ⟨by unfold FS; omega,by unfold FS; omega,⟨by rw [h3]; simp,fun s hs=>by rw [h3] at hs; cases hs⟩,⟨by omega,fun s hs=>?_⟩,⟨by omega,fun s hs=>?_⟩⟩
  · rw [List.eq_nil_of_length_eq_zero h4] at hs; cases hs
  · rw [List.eq_nil_of_length_eq_zero h5] at hs; cases hs
def zC:za:=za.mk [] [] false [] [] []
theorem zsc (hm:zeI L m) (n:Tx):zce L m n=some (match cl L n with | some c=>(c,true) | none=>(zC,false)):=by
  show cond (!(zbw L m n)) (some (zC,false)) ((zbv L m n).bind fun v4=>some (v4,true))=_
  unfold zbw
  rw [hm.has]
  cases hc:cl L n with
  | none=>rw [znX hc]; rfl
  | some c=>rw [zhh hc,zm0 hm (zhh hc),hc]; rfl
end
end Go.Proofs.YthmnlfenkhmmhaaGreat
namespace Go.Proofs.YthmnlfenkhmmhaaGreat
set_option linter.unusedSimpArgs false
set_option linter.unusedVariables false
section
variable {l L : List za} {m : List (Tx × Int)}
theorem Rc.trans {nx:Tx→List Tx} {a b c:Tx} (h:Rc nx a b) (k:Rc nx b c):Rc nx a c:=by
  induction h with
  | one h=>exact .more h k
  | more h _ ih=>exact .more h (ih k)
end
end Go.Proofs.YthmnlfenkhmmhaaGreat
namespace Go.Proofs.YthmnlfenkhmmhaaGreat
set_option linter.unusedSimpArgs false
set_option linter.unusedVariables false
section
variable {l L : List za} {m : List (Tx × Int)}
theorem zqC (hm:zeI L m) (n:Tx):zce L m n=some (match cl L n with | some c=>(c,true) | none=>(zC,false)):=zsc hm n
end
end Go.Proofs.YthmnlfenkhmmhaaGreat
namespace Go.Proofs.YthmnlfenkhmmhaaGreat
set_option linter.unusedSimpArgs false
set_option linter.unusedVariables false
def ShL (l:List Tx):Prop:=l.length≤100∧∀ t∈l,t.length≤25
theorem ShL.add {l:List Tx} {t:Tx} (h:l.length≤99∧∀ t∈l,t.length≤25) (ht:t.length≤25):ShL (l++[t]) :=
  ⟨by simp; omega,fun x hx=>by
    rcases List.mem_append.1 hx with h1 | h1
    · exact h.2 x h1
    · rw [List.mem_singleton.1 h1]; exact ht⟩
theorem ShL.drop {l:List Tx} (h:ShL l):ShL l.dropLast:=⟨by rw [List.length_dropLast]; have:=h.1; omega,fun x hx=>h.2 x (List.dropLast_subset l hx)⟩
section
variable {l L : List za} {m : List (Tx × Int)} {c : Tx} {mt : zi} {loc stk : List Tx} {b : Bool}
end
end Go.Proofs.YthmnlfenkhmmhaaGreat
namespace Go.Proofs.YthmnlfenkhmmhaaGreat
set_option linter.unusedSimpArgs false
set_option linter.unusedVariables false
theorem ShL.len {l:List Tx} (h:ShL l):l.length≤1000:=by have:=h.1; omega
section
variable {l L : List za} {m : List (Tx × Int)} {c : Tx} {mt : zi} {loc stk : List Tx} {b : Bool}
end
end Go.Proofs.YthmnlfenkhmmhaaGreat
namespace Go.Proofs.YthmnlfenkhmmhaaGreat
set_option linter.unusedSimpArgs false
set_option linter.unusedVariables false
section
variable {L : List za} {most : Int} {loc s : List Tx} {b : Bool}
end
def onS (t:Tx):Prop:=t=[78]∨zkQ t=true
def zwj (t:Tx):Prop:=t.length≤25∧onS t
theorem zuN:zwj [73]:=⟨by decide,.inr (by decide +kernel)⟩
theorem zuO:zwj [78]:=⟨by decide,.inl rfl⟩
section
variable {L : List za} {loc stk s : List Tx} {b0 b : Bool}
end
end Go.Proofs.YthmnlfenkhmmhaaGreat
namespace Go.Proofs.YthmnlfenkhmmhaaGreat
set_option linter.unusedSimpArgs false
set_option linter.unusedVariables false
theorem zrT (t:Tx):t.length≤(zhb t).length+1:=by
  cases t with
  | nil=>exact Nat.zero_le _
  | cons x r=>rw [zeV]; split <;> simp
theorem zj4 {t:Tx} (h:zbJ t=true):t.length≤8:=by
  unfold zbJ zjj at h
  simp only [Bool.and_eq_true,decide_eq_true_eq] at h
  have:=h.1.1.2.2
  omega
theorem ztf {t:Tx} (h:zkQ t=true):t.length≤10:=by
  have h1:=zrT t
  have h2:=zrT (zhb t)
  unfold zkQ at h
  rw [Bool.or_eq_true] at h
  rcases h with h | h
  · have e:zhb (zhb t)=[73]:=by simpa using h
    rw [e] at h2
    simp at h2
    omega
  · have:=zj4 h
    omega
theorem znb {t:Tx} (h:zkQ t=true):t.length≤25:=by have:=ztf h; omega
theorem ztn {t:Tx} (h:zrx t=true):t.length≤25:=by
  unfold zrx at h
  rw [Bool.or_eq_true] at h
  rcases h with h | h
  · have e:t=[86]:=by simpa using h
    rw [e]; decide
  · exact znb h
theorem zwd {t:Tx} (h:zjd t=true):t.length≤25∧(t=[84]∨onS t):=by
  unfold zjd at h
  simp only [Bool.or_eq_true,beq_iff_eq] at h
  rcases h with ((h | h) | h) | h
  · subst h; exact ⟨zuN.1,.inr zuN.2⟩
  · subst h; exact ⟨zuO.1,.inr zuO.2⟩
  · subst h; exact ⟨by decide,.inl rfl⟩
  · unfold zo5 at h
    rw [Bool.and_eq_true] at h
    exact ⟨znb h.2,.inr (.inr h.2)⟩
structure zuy (m:zi) (x:zaY):Prop where
  locs:(x.Locals.length:Int)=m.Locals
  stks:(x.Stack.length:Int)≤m.Stack
  locT:∀ t∈x.Locals,zjd t=true
  stkT:∀ t∈x.Stack,zjd t=true∧t≠[84]
structure zvy (m:zi):Prop where
  params:∀ s∈m.Params,zkQ s=true
  npar:m.Params.length≤6
  ret:zrx m.Ret=true
  locs:zA m≤m.Locals∧m.Locals≤16
  stack:0≤m.Stack∧m.Stack≤16
  code:1≤m.Code.length∧m.Code.length≤100
  last:∃ y,m.Code.getLast?=some y∧zhF y.Op=true
  ins:∀ x∈m.Code,ziY x=true
  traps:∀ y∈m.Traps,y.C=[]∨zbJ y.C=true
  ntraps:m.Traps.length≤6
  maps:∀ x∈m.Maps,zuy m x
  nmaps:m.Maps.length≤100
theorem zuS {x:z3} (h:ziY x=true):x.C.length≤10:=by
  unfold ziY at h
  simp only [Bool.and_eq_true] at h
  have:=h.1.2
  unfold zpO at this
  cases h1:zfn x.Op <;> rw [h1] at this
  · cases h2:zti x.Op <;> rw [h2] at this
    · have e:x.C=[]:=by simpa using this
      rw [e]; decide
    · have:=zj4 (show zbJ x.C=true from this); omega
  · have:zo5 x.C=true:=this
    unfold zo5 at this
    rw [Bool.and_eq_true] at this
    exact ztf this.2
end Go.Proofs.YthmnlfenkhmmhaaGreat
namespace Go.Proofs.YthmnlfenkhmmhaaGreat
set_option linter.unusedSimpArgs false
set_option linter.unusedVariables false
section
variable {l L : List za} {m : List (Tx × Int)} {c : Tx} {mt : zi} {loc stk : List Tx} {b : Bool}
theorem zuy.loc25 {x:zaY} (h:zuy mt x):∀ t∈x.Locals,t.length≤25:=fun t ht=>(zwd (h.locT t ht)).1
end
end Go.Proofs.YthmnlfenkhmmhaaGreat
namespace Go.Proofs.YthmnlfenkhmmhaaGreat
set_option linter.unusedSimpArgs false
set_option linter.unusedVariables false
section
variable {l L : List za} {m : List (Tx × Int)} {c : Tx} {mt : zi} {loc stk : List Tx} {b : Bool}
theorem zuy.shl {x:zaY} (hk:zvy mt) (h:zuy mt x):ShL x.Locals:=⟨by have:=h.locs; have:=hk.locs.2; omega,h.loc25⟩
end
end Go.Proofs.YthmnlfenkhmmhaaGreat
namespace Go.Proofs.YthmnlfenkhmmhaaGreat
set_option linter.unusedSimpArgs false
set_option linter.unusedVariables false
section
variable {l L : List za} {m : List (Tx × Int)} {c : Tx} {f : zi} {b : Bool}
theorem zve (hk:zvy f):ShL f.Params:=⟨by have:=hk.npar; omega,fun s hs=>znb (hk.params s hs)⟩
end
end Go.Proofs.YthmnlfenkhmmhaaGreat
namespace Go.Proofs.YthmnlfenkhmmhaaGreat
set_option linter.unusedSimpArgs false
set_option linter.unusedVariables false
theorem zwE {α:Type} {w:Nat} {a b:List α} (h:a.length+b.length≤1000) (hw:w≤1000):zhp w a b=some (a++b):=zcx (Nat.le_trans (Nat.mul_le_mul h hw) (by decide)) (by omega)
end Go.Proofs.YthmnlfenkhmmhaaGreat
namespace Go.Proofs.YthmnlfenkhmmhaaGreat
set_option linter.unusedSimpArgs false
set_option linter.unusedVariables false
section
variable {l L : List za} {m : List (Tx × Int)}
structure zvM (f:zi):Prop where
  pars:f.Params.length≤10000∧∀ x∈f.Params,x.length≤25
  ret:f.Ret.length≤25
  traps:f.Traps.length≤10000∧∀ x∈f.Traps,x.C.length≤25
  code:f.Code.length≤10000∧∀ x∈f.Code,x.C.length≤25
theorem zvy.small {f:zi} (hk:zvy f):zvM f where
  pars:=⟨by have:=hk.npar; omega,(zve hk).2⟩
  ret:=ztn hk.ret
  traps:=⟨by have:=hk.ntraps; omega,fun y hy=>by
    rcases hk.traps y hy with e | e
    · rw [e]; exact Nat.zero_le _
    · have:=zj4 e; omega⟩
  code:=⟨by have:=hk.code.2; omega,fun x hx=>by have:=zuS (hk.ins x hx); omega⟩
end
end Go.Proofs.YthmnlfenkhmmhaaGreat
namespace Go.Proofs.YthmnlfenkhmmhaaGreat
set_option linter.unusedSimpArgs false
set_option linter.unusedVariables false
def zvR (i:Bool):List z3:=cond i [(z3.mk 1 0 [] []),(z3.mk 47 0 [] [])] [(z3.mk 46 0 [] [])]
def zwJ (i:Bool):Tx:=cond i [73] [86]
def zv0 (ps:List Tx) (i st:Bool):zi:=zi.mk [102] ps (zwJ i) st false ((ps.length:Int)+1) 1 (zvR i) [] []
def m0:zi:=zv0 [] false false
end Go.Proofs.YthmnlfenkhmmhaaGreat
