/- ClosedTurn: for every input the law returns true, and each argument reads as it read before. No further condition. Part 8 of 8. -/
import Derived.Test.YthmnlfenkhmmhaaGreatTw7
import Derived.Test.YthmnlfenkhmmhaaGreatRows
namespace Go.Proofs.YthmnlfenkhmmhaaGreat
section
open Go.ChangeShapes Go.WideShapes Go.ChangeAt Go.RowKit Go.WideMaps Go.WideElems
open Go.ChangeMaps (open_string shut_string)
set_option maxRecDepth 100000 in
theorem zp3(os:Go.Os)(started:os.Started)(H:Type)(enc:TypeId×Value→H):
  ReturnsInHanded {} Tryz.checked os 7 .any (Rows.closedTurnSpec.pre6 enc Tryz.prog Tryz.f7 Rows.closedTurnRow.domain false) (Rows.closedTurnSpec.post enc Tryz.prog Tryz.f7 false true false false):=by
 haveI:Flo:=⟨0⟩
 refine returnsInHanded_of_change (C:=Tryz.checked) Tryz.ownNot started (by kernel_rfl) Tryz.func7
  (ChangeSpec.witness6 (enc:=enc) (C:=Tryz.checked) false ⟨#[],#[.slice none 0 0,.agg #[.string ⟨#[]⟩,.string ⟨#[]⟩],.int .i64 0,.int .i64 0,.int .i64 0,.string ⟨#[]⟩],[]⟩ 12 (by kernel_rfl) (by kernel_rfl) (by kernel_rfl) (by kernel_rfl)) ?_
 intro W base args ds gs before hval0 hW hcnd _
 letI:Flo:=⟨W.heap.size⟩
 have hval:∀(j:Nat) t v,Tryz.f7.params[j]?=some t→args[j]?=some v→Value.okWide Tryz.prog W .any base t v:=hval0
 have hW':=hW
 obtain ⟨p,q,hA0,hV,rfl,hfz,hnd⟩:=hW
 have hA:DataW.TrodAll enc Tryz.prog W 0 (fun _=>true) true Tryz.f7.params.toList args.toList ds p:=hA0
 have hts:Tryz.f7.params.toList.all (fun t=>Tryz.prog.readableRec t&&decide (t<Tryz.prog.types.size))=true:=by kernel_rfl
 rw [Tryz.params7] at hA hval
 obtain ⟨v0,vs0,d0,ds0,p0,q0,hargs,rfl,rfl,h0,r0⟩:=trodAll_cons hA
 obtain ⟨v1,vs1,d1,ds1,p1,q1,rfl,rfl,rfl,h1,r1⟩:=trodAll_cons r0
 obtain ⟨v2,vs2,d2,ds2,p2,q2,rfl,rfl,rfl,h2,r2⟩:=trodAll_cons r1
 obtain ⟨v3,vs3,d3,ds3,p3,q3,rfl,rfl,rfl,h3,r3⟩:=trodAll_cons r2
 obtain ⟨v4,vs4,d4,ds4,p4,q4,rfl,rfl,rfl,h4,r4⟩:=trodAll_cons r3
 obtain ⟨v5,vs5,d5,ds5,p5,q5,rfl,rfl,rfl,h5,r5⟩:=trodAll_cons r4
 obtain ⟨rfl,rfl,rfl⟩:=trodAll_nil r5
 obtain rfl:args=#[v0,v1,v2,v3,v4,v5]:=by cases args;simp_all
 obtain ⟨rfl,rfl⟩:=trodVars_none hV
 simp only [List.append_nil] at hW'
 have hlt:=hW'.lt
 obtain ⟨z0,hz0⟩:=okWide_slice Tryz.underlying46 (hval 0 46 v0 rfl rfl)
 obtain ⟨a0,g0,y0⟩:=zxZ rfl (n:=9) (by kernel_rfl) h0 (fun x hx=>hlt x (by simp [hx]))
 obtain ⟨x0,rfl,w0⟩:=gdL (k:=6) Tryz.underlying46 (by kernel_rfl) (fun h=>zyD h) g0
 have y0':=zEn y0 (by obtain ⟨_,_,rfl⟩:=hz0;rfl)
 obtain ⟨z1,rfl⟩:=zt5 Tryz.underlying84 (hval 1 84 v1 rfl rfl)
 obtain ⟨a1,g1,y1⟩:=zxZ rfl (n:=3) (by kernel_rfl) h1 (fun x hx=>hlt x (by simp [hx]))
 obtain ⟨x1,rfl,w1⟩:=zyE g1
 have y1':=zEm y1
 obtain ⟨x2,rfl,rfl,rfl,w2⟩:=open_int Tryz.underlying3 (hval 2 3 v2 rfl rfl) h2
 obtain ⟨x3,rfl,rfl,rfl,w3⟩:=open_int Tryz.underlying3 (hval 3 3 v3 rfl rfl) h3
 obtain ⟨x4,rfl,rfl,rfl,w4⟩:=open_int Tryz.underlying3 (hval 4 3 v4 rfl rfl) h4
 obtain ⟨x5,rfl,rfl,rfl,w5⟩:=open_string Tryz.underlying9 (hval 5 9 v5 rfl rfl) h5
 refine ((zrs x0 x1 x2 x3 x4 x5.data.toList w0 w1 w2 w3 w4 w5).truly rfl (zob y0' (zob y1' (zob (.lit _) (zob (.lit _) (zob (.lit _) (zob (.lit _) zFz))))))).mono fun e W' ⟨he,hg⟩=>⟨.bool true,he,?_⟩
 exact zA3 Tryz.laidOut hW' hg hts rfl rfl Tryz.underlying4 rfl
theorem zsG{a b:Bool}(h:a=true)(k:b=true):(a&&b)=true:=by rw [h,k];rfl
theorem jA0:(Rows.closedTurnRow.wf (OpenSpec.ofChange Rows.closedTurnSpec))=true:=by kernel_rfl
theorem jA1:(laidOutB Tryz.prog)=true:=by kernel_rfl
theorem jA2:(mapsRowed Tryz.prog)=true:=by kernel_rfl
theorem jA3:(Tryz.f7.params.all (Tryz.prog.readableRec ·))=true:=by kernel_rfl
theorem jA4:(namedTie Tryz.prog Rows.closedTurnRow.named Rows.closedTurnSpec.vars)=true:=by kernel_rfl
theorem jA5:((Rows.closedTurnRow.stops == []))=true:=by kernel_rfl
theorem jA6:((Tryz.prog.stops == []))=true:=by kernel_rfl
theorem jA7:((Rows.closedTurnRow.knobs == []))=true:=by kernel_rfl
theorem jA8:((Tryz.prog.stopKnobs == []))=true:=by kernel_rfl
theorem jA9:((Rows.closedTurnRow.inPlace == Tryz.prog.inPlace 7))=true:=by kernel_rfl
theorem zHI:((Rows.closedTurnRow.unfollowed == Tryz.prog.unfollowed 7))=true:=by kernel_rfl
theorem zHJ:((Rows.closedTurnRow.recurses == Tryz.prog.recurses 7))=true:=by kernel_rfl
theorem zHK:((Rows.closedTurnRow.named == Tryz.prog.varsNamed 7))=true:=by kernel_rfl
theorem zHL:((Rows.closedTurnRow.maps == (Tryz.f7.params.toList++Rows.closedTurnSpec.plain.varTypes Tryz.prog).any (Tryz.prog.mapsRec ·)))=true:=by kernel_rfl
theorem zHM:((Rows.closedTurnRow.ifaces == (Tryz.f7.params.toList++Rows.closedTurnSpec.plain.varTypes Tryz.prog).any (Tryz.prog.ifacesRec ·)))=true:=by kernel_rfl
theorem zHN:((Rows.closedTurnRow.mapsOut == Tryz.prog.mapsAmong Tryz.f7.resultTypes.toList))=true:=by kernel_rfl
theorem zHO:((Rows.closedTurnRow.loops == (Tryz.f7.params.toList++Rows.closedTurnSpec.plain.varTypes Tryz.prog).any (Tryz.prog.loopsFrom ·)))=true:=by kernel_rfl
theorem zHP:((Rows.closedTurnRow.wideKeys == (Tryz.f7.params.toList++Rows.closedTurnSpec.plain.varTypes Tryz.prog++Tryz.f7.resultTypes.toList).any (Tryz.prog.wideKeysFrom ·)))=true:=by kernel_rfl
theorem zHQ:(Rows.closedTurnSpec.vars.all (Tryz.prog.varReadable ·))=true:=by kernel_rfl
theorem zHR:(Tryz.f7.resultTypes.all (fun t=>Tryz.prog.readableRec t&&decide (t<Tryz.prog.types.size)))=true:=by kernel_rfl
theorem zHS:((Rows.closedTurnRow.ifacesOut == Tryz.f7.resultTypes.toList.any (Tryz.prog.ifacesRec ·)))=true:=by kernel_rfl
theorem zHT:((Rows.closedTurnRow.loopsOut == Tryz.f7.resultTypes.toList.any (Tryz.prog.loopsFrom ·)))=true:=by kernel_rfl
theorem jA:(fun (P:Program) (f:FuncId) (fn:Func) (s:ChangeSpec) (c:OpenClaim)=>c.wf (OpenSpec.ofChange s)&&laidOutB P&&mapsRowed P&&fn.params.all (P.readableRec ·)&&namedTie P c.named s.vars&&(c.stops == [])&&(P.stops == [])&&(c.knobs == [])&&(P.stopKnobs == [])&&(c.inPlace == P.inPlace f)&&(c.unfollowed == P.unfollowed f)&&(c.recurses == P.recurses f)&&(c.named == P.varsNamed f)&&(c.maps == (fn.params.toList++s.plain.varTypes P).any (P.mapsRec ·))&&(c.ifaces == (fn.params.toList++s.plain.varTypes P).any (P.ifacesRec ·))&&(c.mapsOut == P.mapsAmong fn.resultTypes.toList)&&(c.loops == (fn.params.toList++s.plain.varTypes P).any (P.loopsFrom ·))&&(c.wideKeys == (fn.params.toList++s.plain.varTypes P++fn.resultTypes.toList).any (P.wideKeysFrom ·))&&s.vars.all (P.varReadable ·)&&fn.resultTypes.all (fun t=>P.readableRec t&&decide (t<P.types.size))&&(c.ifacesOut == fn.resultTypes.toList.any (P.ifacesRec ·))&&(c.loopsOut == fn.resultTypes.toList.any (P.loopsFrom ·))) Tryz.prog 7 Tryz.f7 Rows.closedTurnSpec Rows.closedTurnRow=true:=(zsG (zsG (zsG (zsG (zsG (zsG (zsG (zsG (zsG (zsG (zsG (zsG (zsG (zsG (zsG (zsG (zsG (zsG (zsG (zsG (zsG jA0 jA1) jA2) jA3) jA4) jA5) jA6) jA7) jA8) jA9) zHI) zHJ) zHK) zHL) zHM) zHN) zHO) zHP) zHQ) zHR) zHS) zHT)
theorem jB1:(fun (P:Program) (_:FuncId) (_:Func) (_:ChangeSpec) (c:OpenClaim)=>(c.plainKeys == P.plainKeys)) Tryz.prog 7 Tryz.f7 Rows.closedTurnSpec Rows.closedTurnRow=true:=by kernel_rfl
theorem jB2:(fun (_:Program) (_:FuncId) (_:Func) (_:ChangeSpec) (c:OpenClaim)=>c.shortTexts.isNone) Tryz.prog 7 Tryz.f7 Rows.closedTurnSpec Rows.closedTurnRow=true:=by kernel_rfl
theorem jB3:(fun (P:Program) (_:FuncId) (_:Func) (_:ChangeSpec) (_:OpenClaim)=>P.stopsHeard) Tryz.prog 7 Tryz.f7 Rows.closedTurnSpec Rows.closedTurnRow=true:=by kernel_rfl
theorem jC2:(fun (P:Program) (_:FuncId) (fn:Func) (s:ChangeSpec) (c:OpenClaim)=>(P.make == some c.make)&&(c.kinds == (if c.domain.isEmpty then [] else fn.params.toList.map fun t=>match P.underlying t with |some (.int k)=>some k |_=>none))&&(c.pinned == c.pinnedBy)&&(c.veiled == (fn.params.toList++s.plain.varTypes P++fn.resultTypes.toList).any (P.veiledRec ·))&&c.veiledFits P fn.params.toList (fn.params.toList++s.plain.varTypes P++fn.resultTypes.toList)) Tryz.prog 7 Tryz.f7 Rows.closedTurnSpec Rows.closedTurnRow=true:=by kernel_rfl
set_option maxRecDepth 1000000 in
theorem jB4:Tryz.prog.mayEnter=true:=by
 unfold Program.mayEnter
 rw [show Tryz.prog.initOrder=String.ofList _ from rfl,String.toList_ofList]
 kernel_rfl
set_option maxRecDepth 1000000 in
theorem jC1:(Rows.closedTurnRow.lifted == Tryz.prog.liftsFinal)=true:=by
 unfold Program.liftsFinal Program.headLifts
 rw [show Tryz.prog.initOrder=String.ofList _ from rfl,String.toList_ofList]
 kernel_rfl
theorem zB8{b c d e:Bool}(h1:b=true)(h2:c=true)(h3:d=true)(h4:e=true):(b&&c&&d&&e)=true:=by rw [h1,h2,h3,h4];rfl
theorem zEl{f g h i j k:Bool}(h1:f=true)(h2:(g&&h&&i&&j&&k)=true):(f&&g&&h&&i&&j&&k)=true:=by rw [h1];simpa using h2
theorem jB:(fun (P:Program) (_:FuncId) (_:Func) (_:ChangeSpec) (c:OpenClaim)=>(c.plainKeys == P.plainKeys)&&c.shortTexts.isNone&&P.stopsHeard&&P.mayEnter) Tryz.prog 7 Tryz.f7 Rows.closedTurnSpec Rows.closedTurnRow=true:=zB8 jB1 jB2 jB3 jB4
theorem jC:(fun (P:Program) (_:FuncId) (fn:Func) (s:ChangeSpec) (c:OpenClaim)=>(c.lifted == P.liftsFinal)&&(P.make == some c.make)&&(c.kinds == (if c.domain.isEmpty then [] else fn.params.toList.map fun t=>match P.underlying t with |some (.int k)=>some k |_=>none))&&(c.pinned == c.pinnedBy)&&(c.veiled == (fn.params.toList++s.plain.varTypes P++fn.resultTypes.toList).any (P.veiledRec ·))&&c.veiledFits P fn.params.toList (fn.params.toList++s.plain.varTypes P++fn.resultTypes.toList)) Tryz.prog 7 Tryz.f7 Rows.closedTurnSpec Rows.closedTurnRow=true:=zEl jC1 jC2
theorem zyJ{a b c d e f g h i j k:Bool}(h1:a=true)(h2:(b&&c&&d&&e)=true)(h3:(f&&g&&h&&i&&j&&k)=true):(a&&b&&c&&d&&e&&f&&g&&h&&i&&j&&k)=true:=by
 simp only [Bool.and_eq_true] at h2 h3 ⊢
 exact ⟨⟨⟨⟨⟨⟨⟨⟨⟨⟨h1,h2.1.1.1⟩,h2.1.1.2⟩,h2.1.2⟩,h2.2⟩,h3.1.1.1.1.1⟩,h3.1.1.1.1.2⟩,h3.1.1.1.2⟩,h3.1.1.2⟩,h3.1.2⟩,h3.2⟩
theorem zyL{P:Program}{f:FuncId}{fn:Func}{s:ChangeSpec}{c:OpenClaim}(hA:(c.wf (OpenSpec.ofChange s)&&laidOutB P&&mapsRowed P&&fn.params.all (P.readableRec ·)&&namedTie P c.named s.vars&&(c.stops == [])&&(P.stops == [])&&(c.knobs == [])&&(P.stopKnobs == [])&&(c.inPlace == P.inPlace f)&&(c.unfollowed == P.unfollowed f)&&(c.recurses == P.recurses f)&&(c.named == P.varsNamed f)&&(c.maps == (fn.params.toList++s.plain.varTypes P).any (P.mapsRec ·))&&(c.ifaces == (fn.params.toList++s.plain.varTypes P).any (P.ifacesRec ·))&&(c.mapsOut == P.mapsAmong fn.resultTypes.toList)&&(c.loops == (fn.params.toList++s.plain.varTypes P).any (P.loopsFrom ·))&&(c.wideKeys == (fn.params.toList++s.plain.varTypes P++fn.resultTypes.toList).any (P.wideKeysFrom ·))&&s.vars.all (P.varReadable ·)&&fn.resultTypes.all (fun t=>P.readableRec t&&decide (t<P.types.size))&&(c.ifacesOut == fn.resultTypes.toList.any (P.ifacesRec ·))&&(c.loopsOut == fn.resultTypes.toList.any (P.loopsFrom ·)))=true)(hB:((c.plainKeys == P.plainKeys)&&c.shortTexts.isNone&&P.stopsHeard&&P.mayEnter)=true)(hC:((c.lifted == P.liftsFinal)&&(P.make == some c.make)&&(c.kinds == (if c.domain.isEmpty then [] else fn.params.toList.map fun t=>match P.underlying t with |some (.int k)=>some k |_=>none))&&(c.pinned == c.pinnedBy)&&(c.veiled == (fn.params.toList++s.plain.varTypes P++fn.resultTypes.toList).any (P.veiledRec ·))&&c.veiledFits P fn.params.toList (fn.params.toList++s.plain.varTypes P++fn.resultTypes.toList))=true):joinedFacts P f fn s c=true:=by
 unfold joinedFacts
 exact zyJ hA hB hC
theorem zyK:joinedFacts Tryz.prog 7 Tryz.f7 Rows.closedTurnSpec Rows.closedTurnRow=true:=zyL jA jB jC
theorem closedTurn_holds:Rows.ClosedTurnSaid:=
 OpenClaim.holds_of_wide 7 Tryz.f7 rfl rfl rfl rfl rfl rfl rfl ⟨rfl,rfl,rfl,rfl,rfl⟩ rfl rfl rfl rfl rfl (by kernel_rfl) Tryz.func7 zyK
  (of_decide_eq_true (by kernel_rfl)) (by unfold Func.isWrapper;first |(rw [if_pos (by decide +kernel)];kernel_rfl) |(rw [if_neg (by decide +kernel)];exact ⟨rfl,rfl⟩))
  (fun os started H enc _=>zp3 os started H enc)
end
end Go.Proofs.YthmnlfenkhmmhaaGreat
