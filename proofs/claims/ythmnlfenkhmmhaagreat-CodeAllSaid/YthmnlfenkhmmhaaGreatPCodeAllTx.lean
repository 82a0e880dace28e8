/- CodeAll: for every input the law returns true, and each argument reads as it read before. No further condition. Part 9 of 9. -/
import Derived.Test.YthmnlfenkhmmhaaGreatTx8
import Derived.Test.YthmnlfenkhmmhaaGreatRows
namespace Go.Proofs.YthmnlfenkhmmhaaGreat
section
open Go.ChangeShapes Go.WideShapes Go.ChangeAt Go.RowKit Go.WideMaps Go.WideElems
open Go.ChangeMaps (open_string shut_string)
set_option maxRecDepth 100000 in
theorem zv6(os:Go.Os)(started:os.Started)(H:Type)(enc:TypeId×Value→H):
  ReturnsInHanded {} Tryz.checked os 12 .any (Rows.codeAllSpec.pre6 enc Tryz.prog Tryz.f12 Rows.codeAllRow.domain false) (Rows.codeAllSpec.post enc Tryz.prog Tryz.f12 false true false false):=by
 refine returnsInHanded_of_change (C:=Tryz.checked) Tryz.ownNot started (by kernel_rfl) Tryz.func12
  (ChangeSpec.witness6 (enc:=enc) (C:=Tryz.checked) false ⟨#[],#[.slice none 0 0,.agg #[.string ⟨#[]⟩,.string ⟨#[]⟩],.slice none 0 0],[]⟩ 12 (by kernel_rfl) (by kernel_rfl) (by kernel_rfl) (by kernel_rfl)) ?_
 intro W base args ds gs before hval0 hW hcnd _
 have hval:∀(j:Nat) t v,Tryz.f12.params[j]?=some t→args[j]?=some v→Value.okWide Tryz.prog W .any base t v:=hval0
 have hW':=hW
 obtain ⟨p,q,hA0,hV,rfl,hfz,hnd⟩:=hW
 have hA:DataW.TrodAll enc Tryz.prog W 0 (fun _=>true) true Tryz.f12.params.toList args.toList ds p:=hA0
 have hts:Tryz.f12.params.toList.all (fun t=>Tryz.prog.readableRec t&&decide (t<Tryz.prog.types.size))=true:=by kernel_rfl
 rw [Tryz.params12] at hA hval
 obtain ⟨v0,vs0,d0,ds0,p0,q0,hargs,rfl,rfl,h0,r0⟩:=trodAll_cons hA
 obtain ⟨v1,vs1,d1,ds1,p1,q1,rfl,rfl,rfl,h1,r1⟩:=trodAll_cons r0
 obtain ⟨v2,vs2,d2,ds2,p2,q2,rfl,rfl,rfl,h2,r2⟩:=trodAll_cons r1
 obtain ⟨rfl,rfl,rfl⟩:=trodAll_nil r2
 obtain rfl:args=#[v0,v1,v2]:=by cases args;simp_all
 obtain ⟨rfl,rfl⟩:=trodVars_none hV
 simp only [List.append_nil] at hW'
 have hlt:=hW'.lt
 obtain ⟨z0,hz0⟩:=okWide_slice Tryz.underlying46 (hval 0 46 v0 rfl rfl)
 obtain ⟨a0,g0,y0⟩:=zx9 (n:=9) (by kernel_rfl) h0 (fun x hx=>hlt x (by simp [hx]))
 obtain ⟨x0,rfl,w0⟩:=gdL (k:=6) Tryz.underlying46 (by kernel_rfl) (fun h=>zDf h) g0
 have y0':=zEn y0 (by obtain ⟨_,_,rfl⟩:=hz0;rfl)
 obtain ⟨z1,rfl⟩:=zx3 Tryz.underlying84 (hval 1 84 v1 rfl rfl)
 obtain ⟨a1,g1,y1⟩:=zx9 (n:=3) (by kernel_rfl) h1 (fun x hx=>hlt x (by simp [hx]))
 obtain ⟨x1,rfl,w1⟩:=zDg g1
 have y1':=zJq y1
 obtain ⟨z2,hz2⟩:=okWide_slice Tryz.underlying108 (hval 2 108 v2 rfl rfl)
 obtain ⟨a2,g2,y2⟩:=zx9 (n:=3) (by kernel_rfl) h2 (fun x hx=>hlt x (by simp [hx]))
 obtain ⟨x2,rfl,w2⟩:=gdL (k:=1) Tryz.underlying108 (by kernel_rfl) (fun h=>gdB Tryz.underlying4 h) g2
 have y2':=zEn y2 (by obtain ⟨_,_,rfl⟩:=hz2;rfl)
 refine ((zyV x0 x1 x2 w0 w1 w2).truly (zyx y0' (zyx y1' (zyx y2' zKF)))).mono fun e W' ⟨he,hg⟩=>⟨.bool true,he,?_⟩
 exact zFL Tryz.laidOut hW' hg hts rfl rfl Tryz.underlying4 rfl
theorem zv8{a b:Bool}(h:a=true)(k:b=true):(a&&b)=true:=by rw [h,k];rfl
theorem jA0:(Rows.codeAllRow.wf (OpenSpec.ofChange Rows.codeAllSpec))=true:=by kernel_rfl
theorem jA1:(laidOutB Tryz.prog)=true:=by kernel_rfl
theorem jA2:(mapsRowed Tryz.prog)=true:=by kernel_rfl
theorem jA3:(Tryz.f12.params.all (Tryz.prog.readableRec ·))=true:=by kernel_rfl
theorem jA4:(namedTie Tryz.prog Rows.codeAllRow.named Rows.codeAllSpec.vars)=true:=by kernel_rfl
theorem jA5:((Rows.codeAllRow.stops == []))=true:=by kernel_rfl
theorem jA6:((Tryz.prog.stops == []))=true:=by kernel_rfl
theorem jA7:((Rows.codeAllRow.knobs == []))=true:=by kernel_rfl
theorem jA8:((Tryz.prog.stopKnobs == []))=true:=by kernel_rfl
theorem jA9:((Rows.codeAllRow.inPlace == Tryz.prog.inPlace 12))=true:=by kernel_rfl
theorem zMP:((Rows.codeAllRow.unfollowed == Tryz.prog.unfollowed 12))=true:=by kernel_rfl
theorem zMQ:((Rows.codeAllRow.recurses == Tryz.prog.recurses 12))=true:=by kernel_rfl
theorem zMR:((Rows.codeAllRow.named == Tryz.prog.varsNamed 12))=true:=by kernel_rfl
theorem zMS:((Rows.codeAllRow.maps == (Tryz.f12.params.toList++Rows.codeAllSpec.plain.varTypes Tryz.prog).any (Tryz.prog.mapsRec ·)))=true:=by kernel_rfl
theorem zMT:((Rows.codeAllRow.ifaces == (Tryz.f12.params.toList++Rows.codeAllSpec.plain.varTypes Tryz.prog).any (Tryz.prog.ifacesRec ·)))=true:=by kernel_rfl
theorem zMU:((Rows.codeAllRow.mapsOut == Tryz.prog.mapsAmong Tryz.f12.resultTypes.toList))=true:=by kernel_rfl
theorem zMV:((Rows.codeAllRow.loops == (Tryz.f12.params.toList++Rows.codeAllSpec.plain.varTypes Tryz.prog).any (Tryz.prog.loopsFrom ·)))=true:=by kernel_rfl
theorem zMW:((Rows.codeAllRow.wideKeys == (Tryz.f12.params.toList++Rows.codeAllSpec.plain.varTypes Tryz.prog++Tryz.f12.resultTypes.toList).any (Tryz.prog.wideKeysFrom ·)))=true:=by kernel_rfl
theorem zMX:(Rows.codeAllSpec.vars.all (Tryz.prog.varReadable ·))=true:=by kernel_rfl
theorem zMY:(Tryz.f12.resultTypes.all (fun t=>Tryz.prog.readableRec t&&decide (t<Tryz.prog.types.size)))=true:=by kernel_rfl
theorem zMZ:((Rows.codeAllRow.ifacesOut == Tryz.f12.resultTypes.toList.any (Tryz.prog.ifacesRec ·)))=true:=by kernel_rfl
theorem zM0:((Rows.codeAllRow.loopsOut == Tryz.f12.resultTypes.toList.any (Tryz.prog.loopsFrom ·)))=true:=by kernel_rfl
theorem jA:(fun (P:Program) (f:FuncId) (fn:Func) (s:ChangeSpec) (c:OpenClaim)=>c.wf (OpenSpec.ofChange s)&&laidOutB P&&mapsRowed P&&fn.params.all (P.readableRec ·)&&namedTie P c.named s.vars&&(c.stops == [])&&(P.stops == [])&&(c.knobs == [])&&(P.stopKnobs == [])&&(c.inPlace == P.inPlace f)&&(c.unfollowed == P.unfollowed f)&&(c.recurses == P.recurses f)&&(c.named == P.varsNamed f)&&(c.maps == (fn.params.toList++s.plain.varTypes P).any (P.mapsRec ·))&&(c.ifaces == (fn.params.toList++s.plain.varTypes P).any (P.ifacesRec ·))&&(c.mapsOut == P.mapsAmong fn.resultTypes.toList)&&(c.loops == (fn.params.toList++s.plain.varTypes P).any (P.loopsFrom ·))&&(c.wideKeys == (fn.params.toList++s.plain.varTypes P++fn.resultTypes.toList).any (P.wideKeysFrom ·))&&s.vars.all (P.varReadable ·)&&fn.resultTypes.all (fun t=>P.readableRec t&&decide (t<P.types.size))&&(c.ifacesOut == fn.resultTypes.toList.any (P.ifacesRec ·))&&(c.loopsOut == fn.resultTypes.toList.any (P.loopsFrom ·))) Tryz.prog 12 Tryz.f12 Rows.codeAllSpec Rows.codeAllRow=true:=(zv8 (zv8 (zv8 (zv8 (zv8 (zv8 (zv8 (zv8 (zv8 (zv8 (zv8 (zv8 (zv8 (zv8 (zv8 (zv8 (zv8 (zv8 (zv8 (zv8 (zv8 jA0 jA1) jA2) jA3) jA4) jA5) jA6) jA7) jA8) jA9) zMP) zMQ) zMR) zMS) zMT) zMU) zMV) zMW) zMX) zMY) zMZ) zM0)
theorem jB1:(fun (P:Program) (_:FuncId) (_:Func) (_:ChangeSpec) (c:OpenClaim)=>(c.plainKeys == P.plainKeys)) Tryz.prog 12 Tryz.f12 Rows.codeAllSpec Rows.codeAllRow=true:=by kernel_rfl
theorem jB2:(fun (_:Program) (_:FuncId) (_:Func) (_:ChangeSpec) (c:OpenClaim)=>c.shortTexts.isNone) Tryz.prog 12 Tryz.f12 Rows.codeAllSpec Rows.codeAllRow=true:=by kernel_rfl
theorem jB3:(fun (P:Program) (_:FuncId) (_:Func) (_:ChangeSpec) (_:OpenClaim)=>P.stopsHeard) Tryz.prog 12 Tryz.f12 Rows.codeAllSpec Rows.codeAllRow=true:=by kernel_rfl
theorem jC2:(fun (P:Program) (_:FuncId) (fn:Func) (s:ChangeSpec) (c:OpenClaim)=>(P.make == some c.make)&&(c.kinds == (if c.domain.isEmpty then [] else fn.params.toList.map fun t=>match P.underlying t with |some (.int k)=>some k |_=>none))&&(c.pinned == c.pinnedBy)&&(c.veiled == (fn.params.toList++s.plain.varTypes P++fn.resultTypes.toList).any (P.veiledRec ·))&&c.veiledFits P fn.params.toList (fn.params.toList++s.plain.varTypes P++fn.resultTypes.toList)) Tryz.prog 12 Tryz.f12 Rows.codeAllSpec Rows.codeAllRow=true:=by kernel_rfl
set_option maxRecDepth 1000000 in
theorem jB4:Tryz.prog.mayEnter=true:=by
 unfold Program.mayEnter
 rw [show Tryz.prog.initOrder=String.ofList _ from rfl,String.toList_ofList]
 kernel_rfl
set_option maxRecDepth 1000000 in
theorem jC1:(Rows.codeAllRow.lifted == Tryz.prog.liftsFinal)=true:=by
 unfold Program.liftsFinal Program.headLifts
 rw [show Tryz.prog.initOrder=String.ofList _ from rfl,String.toList_ofList]
 kernel_rfl
theorem zG1{b c d e:Bool}(h1:b=true)(h2:c=true)(h3:d=true)(h4:e=true):(b&&c&&d&&e)=true:=by rw [h1,h2,h3,h4];rfl
theorem zJo{f g h i j k:Bool}(h1:f=true)(h2:(g&&h&&i&&j&&k)=true):(f&&g&&h&&i&&j&&k)=true:=by rw [h1];simpa using h2
theorem jB:(fun (P:Program) (_:FuncId) (_:Func) (_:ChangeSpec) (c:OpenClaim)=>(c.plainKeys == P.plainKeys)&&c.shortTexts.isNone&&P.stopsHeard&&P.mayEnter) Tryz.prog 12 Tryz.f12 Rows.codeAllSpec Rows.codeAllRow=true:=zG1 jB1 jB2 jB3 jB4
theorem jC:(fun (P:Program) (_:FuncId) (fn:Func) (s:ChangeSpec) (c:OpenClaim)=>(c.lifted == P.liftsFinal)&&(P.make == some c.make)&&(c.kinds == (if c.domain.isEmpty then [] else fn.params.toList.map fun t=>match P.underlying t with |some (.int k)=>some k |_=>none))&&(c.pinned == c.pinnedBy)&&(c.veiled == (fn.params.toList++s.plain.varTypes P++fn.resultTypes.toList).any (P.veiledRec ·))&&c.veiledFits P fn.params.toList (fn.params.toList++s.plain.varTypes P++fn.resultTypes.toList)) Tryz.prog 12 Tryz.f12 Rows.codeAllSpec Rows.codeAllRow=true:=zJo jC1 jC2
theorem zDm{a b c d e f g h i j k:Bool}(h1:a=true)(h2:(b&&c&&d&&e)=true)(h3:(f&&g&&h&&i&&j&&k)=true):(a&&b&&c&&d&&e&&f&&g&&h&&i&&j&&k)=true:=by
 simp only [Bool.and_eq_true] at h2 h3 ⊢
 exact ⟨⟨⟨⟨⟨⟨⟨⟨⟨⟨h1,h2.1.1.1⟩,h2.1.1.2⟩,h2.1.2⟩,h2.2⟩,h3.1.1.1.1.1⟩,h3.1.1.1.1.2⟩,h3.1.1.1.2⟩,h3.1.1.2⟩,h3.1.2⟩,h3.2⟩
theorem zDo{P:Program}{f:FuncId}{fn:Func}{s:ChangeSpec}{c:OpenClaim}(hA:(c.wf (OpenSpec.ofChange s)&&laidOutB P&&mapsRowed P&&fn.params.all (P.readableRec ·)&&namedTie P c.named s.vars&&(c.stops == [])&&(P.stops == [])&&(c.knobs == [])&&(P.stopKnobs == [])&&(c.inPlace == P.inPlace f)&&(c.unfollowed == P.unfollowed f)&&(c.recurses == P.recurses f)&&(c.named == P.varsNamed f)&&(c.maps == (fn.params.toList++s.plain.varTypes P).any (P.mapsRec ·))&&(c.ifaces == (fn.params.toList++s.plain.varTypes P).any (P.ifacesRec ·))&&(c.mapsOut == P.mapsAmong fn.resultTypes.toList)&&(c.loops == (fn.params.toList++s.plain.varTypes P).any (P.loopsFrom ·))&&(c.wideKeys == (fn.params.toList++s.plain.varTypes P++fn.resultTypes.toList).any (P.wideKeysFrom ·))&&s.vars.all (P.varReadable ·)&&fn.resultTypes.all (fun t=>P.readableRec t&&decide (t<P.types.size))&&(c.ifacesOut == fn.resultTypes.toList.any (P.ifacesRec ·))&&(c.loopsOut == fn.resultTypes.toList.any (P.loopsFrom ·)))=true)(hB:((c.plainKeys == P.plainKeys)&&c.shortTexts.isNone&&P.stopsHeard&&P.mayEnter)=true)(hC:((c.lifted == P.liftsFinal)&&(P.make == some c.make)&&(c.kinds == (if c.domain.isEmpty then [] else fn.params.toList.map fun t=>match P.underlying t with |some (.int k)=>some k |_=>none))&&(c.pinned == c.pinnedBy)&&(c.veiled == (fn.params.toList++s.plain.varTypes P++fn.resultTypes.toList).any (P.veiledRec ·))&&c.veiledFits P fn.params.toList (fn.params.toList++s.plain.varTypes P++fn.resultTypes.toList))=true):joinedFacts P f fn s c=true:=by
 unfold joinedFacts
 exact zDm hA hB hC
theorem zDn:joinedFacts Tryz.prog 12 Tryz.f12 Rows.codeAllSpec Rows.codeAllRow=true:=zDo jA jB jC
theorem codeAll_holds:Rows.CodeAllSaid:=
 OpenClaim.holds_of_wide 12 Tryz.f12 rfl rfl rfl rfl rfl rfl rfl ⟨rfl,rfl,rfl,rfl,rfl⟩ rfl rfl rfl rfl rfl (by kernel_rfl) Tryz.func12 zDn
  (of_decide_eq_true (by kernel_rfl)) (by unfold Func.isWrapper;first |(rw [if_pos (by decide +kernel)];kernel_rfl) |(rw [if_neg (by decide +kernel)];exact ⟨rfl,rfl⟩))
  (fun os started H enc _=>zv6 os started H enc)
end
end Go.Proofs.YthmnlfenkhmmhaaGreat
