/- StateAll: for every input the law returns true, and each argument reads as it read before. No further condition. Part 8 of 8. -/
import Derived.Test.YthmnlfenkhmmhaaGreatSi7
import Derived.Test.YthmnlfenkhmmhaaGreatRows
namespace Go.Proofs.YthmnlfenkhmmhaaGreat
open Go.ChangeShapes Go.WideShapes Go.ChangeAt Go.RowKit Go.WideMaps Go.WideElems
open Go.ChangeMaps (open_string shut_string)
set_option maxRecDepth 100000 in
theorem zkK (os:Os) (started:os.Started) (H:Type) (enc:TypeId×Value→H) :
    ReturnsInHanded {} Tryz.checked os 5 .any (Rows.stateAllSpec.pre6 enc Tryz.prog Tryz.f5 Rows.stateAllRow.domain false) (Rows.stateAllSpec.post enc Tryz.prog Tryz.f5 false true false false):=by
  refine returnsInHanded_of_change (C:=Tryz.checked) Tryz.ownNot started (by kernel_rfl) Tryz.func5
    (ChangeSpec.witness6 (enc:=enc) (C:=Tryz.checked) false ⟨#[],#[.slice none 0 0,.slice none 0 0],[]⟩ 12 (by kernel_rfl) (by kernel_rfl) (by kernel_rfl) (by kernel_rfl)) ?_
  intro W base args ds gs before hval0 hW hcnd _
  have hval:∀ (j:Nat) t v,Tryz.f5.params[j]?=some t→args[j]?=some v→Value.okWide Tryz.prog W .any base t v:=hval0
  have hW':=hW
  obtain ⟨p,q,hA0,hV,rfl,hfz,hnd⟩:=hW
  have hA:DataW.TrodAll enc Tryz.prog W 0 (fun _=>true) true Tryz.f5.params.toList args.toList ds p:=hA0
  have hts:Tryz.f5.params.toList.all (fun t=>Tryz.prog.readableRec t&&decide (t < Tryz.prog.types.size))=true:=by kernel_rfl
  rw [Tryz.params5] at hA hval
  obtain ⟨v0,vs0,d0,ds0,p0,q0,hargs,rfl,rfl,h0,r0⟩:=trodAll_cons hA
  obtain ⟨v1,vs1,d1,ds1,p1,q1,rfl,rfl,rfl,h1,r1⟩:=trodAll_cons r0
  obtain ⟨rfl,rfl,rfl⟩:=trodAll_nil r1
  obtain rfl:args=#[v0,v1]:=by cases args; simp_all
  obtain ⟨rfl,rfl⟩:=trodVars_none hV
  simp only [List.append_nil] at hW'
  have hlt:=hW'.lt
  obtain ⟨z0,hz0⟩:=okWide_slice Tryz.underlying46 (hval 0 46 v0 rfl rfl)
  obtain ⟨a0,g0,y0⟩:=zo4 (n:=9) (by kernel_rfl) h0 (fun x hx=>hlt x (by simp [hx]))
  obtain ⟨x0,rfl,w0⟩:=gdL (k:=6) Tryz.underlying46 (by kernel_rfl) (fun h=>zpE h) g0
  have y0':=zqt y0 (by obtain ⟨_,_,rfl⟩:=hz0; rfl)
  obtain ⟨z1,hz1⟩:=okWide_slice Tryz.underlying57 (hval 1 57 v1 rfl rfl)
  obtain ⟨a1,g1,y1⟩:=zo4 (n:=5) (by kernel_rfl) h1 (fun x hx=>hlt x (by simp [hx]))
  obtain ⟨x1,rfl,w1⟩:=gdL (k:=6) Tryz.underlying57 (by kernel_rfl) (fun h=>zqR h) g1
  have y1':=zqt y1 (by obtain ⟨_,_,rfl⟩:=hz1; rfl)
  refine ((zmy x0 x1 w0 w1).truly (zpk y0' (zpk y1' zum))).mono fun e W' ⟨he,hg⟩=>⟨.bool true,he,?_⟩
  exact zrp Tryz.laidOut hW' hg hts rfl rfl Tryz.underlying4 rfl
theorem jA:(fun (P:Program) (f:FuncId) (fn:Func) (s:ChangeSpec) (c:OpenClaim)=>c.wf (OpenSpec.ofChange s)&&laidOutB P&&mapsRowed P&&fn.params.all (P.readableRec ·)&&namedTie P c.named s.vars&&(c.stops == [])&&(P.stops == [])&&(c.knobs == [])&&(P.stopKnobs == [])&&(c.inPlace == P.inPlace f)&&(c.unfollowed == P.unfollowed f)&&(c.recurses == P.recurses f)&&(c.named == P.varsNamed f)&&(c.maps == (fn.params.toList++s.plain.varTypes P).any (P.mapsRec ·))&&(c.ifaces == (fn.params.toList++s.plain.varTypes P).any (P.ifacesRec ·))&&(c.mapsOut == P.mapsAmong fn.resultTypes.toList)&&(c.loops == (fn.params.toList++s.plain.varTypes P).any (P.loopsFrom ·))&&(c.wideKeys == (fn.params.toList++s.plain.varTypes P++fn.resultTypes.toList).any (P.wideKeysFrom ·))&&s.vars.all (P.varReadable ·)&&fn.resultTypes.all (fun t=>P.readableRec t&&decide (t < P.types.size))&&(c.ifacesOut == fn.resultTypes.toList.any (P.ifacesRec ·))&&(c.loopsOut == fn.resultTypes.toList.any (P.loopsFrom ·))) Tryz.prog 5 Tryz.f5 Rows.stateAllSpec Rows.stateAllRow=true:=by kernel_rfl
theorem jB1:(fun (P:Program) (_:FuncId) (_:Func) (_:ChangeSpec) (c:OpenClaim)=>(c.plainKeys == P.plainKeys)) Tryz.prog 5 Tryz.f5 Rows.stateAllSpec Rows.stateAllRow=true:=by kernel_rfl
theorem jB2:(fun (_:Program) (_:FuncId) (_:Func) (_:ChangeSpec) (c:OpenClaim)=>c.shortTexts.isNone) Tryz.prog 5 Tryz.f5 Rows.stateAllSpec Rows.stateAllRow=true:=by kernel_rfl
theorem jB3:(fun (P:Program) (_:FuncId) (_:Func) (_:ChangeSpec) (_:OpenClaim)=>P.stopsHeard) Tryz.prog 5 Tryz.f5 Rows.stateAllSpec Rows.stateAllRow=true:=by kernel_rfl
theorem jC2:(fun (P:Program) (_:FuncId) (fn:Func) (s:ChangeSpec) (c:OpenClaim)=>(P.make == some c.make)&&(c.kinds == (if c.domain.isEmpty then [] else fn.params.toList.map fun t=>match P.underlying t with | some (.int k)=>some k | _=>none))&&(c.pinned == c.pinnedBy)&&(c.veiled == (fn.params.toList++s.plain.varTypes P++fn.resultTypes.toList).any (P.veiledRec ·))&&c.veiledFits P fn.params.toList (fn.params.toList++s.plain.varTypes P++fn.resultTypes.toList)) Tryz.prog 5 Tryz.f5 Rows.stateAllSpec Rows.stateAllRow=true:=by kernel_rfl
set_option maxRecDepth 1000000 in
theorem jB4:Tryz.prog.mayEnter=true:=by
  unfold Program.mayEnter
  rw [show Tryz.prog.initOrder=String.ofList _ from rfl,String.toList_ofList]
  kernel_rfl
set_option maxRecDepth 1000000 in
theorem jC1:(Rows.stateAllRow.lifted == Tryz.prog.liftsFinal)=true:=by
  unfold Program.liftsFinal Program.headLifts
  rw [show Tryz.prog.initOrder=String.ofList _ from rfl,String.toList_ofList]
  kernel_rfl
theorem zr9 {b c d e:Bool} (h1:b=true) (h2:c=true) (h3:d=true) (h4:e=true):(b&&c&&d&&e)=true:=by rw [h1,h2,h3,h4]; rfl
theorem ztB {f g h i j k:Bool} (h1:f=true) (h2:(g&&h&&i&&j&&k)=true):(f&&g&&h&&i&&j&&k)=true:=by rw [h1]; simpa using h2
theorem jB:(fun (P:Program) (_:FuncId) (_:Func) (_:ChangeSpec) (c:OpenClaim)=>(c.plainKeys == P.plainKeys)&&c.shortTexts.isNone&&P.stopsHeard&&P.mayEnter) Tryz.prog 5 Tryz.f5 Rows.stateAllSpec Rows.stateAllRow=true:=zr9 jB1 jB2 jB3 jB4
theorem jC:(fun (P:Program) (_:FuncId) (fn:Func) (s:ChangeSpec) (c:OpenClaim)=>(c.lifted == P.liftsFinal)&&(P.make == some c.make)&&(c.kinds == (if c.domain.isEmpty then [] else fn.params.toList.map fun t=>match P.underlying t with | some (.int k)=>some k | _=>none))&&(c.pinned == c.pinnedBy)&&(c.veiled == (fn.params.toList++s.plain.varTypes P++fn.resultTypes.toList).any (P.veiledRec ·))&&c.veiledFits P fn.params.toList (fn.params.toList++s.plain.varTypes P++fn.resultTypes.toList)) Tryz.prog 5 Tryz.f5 Rows.stateAllSpec Rows.stateAllRow=true:=ztB jC1 jC2
theorem zpJ {a b c d e f g h i j k:Bool} (h1:a=true) (h2:(b&&c&&d&&e)=true) (h3:(f&&g&&h&&i&&j&&k)=true):(a&&b&&c&&d&&e&&f&&g&&h&&i&&j&&k)=true:=by
  simp only [Bool.and_eq_true] at h2 h3 ⊢
  exact ⟨⟨⟨⟨⟨⟨⟨⟨⟨⟨h1,h2.1.1.1⟩,h2.1.1.2⟩,h2.1.2⟩,h2.2⟩,h3.1.1.1.1.1⟩,h3.1.1.1.1.2⟩,h3.1.1.1.2⟩,h3.1.1.2⟩,h3.1.2⟩,h3.2⟩
theorem zpL {P:Program} {f:FuncId} {fn:Func} {s:ChangeSpec} {c:OpenClaim} (hA:(c.wf (OpenSpec.ofChange s)&&laidOutB P&&mapsRowed P&&fn.params.all (P.readableRec ·)&&namedTie P c.named s.vars&&(c.stops == [])&&(P.stops == [])&&(c.knobs == [])&&(P.stopKnobs == [])&&(c.inPlace == P.inPlace f)&&(c.unfollowed == P.unfollowed f)&&(c.recurses == P.recurses f)&&(c.named == P.varsNamed f)&&(c.maps == (fn.params.toList++s.plain.varTypes P).any (P.mapsRec ·))&&(c.ifaces == (fn.params.toList++s.plain.varTypes P).any (P.ifacesRec ·))&&(c.mapsOut == P.mapsAmong fn.resultTypes.toList)&&(c.loops == (fn.params.toList++s.plain.varTypes P).any (P.loopsFrom ·))&&(c.wideKeys == (fn.params.toList++s.plain.varTypes P++fn.resultTypes.toList).any (P.wideKeysFrom ·))&&s.vars.all (P.varReadable ·)&&fn.resultTypes.all (fun t=>P.readableRec t&&decide (t < P.types.size))&&(c.ifacesOut == fn.resultTypes.toList.any (P.ifacesRec ·))&&(c.loopsOut == fn.resultTypes.toList.any (P.loopsFrom ·)))=true) (hB:((c.plainKeys == P.plainKeys)&&c.shortTexts.isNone&&P.stopsHeard&&P.mayEnter)=true) (hC:((c.lifted == P.liftsFinal)&&(P.make == some c.make)&&(c.kinds == (if c.domain.isEmpty then [] else fn.params.toList.map fun t=>match P.underlying t with | some (.int k)=>some k | _=>none))&&(c.pinned == c.pinnedBy)&&(c.veiled == (fn.params.toList++s.plain.varTypes P++fn.resultTypes.toList).any (P.veiledRec ·))&&c.veiledFits P fn.params.toList (fn.params.toList++s.plain.varTypes P++fn.resultTypes.toList))=true):joinedFacts P f fn s c=true:=by
  unfold joinedFacts
  exact zpJ hA hB hC
theorem zpK:joinedFacts Tryz.prog 5 Tryz.f5 Rows.stateAllSpec Rows.stateAllRow=true:=zpL jA jB jC
theorem stateAll_holds:Rows.StateAllSaid :=
  OpenClaim.holds_of_wide 5 Tryz.f5 rfl rfl rfl rfl rfl rfl rfl ⟨rfl,rfl,rfl,rfl,rfl⟩ rfl rfl rfl rfl rfl (by kernel_rfl) Tryz.func5 zpK
    (of_decide_eq_true (by kernel_rfl)) (by unfold Func.isWrapper; first | (rw [if_pos (by decide +kernel)]; kernel_rfl) | (rw [if_neg (by decide +kernel)]; exact ⟨rfl,rfl⟩))
    (fun os started H enc _=>zkK os started H enc)
end Go.Proofs.YthmnlfenkhmmhaaGreat
