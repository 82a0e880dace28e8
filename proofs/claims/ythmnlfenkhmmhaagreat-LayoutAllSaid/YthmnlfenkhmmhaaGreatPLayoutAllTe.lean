/- LayoutAll. -/
import Derived.Test.YthmnlfenkhmmhaaGreatTe7
import Derived.Test.YthmnlfenkhmmhaaGreatRows
namespace Go.Proofs.YthmnlfenkhmmhaaGreat
section
open Go.ChangeShapes Go.WideShapes Go.ChangeAt Go.RowKit Go.WideMaps Go.WideElems
open Go.ChangeMaps (open_string shut_string)
set_option maxRecDepth 100000 in
theorem zsH(os:Go.Os)(started:os.Started)(H:Type)(enc:TypeId×Value→H):
  ReturnsInHanded {} Tryz.checked os 8 .any (Rows.layoutAllSpec.pre6 enc Tryz.prog Tryz.f8 Rows.layoutAllRow.domain false) (Rows.layoutAllSpec.post enc Tryz.prog Tryz.f8 false true false false):=by
 refine returnsInHanded_of_change (C:=Tryz.checked) Tryz.ownNot started (by kernel_rfl) Tryz.func8
  (ChangeSpec.witness6 (enc:=enc) (C:=Tryz.checked) false ⟨#[],#[.slice none 0 0,.agg #[.string ⟨#[]⟩,.string ⟨#[]⟩],.string ⟨#[]⟩,.string ⟨#[]⟩],[]⟩ 12 (by kernel_rfl) (by kernel_rfl) (by kernel_rfl) (by kernel_rfl)) ?_
 intro W base args ds gs before hval0 hW hcnd _
 have hval:∀(j:Nat) t v,Tryz.f8.params[j]?=some t→args[j]?=some v→Value.okWide Tryz.prog W .any base t v:=hval0
 have hW':=hW
 obtain ⟨p,q,hA0,hV,rfl,hfz,hnd⟩:=hW
 have hA:DataW.TrodAll enc Tryz.prog W 0 (fun _=>true) true Tryz.f8.params.toList args.toList ds p:=hA0
 have hts:Tryz.f8.params.toList.all (fun t=>Tryz.prog.readableRec t&&decide (t<Tryz.prog.types.size))=true:=by kernel_rfl
 rw [Tryz.params8] at hA hval
 obtain ⟨v0,vs0,d0,ds0,p0,q0,hargs,rfl,rfl,h0,r0⟩:=trodAll_cons hA
 obtain ⟨v1,vs1,d1,ds1,p1,q1,rfl,rfl,rfl,h1,r1⟩:=trodAll_cons r0
 obtain ⟨v2,vs2,d2,ds2,p2,q2,rfl,rfl,rfl,h2,r2⟩:=trodAll_cons r1
 obtain ⟨v3,vs3,d3,ds3,p3,q3,rfl,rfl,rfl,h3,r3⟩:=trodAll_cons r2
 obtain ⟨rfl,rfl,rfl⟩:=trodAll_nil r3
 obtain rfl:args=#[v0,v1,v2,v3]:=by cases args;simp_all
 obtain ⟨rfl,rfl⟩:=trodVars_none hV
 simp only [List.append_nil] at hW'
 have hlt:=hW'.lt
 obtain ⟨z0,hz0⟩:=okWide_slice Tryz.underlying46 (hval 0 46 v0 rfl rfl)
 obtain ⟨a0,g0,y0⟩:=zAe (n:=9) (by kernel_rfl) h0 (fun x hx=>hlt x (by simp [hx]))
 obtain ⟨x0,rfl,w0⟩:=gdL (k:=6) Tryz.underlying46 (by kernel_rfl) (fun h=>zA5 h) g0
 have y0':=zG1 y0 (by obtain ⟨_,_,rfl⟩:=hz0;rfl)
 obtain ⟨z1,rfl⟩:=zwi Tryz.underlying84 (hval 1 84 v1 rfl rfl)
 obtain ⟨a1,g1,y1⟩:=zAe (n:=3) (by kernel_rfl) h1 (fun x hx=>hlt x (by simp [hx]))
 obtain ⟨x1,rfl,w1⟩:=zA6 g1
 have y1':=zG0 y1
 obtain ⟨x2,rfl,rfl,rfl,w2⟩:=open_string Tryz.underlying9 (hval 2 9 v2 rfl rfl) h2
 obtain ⟨x3,rfl,rfl,rfl,w3⟩:=open_string Tryz.underlying9 (hval 3 9 v3 rfl rfl) h3
 refine ((zuF x0 x1 x2.data.toList x3.data.toList w0 w1).truly (zs6 y0' (zs6 y1' (zs6 (.lit _) (zs6 (.lit _) zIe))))).mono fun e W' ⟨he,hg⟩=>⟨.bool true,he,?_⟩
 exact zDx Tryz.laidOut hW' hg hts rfl rfl Tryz.underlying4 rfl
theorem an{a b:Bool}(h:a=true)(k:b=true):(a&&b)=true:=by rw [h,k];rfl
theorem j0:(Rows.layoutAllRow.wf (OpenSpec.ofChange Rows.layoutAllSpec))=true:=by kernel_rfl
theorem j1:(laidOutB Tryz.prog)=true:=by kernel_rfl
theorem j2:(mapsRowed Tryz.prog)=true:=by kernel_rfl
theorem j3:(Tryz.f8.params.all (Tryz.prog.readableRec ·))=true:=by kernel_rfl
theorem j4:(namedTie Tryz.prog Rows.layoutAllRow.named Rows.layoutAllSpec.vars)=true:=by kernel_rfl
theorem j5:((Rows.layoutAllRow.stops == []))=true:=by kernel_rfl
theorem j6:((Tryz.prog.stops == []))=true:=by kernel_rfl
theorem j7:((Rows.layoutAllRow.knobs == []))=true:=by kernel_rfl
theorem j8:((Tryz.prog.stopKnobs == []))=true:=by kernel_rfl
theorem j9:((Rows.layoutAllRow.inPlace == Tryz.prog.inPlace 8))=true:=by kernel_rfl
theorem j10:((Rows.layoutAllRow.unfollowed == Tryz.prog.unfollowed 8))=true:=by kernel_rfl
theorem j11:((Rows.layoutAllRow.recurses == Tryz.prog.recurses 8))=true:=by kernel_rfl
theorem j12:((Rows.layoutAllRow.named == Tryz.prog.varsNamed 8))=true:=by kernel_rfl
theorem j13:((Rows.layoutAllRow.maps == (Tryz.f8.params.toList++Rows.layoutAllSpec.plain.varTypes Tryz.prog).any (Tryz.prog.mapsRec ·)))=true:=by kernel_rfl
theorem j14:((Rows.layoutAllRow.ifaces == (Tryz.f8.params.toList++Rows.layoutAllSpec.plain.varTypes Tryz.prog).any (Tryz.prog.ifacesRec ·)))=true:=by kernel_rfl
theorem j15:((Rows.layoutAllRow.mapsOut == Tryz.prog.mapsAmong Tryz.f8.resultTypes.toList))=true:=by kernel_rfl
theorem j16:((Rows.layoutAllRow.loops == (Tryz.f8.params.toList++Rows.layoutAllSpec.plain.varTypes Tryz.prog).any (Tryz.prog.loopsFrom ·)))=true:=by kernel_rfl
theorem j17:((Rows.layoutAllRow.wideKeys == (Tryz.f8.params.toList++Rows.layoutAllSpec.plain.varTypes Tryz.prog++Tryz.f8.resultTypes.toList).any (Tryz.prog.wideKeysFrom ·)))=true:=by kernel_rfl
theorem j18:(Rows.layoutAllSpec.vars.all (Tryz.prog.varReadable ·))=true:=by kernel_rfl
theorem j19:(Tryz.f8.resultTypes.all (fun t=>Tryz.prog.readableRec t&&decide (t<Tryz.prog.types.size)))=true:=by kernel_rfl
theorem j20:((Rows.layoutAllRow.ifacesOut == Tryz.f8.resultTypes.toList.any (Tryz.prog.ifacesRec ·)))=true:=by kernel_rfl
theorem j21:((Rows.layoutAllRow.loopsOut == Tryz.f8.resultTypes.toList.any (Tryz.prog.loopsFrom ·)))=true:=by kernel_rfl
theorem jA:(fun (P:Program) (f:FuncId) (fn:Func) (s:ChangeSpec) (c:OpenClaim)=>c.wf (OpenSpec.ofChange s)&&laidOutB P&&mapsRowed P&&fn.params.all (P.readableRec ·)&&namedTie P c.named s.vars&&(c.stops == [])&&(P.stops == [])&&(c.knobs == [])&&(P.stopKnobs == [])&&(c.inPlace == P.inPlace f)&&(c.unfollowed == P.unfollowed f)&&(c.recurses == P.recurses f)&&(c.named == P.varsNamed f)&&(c.maps == (fn.params.toList++s.plain.varTypes P).any (P.mapsRec ·))&&(c.ifaces == (fn.params.toList++s.plain.varTypes P).any (P.ifacesRec ·))&&(c.mapsOut == P.mapsAmong fn.resultTypes.toList)&&(c.loops == (fn.params.toList++s.plain.varTypes P).any (P.loopsFrom ·))&&(c.wideKeys == (fn.params.toList++s.plain.varTypes P++fn.resultTypes.toList).any (P.wideKeysFrom ·))&&s.vars.all (P.varReadable ·)&&fn.resultTypes.all (fun t=>P.readableRec t&&decide (t<P.types.size))&&(c.ifacesOut == fn.resultTypes.toList.any (P.ifacesRec ·))&&(c.loopsOut == fn.resultTypes.toList.any (P.loopsFrom ·))) Tryz.prog 8 Tryz.f8 Rows.layoutAllSpec Rows.layoutAllRow=true:=an (an (an (an (an (an (an (an (an (an (an (an (an (an (an (an (an (an (an (an (an j0 j1) j2) j3) j4) j5) j6) j7) j8) j9) j10) j11) j12) j13) j14) j15) j16) j17) j18) j19) j20) j21
theorem jB1:(fun (P:Program) (_:FuncId) (_:Func) (_:ChangeSpec) (c:OpenClaim)=>(c.plainKeys == P.plainKeys)) Tryz.prog 8 Tryz.f8 Rows.layoutAllSpec Rows.layoutAllRow=true:=by kernel_rfl
theorem jB2:(fun (_:Program) (_:FuncId) (_:Func) (_:ChangeSpec) (c:OpenClaim)=>c.shortTexts.isNone) Tryz.prog 8 Tryz.f8 Rows.layoutAllSpec Rows.layoutAllRow=true:=by kernel_rfl
theorem jB3:(fun (P:Program) (_:FuncId) (_:Func) (_:ChangeSpec) (_:OpenClaim)=>P.stopsHeard) Tryz.prog 8 Tryz.f8 Rows.layoutAllSpec Rows.layoutAllRow=true:=by kernel_rfl
theorem jC2:(fun (P:Program) (_:FuncId) (fn:Func) (s:ChangeSpec) (c:OpenClaim)=>(P.make == some c.make)&&(c.kinds == (if c.domain.isEmpty then [] else fn.params.toList.map fun t=>match P.underlying t with |some (.int k)=>some k |_=>none))&&(c.pinned == c.pinnedBy)&&(c.veiled == (fn.params.toList++s.plain.varTypes P++fn.resultTypes.toList).any (P.veiledRec ·))&&c.veiledFits P fn.params.toList (fn.params.toList++s.plain.varTypes P++fn.resultTypes.toList)) Tryz.prog 8 Tryz.f8 Rows.layoutAllSpec Rows.layoutAllRow=true:=by kernel_rfl
set_option maxRecDepth 1000000 in
theorem jB4:Tryz.prog.mayEnter=true:=by
 unfold Program.mayEnter
 rw [show Tryz.prog.initOrder=String.ofList _ from rfl,String.toList_ofList]
 kernel_rfl
set_option maxRecDepth 1000000 in
theorem jC1:(Rows.layoutAllRow.lifted == Tryz.prog.liftsFinal)=true:=by
 unfold Program.liftsFinal Program.headLifts
 rw [show Tryz.prog.initOrder=String.ofList _ from rfl,String.toList_ofList]
 kernel_rfl
theorem zEJ{b c d e:Bool}(h1:b=true)(h2:c=true)(h3:d=true)(h4:e=true):(b&&c&&d&&e)=true:=by rw [h1,h2,h3,h4];rfl
theorem zGX{f g h i j k:Bool}(h1:f=true)(h2:(g&&h&&i&&j&&k)=true):(f&&g&&h&&i&&j&&k)=true:=by rw [h1];simpa using h2
theorem jB:(fun (P:Program) (_:FuncId) (_:Func) (_:ChangeSpec) (c:OpenClaim)=>(c.plainKeys == P.plainKeys)&&c.shortTexts.isNone&&P.stopsHeard&&P.mayEnter) Tryz.prog 8 Tryz.f8 Rows.layoutAllSpec Rows.layoutAllRow=true:=zEJ jB1 jB2 jB3 jB4
theorem jC:(fun (P:Program) (_:FuncId) (fn:Func) (s:ChangeSpec) (c:OpenClaim)=>(c.lifted == P.liftsFinal)&&(P.make == some c.make)&&(c.kinds == (if c.domain.isEmpty then [] else fn.params.toList.map fun t=>match P.underlying t with |some (.int k)=>some k |_=>none))&&(c.pinned == c.pinnedBy)&&(c.veiled == (fn.params.toList++s.plain.varTypes P++fn.resultTypes.toList).any (P.veiledRec ·))&&c.veiledFits P fn.params.toList (fn.params.toList++s.plain.varTypes P++fn.resultTypes.toList)) Tryz.prog 8 Tryz.f8 Rows.layoutAllSpec Rows.layoutAllRow=true:=zGX jC1 jC2
theorem zBb{a b c d e f g h i j k:Bool}(h1:a=true)(h2:(b&&c&&d&&e)=true)(h3:(f&&g&&h&&i&&j&&k)=true):(a&&b&&c&&d&&e&&f&&g&&h&&i&&j&&k)=true:=by
 simp only [Bool.and_eq_true] at h2 h3 ⊢
 exact ⟨⟨⟨⟨⟨⟨⟨⟨⟨⟨h1,h2.1.1.1⟩,h2.1.1.2⟩,h2.1.2⟩,h2.2⟩,h3.1.1.1.1.1⟩,h3.1.1.1.1.2⟩,h3.1.1.1.2⟩,h3.1.1.2⟩,h3.1.2⟩,h3.2⟩
theorem zBd{P:Program}{f:FuncId}{fn:Func}{s:ChangeSpec}{c:OpenClaim}(hA:(c.wf (OpenSpec.ofChange s)&&laidOutB P&&mapsRowed P&&fn.params.all (P.readableRec ·)&&namedTie P c.named s.vars&&(c.stops == [])&&(P.stops == [])&&(c.knobs == [])&&(P.stopKnobs == [])&&(c.inPlace == P.inPlace f)&&(c.unfollowed == P.unfollowed f)&&(c.recurses == P.recurses f)&&(c.named == P.varsNamed f)&&(c.maps == (fn.params.toList++s.plain.varTypes P).any (P.mapsRec ·))&&(c.ifaces == (fn.params.toList++s.plain.varTypes P).any (P.ifacesRec ·))&&(c.mapsOut == P.mapsAmong fn.resultTypes.toList)&&(c.loops == (fn.params.toList++s.plain.varTypes P).any (P.loopsFrom ·))&&(c.wideKeys == (fn.params.toList++s.plain.varTypes P++fn.resultTypes.toList).any (P.wideKeysFrom ·))&&s.vars.all (P.varReadable ·)&&fn.resultTypes.all (fun t=>P.readableRec t&&decide (t<P.types.size))&&(c.ifacesOut == fn.resultTypes.toList.any (P.ifacesRec ·))&&(c.loopsOut == fn.resultTypes.toList.any (P.loopsFrom ·)))=true)(hB:((c.plainKeys == P.plainKeys)&&c.shortTexts.isNone&&P.stopsHeard&&P.mayEnter)=true)(hC:((c.lifted == P.liftsFinal)&&(P.make == some c.make)&&(c.kinds == (if c.domain.isEmpty then [] else fn.params.toList.map fun t=>match P.underlying t with |some (.int k)=>some k |_=>none))&&(c.pinned == c.pinnedBy)&&(c.veiled == (fn.params.toList++s.plain.varTypes P++fn.resultTypes.toList).any (P.veiledRec ·))&&c.veiledFits P fn.params.toList (fn.params.toList++s.plain.varTypes P++fn.resultTypes.toList))=true):joinedFacts P f fn s c=true:=by
 unfold joinedFacts
 exact zBb hA hB hC
theorem zBc:joinedFacts Tryz.prog 8 Tryz.f8 Rows.layoutAllSpec Rows.layoutAllRow=true:=zBd jA jB jC
theorem layoutAll_holds:Rows.LayoutAllSaid:=
 OpenClaim.holds_of_wide 8 Tryz.f8 rfl rfl rfl rfl rfl rfl rfl ⟨rfl,rfl,rfl,rfl,rfl⟩ rfl rfl rfl rfl rfl (by kernel_rfl) Tryz.func8 zBc
  (of_decide_eq_true (by kernel_rfl)) (by unfold Func.isWrapper;first |(rw [if_pos (by decide +kernel)];kernel_rfl) |(rw [if_neg (by decide +kernel)];exact ⟨rfl,rfl⟩))
  (fun os started H enc _=>zsH os started H enc)
end
end Go.Proofs.YthmnlfenkhmmhaaGreat
