/- VerifyTurn: for every input the law returns true, and each argument reads as it read before. No further condition. Part 8 of 8. -/
import Derived.Test.YthmnlfenkhmmhaaGreatTv7
import Derived.Test.YthmnlfenkhmmhaaGreatRows
namespace Go.Proofs.YthmnlfenkhmmhaaGreat
section
open Go.ChangeShapes Go.WideShapes Go.ChangeAt Go.RowKit Go.WideMaps Go.WideElems
open Go.ChangeMaps (open_string shut_string)
set_option maxRecDepth 100000 in
theorem zno(os:Os)(started:os.Started)(H:Type)(enc:TypeId×Value→H):
  ReturnsInHanded {} Tryz.checked os 6 .any (Rows.verifyTurnSpec.pre6 enc Tryz.prog Tryz.f6 Rows.verifyTurnRow.domain false) (Rows.verifyTurnSpec.post enc Tryz.prog Tryz.f6 false true false false):=by
 haveI:Flo:=⟨0⟩
 refine returnsInHanded_of_change (C:=Tryz.checked) Tryz.ownNot started (by kernel_rfl) Tryz.func6
  (ChangeSpec.witness6 (enc:=enc) (C:=Tryz.checked) false ⟨#[],#[.slice none 0 0,.int .i64 0,.int .i64 0,.int .i64 0,.agg #[.int .i64 0,.int .i64 0,.string ⟨#[]⟩,.string ⟨#[]⟩],.string ⟨#[]⟩],[]⟩ 12 (by kernel_rfl) (by kernel_rfl) (by kernel_rfl) (by kernel_rfl)) ?_
 intro W base args ds gs before hval0 hW hcnd _
 letI:Flo:=⟨W.heap.size⟩
 have hval:∀(j:Nat) t v,Tryz.f6.params[j]?=some t→args[j]?=some v→Value.okWide Tryz.prog W .any base t v:=hval0
 have hW':=hW
 obtain ⟨p,q,hA0,hV,rfl,hfz,hnd⟩:=hW
 have hA:DataW.TrodAll enc Tryz.prog W 0 (fun _=>true) true Tryz.f6.params.toList args.toList ds p:=hA0
 have hts:Tryz.f6.params.toList.all (fun t=>Tryz.prog.readableRec t&&decide (t<Tryz.prog.types.size))=true:=by kernel_rfl
 rw [Tryz.params6] at hA hval
 obtain ⟨v0,vs0,d0,ds0,p0,q0,hargs,rfl,rfl,h0,r0⟩:=trodAll_cons hA
 obtain ⟨v1,vs1,d1,ds1,p1,q1,rfl,rfl,rfl,h1,r1⟩:=trodAll_cons r0
 obtain ⟨v2,vs2,d2,ds2,p2,q2,rfl,rfl,rfl,h2,r2⟩:=trodAll_cons r1
 obtain ⟨v3,vs3,d3,ds3,p3,q3,rfl,rfl,rfl,h3,r3⟩:=trodAll_cons r2
 obtain ⟨v4,vs4,d4,ds4,p4,q4,rfl,rfl,rfl,h4,r4⟩:=trodAll_cons r3
 obtain ⟨v5,vs5,d5,ds5,p5,q5,rfl,rfl,rfl,h5,r5⟩:=trodAll_cons r4
 obtain ⟨rfl,rfl,rfl⟩:=trodAll_nil r5
 obtain rfl:args=#[v0,v1,v2,v3,v4,v5]:=by cases args;simp_all
 obtain ⟨rfl,rfl⟩:=trodVars_none hV
 simp only [List.append_nil] at hW'
 have hlt:=hW'.lt
 obtain ⟨z0,hz0⟩:=okWide_slice Tryz.underlying46 (hval 0 46 v0 rfl rfl)
 obtain ⟨a0,g0,y0⟩:=zuc rfl (n:=9) (by kernel_rfl) h0 (fun x hx=>hlt x (by simp [hx]))
 obtain ⟨x0,rfl,w0⟩:=gdL (k:=6) Tryz.underlying46 (by kernel_rfl) (fun h=>zuQ h) g0
 have y0':=zz6 y0 (by obtain ⟨_,_,rfl⟩:=hz0;rfl)
 obtain ⟨x1,rfl,rfl,rfl,w1⟩:=open_int Tryz.underlying3 (hval 1 3 v1 rfl rfl) h1
 obtain ⟨x2,rfl,rfl,rfl,w2⟩:=open_int Tryz.underlying3 (hval 2 3 v2 rfl rfl) h2
 obtain ⟨x3,rfl,rfl,rfl,w3⟩:=open_int Tryz.underlying3 (hval 3 3 v3 rfl rfl) h3
 obtain ⟨z4,rfl⟩:=zqA Tryz.underlying40 (hval 4 40 v4 rfl rfl)
 obtain ⟨a4,g4,y4⟩:=zuc rfl (n:=3) (by kernel_rfl) h4 (fun x hx=>hlt x (by simp [hx]))
 obtain ⟨x4,rfl,w4⟩:=ztL g4
 have y4':=zz5 y4
 obtain ⟨x5,rfl,rfl,rfl,w5⟩:=open_string Tryz.underlying9 (hval 5 9 v5 rfl rfl) h5
 refine ((zpc x0 x1 x2 x3 x4 x5.data.toList w0 w1 w2 w3 w4 w5).truly rfl (zll y0' (zll (.lit _) (zll (.lit _) (zll (.lit _) (zll y4' (zll (.lit _) zA8))))))).mono fun e W' ⟨he,hg⟩=>⟨.bool true,he,?_⟩
 exact zw4 Tryz.laidOut hW' hg hts rfl rfl Tryz.underlying4 rfl
theorem zpk{a b:Bool}(h:a=true)(k:b=true):(a&&b)=true:=by rw [h,k];rfl
theorem jA0:(Rows.verifyTurnRow.wf (OpenSpec.ofChange Rows.verifyTurnSpec))=true:=by kernel_rfl
theorem jA1:(laidOutB Tryz.prog)=true:=by kernel_rfl
theorem jA2:(mapsRowed Tryz.prog)=true:=by kernel_rfl
theorem jA3:(Tryz.f6.params.all (Tryz.prog.readableRec ·))=true:=by kernel_rfl
theorem jA4:(namedTie Tryz.prog Rows.verifyTurnRow.named Rows.verifyTurnSpec.vars)=true:=by kernel_rfl
theorem jA5:((Rows.verifyTurnRow.stops == []))=true:=by kernel_rfl
theorem jA6:((Tryz.prog.stops == []))=true:=by kernel_rfl
theorem jA7:((Rows.verifyTurnRow.knobs == []))=true:=by kernel_rfl
theorem jA8:((Tryz.prog.stopKnobs == []))=true:=by kernel_rfl
theorem jA9:((Rows.verifyTurnRow.inPlace == Tryz.prog.inPlace 6))=true:=by kernel_rfl
theorem zDj:((Rows.verifyTurnRow.unfollowed == Tryz.prog.unfollowed 6))=true:=by kernel_rfl
theorem zDk:((Rows.verifyTurnRow.recurses == Tryz.prog.recurses 6))=true:=by kernel_rfl
theorem zDl:((Rows.verifyTurnRow.named == Tryz.prog.varsNamed 6))=true:=by kernel_rfl
theorem zDm:((Rows.verifyTurnRow.maps == (Tryz.f6.params.toList++Rows.verifyTurnSpec.plain.varTypes Tryz.prog).any (Tryz.prog.mapsRec ·)))=true:=by kernel_rfl
theorem zDn:((Rows.verifyTurnRow.ifaces == (Tryz.f6.params.toList++Rows.verifyTurnSpec.plain.varTypes Tryz.prog).any (Tryz.prog.ifacesRec ·)))=true:=by kernel_rfl
theorem zDo:((Rows.verifyTurnRow.mapsOut == Tryz.prog.mapsAmong Tryz.f6.resultTypes.toList))=true:=by kernel_rfl
theorem zDp:((Rows.verifyTurnRow.loops == (Tryz.f6.params.toList++Rows.verifyTurnSpec.plain.varTypes Tryz.prog).any (Tryz.prog.loopsFrom ·)))=true:=by kernel_rfl
theorem zDq:((Rows.verifyTurnRow.wideKeys == (Tryz.f6.params.toList++Rows.verifyTurnSpec.plain.varTypes Tryz.prog++Tryz.f6.resultTypes.toList).any (Tryz.prog.wideKeysFrom ·)))=true:=by kernel_rfl
theorem zDr:(Rows.verifyTurnSpec.vars.all (Tryz.prog.varReadable ·))=true:=by kernel_rfl
theorem zDs:(Tryz.f6.resultTypes.all (fun t=>Tryz.prog.readableRec t&&decide (t<Tryz.prog.types.size)))=true:=by kernel_rfl
theorem zDt:((Rows.verifyTurnRow.ifacesOut == Tryz.f6.resultTypes.toList.any (Tryz.prog.ifacesRec ·)))=true:=by kernel_rfl
theorem zDu:((Rows.verifyTurnRow.loopsOut == Tryz.f6.resultTypes.toList.any (Tryz.prog.loopsFrom ·)))=true:=by kernel_rfl
theorem jA:(fun (P:Program) (f:FuncId) (fn:Func) (s:ChangeSpec) (c:OpenClaim)=>c.wf (OpenSpec.ofChange s)&&laidOutB P&&mapsRowed P&&fn.params.all (P.readableRec ·)&&namedTie P c.named s.vars&&(c.stops == [])&&(P.stops == [])&&(c.knobs == [])&&(P.stopKnobs == [])&&(c.inPlace == P.inPlace f)&&(c.unfollowed == P.unfollowed f)&&(c.recurses == P.recurses f)&&(c.named == P.varsNamed f)&&(c.maps == (fn.params.toList++s.plain.varTypes P).any (P.mapsRec ·))&&(c.ifaces == (fn.params.toList++s.plain.varTypes P).any (P.ifacesRec ·))&&(c.mapsOut == P.mapsAmong fn.resultTypes.toList)&&(c.loops == (fn.params.toList++s.plain.varTypes P).any (P.loopsFrom ·))&&(c.wideKeys == (fn.params.toList++s.plain.varTypes P++fn.resultTypes.toList).any (P.wideKeysFrom ·))&&s.vars.all (P.varReadable ·)&&fn.resultTypes.all (fun t=>P.readableRec t&&decide (t<P.types.size))&&(c.ifacesOut == fn.resultTypes.toList.any (P.ifacesRec ·))&&(c.loopsOut == fn.resultTypes.toList.any (P.loopsFrom ·))) Tryz.prog 6 Tryz.f6 Rows.verifyTurnSpec Rows.verifyTurnRow=true:=(zpk (zpk (zpk (zpk (zpk (zpk (zpk (zpk (zpk (zpk (zpk (zpk (zpk (zpk (zpk (zpk (zpk (zpk (zpk (zpk (zpk jA0 jA1) jA2) jA3) jA4) jA5) jA6) jA7) jA8) jA9) zDj) zDk) zDl) zDm) zDn) zDo) zDp) zDq) zDr) zDs) zDt) zDu)
theorem jB1:(fun (P:Program) (_:FuncId) (_:Func) (_:ChangeSpec) (c:OpenClaim)=>(c.plainKeys == P.plainKeys)) Tryz.prog 6 Tryz.f6 Rows.verifyTurnSpec Rows.verifyTurnRow=true:=by kernel_rfl
theorem jB2:(fun (_:Program) (_:FuncId) (_:Func) (_:ChangeSpec) (c:OpenClaim)=>c.shortTexts.isNone) Tryz.prog 6 Tryz.f6 Rows.verifyTurnSpec Rows.verifyTurnRow=true:=by kernel_rfl
theorem jB3:(fun (P:Program) (_:FuncId) (_:Func) (_:ChangeSpec) (_:OpenClaim)=>P.stopsHeard) Tryz.prog 6 Tryz.f6 Rows.verifyTurnSpec Rows.verifyTurnRow=true:=by kernel_rfl
theorem jC2:(fun (P:Program) (_:FuncId) (fn:Func) (s:ChangeSpec) (c:OpenClaim)=>(P.make == some c.make)&&(c.kinds == (if c.domain.isEmpty then [] else fn.params.toList.map fun t=>match P.underlying t with |some (.int k)=>some k |_=>none))&&(c.pinned == c.pinnedBy)&&(c.veiled == (fn.params.toList++s.plain.varTypes P++fn.resultTypes.toList).any (P.veiledRec ·))&&c.veiledFits P fn.params.toList (fn.params.toList++s.plain.varTypes P++fn.resultTypes.toList)) Tryz.prog 6 Tryz.f6 Rows.verifyTurnSpec Rows.verifyTurnRow=true:=by kernel_rfl
set_option maxRecDepth 1000000 in
theorem jB4:Tryz.prog.mayEnter=true:=by
 unfold Program.mayEnter
 rw [show Tryz.prog.initOrder=String.ofList _ from rfl,String.toList_ofList]
 kernel_rfl
set_option maxRecDepth 1000000 in
theorem jC1:(Rows.verifyTurnRow.lifted == Tryz.prog.liftsFinal)=true:=by
 unfold Program.liftsFinal Program.headLifts
 rw [show Tryz.prog.initOrder=String.ofList _ from rfl,String.toList_ofList]
 kernel_rfl
theorem zya{b c d e:Bool}(h1:b=true)(h2:c=true)(h3:d=true)(h4:e=true):(b&&c&&d&&e)=true:=by rw [h1,h2,h3,h4];rfl
theorem zz4{f g h i j k:Bool}(h1:f=true)(h2:(g&&h&&i&&j&&k)=true):(f&&g&&h&&i&&j&&k)=true:=by rw [h1];simpa using h2
theorem jB:(fun (P:Program) (_:FuncId) (_:Func) (_:ChangeSpec) (c:OpenClaim)=>(c.plainKeys == P.plainKeys)&&c.shortTexts.isNone&&P.stopsHeard&&P.mayEnter) Tryz.prog 6 Tryz.f6 Rows.verifyTurnSpec Rows.verifyTurnRow=true:=zya jB1 jB2 jB3 jB4
theorem jC:(fun (P:Program) (_:FuncId) (fn:Func) (s:ChangeSpec) (c:OpenClaim)=>(c.lifted == P.liftsFinal)&&(P.make == some c.make)&&(c.kinds == (if c.domain.isEmpty then [] else fn.params.toList.map fun t=>match P.underlying t with |some (.int k)=>some k |_=>none))&&(c.pinned == c.pinnedBy)&&(c.veiled == (fn.params.toList++s.plain.varTypes P++fn.resultTypes.toList).any (P.veiledRec ·))&&c.veiledFits P fn.params.toList (fn.params.toList++s.plain.varTypes P++fn.resultTypes.toList)) Tryz.prog 6 Tryz.f6 Rows.verifyTurnSpec Rows.verifyTurnRow=true:=zz4 jC1 jC2
theorem zuU{a b c d e f g h i j k:Bool}(h1:a=true)(h2:(b&&c&&d&&e)=true)(h3:(f&&g&&h&&i&&j&&k)=true):(a&&b&&c&&d&&e&&f&&g&&h&&i&&j&&k)=true:=by
 simp only [Bool.and_eq_true] at h2 h3 ⊢
 exact ⟨⟨⟨⟨⟨⟨⟨⟨⟨⟨h1,h2.1.1.1⟩,h2.1.1.2⟩,h2.1.2⟩,h2.2⟩,h3.1.1.1.1.1⟩,h3.1.1.1.1.2⟩,h3.1.1.1.2⟩,h3.1.1.2⟩,h3.1.2⟩,h3.2⟩
theorem zuW{P:Program}{f:FuncId}{fn:Func}{s:ChangeSpec}{c:OpenClaim}(hA:(c.wf (OpenSpec.ofChange s)&&laidOutB P&&mapsRowed P&&fn.params.all (P.readableRec ·)&&namedTie P c.named s.vars&&(c.stops == [])&&(P.stops == [])&&(c.knobs == [])&&(P.stopKnobs == [])&&(c.inPlace == P.inPlace f)&&(c.unfollowed == P.unfollowed f)&&(c.recurses == P.recurses f)&&(c.named == P.varsNamed f)&&(c.maps == (fn.params.toList++s.plain.varTypes P).any (P.mapsRec ·))&&(c.ifaces == (fn.params.toList++s.plain.varTypes P).any (P.ifacesRec ·))&&(c.mapsOut == P.mapsAmong fn.resultTypes.toList)&&(c.loops == (fn.params.toList++s.plain.varTypes P).any (P.loopsFrom ·))&&(c.wideKeys == (fn.params.toList++s.plain.varTypes P++fn.resultTypes.toList).any (P.wideKeysFrom ·))&&s.vars.all (P.varReadable ·)&&fn.resultTypes.all (fun t=>P.readableRec t&&decide (t<P.types.size))&&(c.ifacesOut == fn.resultTypes.toList.any (P.ifacesRec ·))&&(c.loopsOut == fn.resultTypes.toList.any (P.loopsFrom ·)))=true)(hB:((c.plainKeys == P.plainKeys)&&c.shortTexts.isNone&&P.stopsHeard&&P.mayEnter)=true)(hC:((c.lifted == P.liftsFinal)&&(P.make == some c.make)&&(c.kinds == (if c.domain.isEmpty then [] else fn.params.toList.map fun t=>match P.underlying t with |some (.int k)=>some k |_=>none))&&(c.pinned == c.pinnedBy)&&(c.veiled == (fn.params.toList++s.plain.varTypes P++fn.resultTypes.toList).any (P.veiledRec ·))&&c.veiledFits P fn.params.toList (fn.params.toList++s.plain.varTypes P++fn.resultTypes.toList))=true):joinedFacts P f fn s c=true:=by
 unfold joinedFacts
 exact zuU hA hB hC
theorem zuV:joinedFacts Tryz.prog 6 Tryz.f6 Rows.verifyTurnSpec Rows.verifyTurnRow=true:=zuW jA jB jC
theorem verifyTurn_holds:Rows.VerifyTurnSaid:=
 OpenClaim.holds_of_wide 6 Tryz.f6 rfl rfl rfl rfl rfl rfl rfl ⟨rfl,rfl,rfl,rfl,rfl⟩ rfl rfl rfl rfl rfl (by kernel_rfl) Tryz.func6 zuV
  (of_decide_eq_true (by kernel_rfl)) (by unfold Func.isWrapper;first |(rw [if_pos (by decide +kernel)];kernel_rfl) |(rw [if_neg (by decide +kernel)];exact ⟨rfl,rfl⟩))
  (fun os started H enc _=>zno os started H enc)
end
end Go.Proofs.YthmnlfenkhmmhaaGreat
