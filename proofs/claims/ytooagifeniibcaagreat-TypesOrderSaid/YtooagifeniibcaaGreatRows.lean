/-
  No cell of these rows narrows 'for every input' (looked for: loops, veiled, ifaces, maps, wideKeys, modest, calm, conditions, laid).
  DERIVED. THE GIVEN ROWS OF THIS SEAT. 15 by the template 'for every input the law returns true; each argument reads behind the call as it read before'; 0 by the template 'total and deterministic' (their statements: YtooagifeniibcaaGreatTotals.lean).
  GIVEN WITH THE SEED: the statements are not yours to turn. If you find one false, say at which input.
  Laid BY PROGRAM, IN A SANDBOX (cutbox-rows.mjs): the forced cells as the released guide's own fill.sh prints them over the translation 0149c7eda878e2e1… (all of the seat's roots in one cut). By AI agents, Wed Nov 11 2026. No macro, syntax, notation, axiom, sorry.
-/
import Derived.Test.YtooagifeniibcaaGreatChecked
import GoSem.Claim
import GoSem.ClaimJoined
import GoSem.ClaimMapViews
import Derived.JoinedTies
import Derived.KernelRfl
namespace Go.Proofs.YtooagifeniibcaaGreat
/- THE CELL 'sum', in the pinned program and in every row, IS THE sha256 OF THE DUMP (.gsa) THAT YtooagifeniibcaaGreatProg.lean LOADS. Nothing in Lean hashes anything: it is a label: what it is worth is what the hold of that sum in a sandbox is worth. -/
noncomputable def Tryz.pinned : Pinned := { name := "ytooagifeniibcaagreat", sum := "0149c7eda878e2e1596d92257c9bfacd824767cbb9395d2fb8d726cf769d826a", checked := Tryz.checked }
namespace Rows
def none {H : Type} : Left H := { results := [], args := [] }

/-- 'daguerrelaw7.HierSub': WHATEVER THE INPUT: true; the input reads as it did. -/
def hierSubSpec : ChangeSpec := { name := "hierSub", fn := fun _ => fun
  | [d1, d2] => { results := [.lit (.bool true)], args := [d1, d2] }
  | _ => none }
def hierSubRow : OpenClaim := { program := "ytooagifeniibcaagreat", sum := "0149c7eda878e2e1596d92257c9bfacd824767cbb9395d2fb8d726cf769d826a", func := "daguerre/daguerrelaw7.HierSub", spec := "hierSub", unfollowed := true, recurses := true, apart := false }
def HierSubSaid : Prop := hierSubRow.holds Tryz.pinned (OpenSpec.ofChange hierSubSpec)

/-- ITS FALSE NEIGHBOUR: 'it returns false'. Refute it at one input. -/
def hierSubWrong : ChangeSpec := { name := "hierSub", fn := fun _ => fun
  | [d1, d2] => { results := [.lit (.bool false)], args := [d1, d2] }
  | _ => none }
def HierSubWrongFalsely : Prop := hierSubRow.holds Tryz.pinned (OpenSpec.ofChange hierSubWrong)

/-- 'daguerrelaw7.HierOrder': WHATEVER THE INPUT: true; the input reads as it did. -/
def hierOrderSpec : ChangeSpec := { name := "hierOrder", fn := fun _ => fun
  | [d] => { results := [.lit (.bool true)], args := [d] }
  | _ => none }
def hierOrderRow : OpenClaim := { program := "ytooagifeniibcaagreat", sum := "0149c7eda878e2e1596d92257c9bfacd824767cbb9395d2fb8d726cf769d826a", func := "daguerre/daguerrelaw7.HierOrder", spec := "hierOrder", unfollowed := true, recurses := true, apart := false }
def HierOrderSaid : Prop := hierOrderRow.holds Tryz.pinned (OpenSpec.ofChange hierOrderSpec)

/-- ITS FALSE NEIGHBOUR: 'it returns false'. Refute it at one input. -/
def hierOrderWrong : ChangeSpec := { name := "hierOrder", fn := fun _ => fun
  | [d] => { results := [.lit (.bool false)], args := [d] }
  | _ => none }
def HierOrderWrongFalsely : Prop := hierOrderRow.holds Tryz.pinned (OpenSpec.ofChange hierOrderWrong)

/-- 'daguerrelaw7.HierRing': WHATEVER THE INPUT: true; the input reads as it did. -/
def hierRingSpec : ChangeSpec := { name := "hierRing", fn := fun _ => fun
  | [d1, d2, d3] => { results := [.lit (.bool true)], args := [d1, d2, d3] }
  | _ => none }
def hierRingRow : OpenClaim := { program := "ytooagifeniibcaagreat", sum := "0149c7eda878e2e1596d92257c9bfacd824767cbb9395d2fb8d726cf769d826a", func := "daguerre/daguerrelaw7.HierRing", spec := "hierRing", unfollowed := true, recurses := true, apart := false }
def HierRingSaid : Prop := hierRingRow.holds Tryz.pinned (OpenSpec.ofChange hierRingSpec)

/-- ITS FALSE NEIGHBOUR: 'it returns false'. Refute it at one input. -/
def hierRingWrong : ChangeSpec := { name := "hierRing", fn := fun _ => fun
  | [d1, d2, d3] => { results := [.lit (.bool false)], args := [d1, d2, d3] }
  | _ => none }
def HierRingWrongFalsely : Prop := hierRingRow.holds Tryz.pinned (OpenSpec.ofChange hierRingWrong)

/-- 'daguerrelaw7.HierDiamond': WHATEVER THE INPUT: true; the input reads as it did. -/
def hierDiamondSpec : ChangeSpec := { name := "hierDiamond", fn := fun _ => fun
  | [d1, d2] => { results := [.lit (.bool true)], args := [d1, d2] }
  | _ => none }
def hierDiamondRow : OpenClaim := { program := "ytooagifeniibcaagreat", sum := "0149c7eda878e2e1596d92257c9bfacd824767cbb9395d2fb8d726cf769d826a", func := "daguerre/daguerrelaw7.HierDiamond", spec := "hierDiamond", unfollowed := true, recurses := true, apart := false }
def HierDiamondSaid : Prop := hierDiamondRow.holds Tryz.pinned (OpenSpec.ofChange hierDiamondSpec)

/-- ITS FALSE NEIGHBOUR: 'it returns false'. Refute it at one input. -/
def hierDiamondWrong : ChangeSpec := { name := "hierDiamond", fn := fun _ => fun
  | [d1, d2] => { results := [.lit (.bool false)], args := [d1, d2] }
  | _ => none }
def HierDiamondWrongFalsely : Prop := hierDiamondRow.holds Tryz.pinned (OpenSpec.ofChange hierDiamondWrong)

/-- 'daguerrelaw7.HierGiven': WHATEVER THE INPUT: true; the input reads as it did. -/
def hierGivenSpec : ChangeSpec := { name := "hierGiven", fn := fun _ => fun
  | [d1, d2] => { results := [.lit (.bool true)], args := [d1, d2] }
  | _ => none }
def hierGivenRow : OpenClaim := { program := "ytooagifeniibcaagreat", sum := "0149c7eda878e2e1596d92257c9bfacd824767cbb9395d2fb8d726cf769d826a", func := "daguerre/daguerrelaw7.HierGiven", spec := "hierGiven", unfollowed := true, recurses := true, apart := false }
def HierGivenSaid : Prop := hierGivenRow.holds Tryz.pinned (OpenSpec.ofChange hierGivenSpec)

/-- ITS FALSE NEIGHBOUR: 'it returns false'. Refute it at one input. -/
def hierGivenWrong : ChangeSpec := { name := "hierGiven", fn := fun _ => fun
  | [d1, d2] => { results := [.lit (.bool false)], args := [d1, d2] }
  | _ => none }
def HierGivenWrongFalsely : Prop := hierGivenRow.holds Tryz.pinned (OpenSpec.ofChange hierGivenWrong)

/-- 'daguerrelaw7.HierAll': WHATEVER THE INPUT: true; the input reads as it did. -/
def hierAllSpec : ChangeSpec := { name := "hierAll", fn := fun _ => fun
  | [d1, d2] => { results := [.lit (.bool true)], args := [d1, d2] }
  | _ => none }
def hierAllRow : OpenClaim := { program := "ytooagifeniibcaagreat", sum := "0149c7eda878e2e1596d92257c9bfacd824767cbb9395d2fb8d726cf769d826a", func := "daguerre/daguerrelaw7.HierAll", spec := "hierAll", unfollowed := true, recurses := true, apart := false }
def HierAllSaid : Prop := hierAllRow.holds Tryz.pinned (OpenSpec.ofChange hierAllSpec)

/-- ITS FALSE NEIGHBOUR: 'it returns false'. Refute it at one input. -/
def hierAllWrong : ChangeSpec := { name := "hierAll", fn := fun _ => fun
  | [d1, d2] => { results := [.lit (.bool false)], args := [d1, d2] }
  | _ => none }
def HierAllWrongFalsely : Prop := hierAllRow.holds Tryz.pinned (OpenSpec.ofChange hierAllWrong)

/-- 'daguerrelaw7.HierNone': WHATEVER THE INPUT: true; the input reads as it did. -/
def hierNoneSpec : ChangeSpec := { name := "hierNone", fn := fun _ => fun
  | [] => { results := [.lit (.bool true)], args := [] }
  | _ => none }
def hierNoneRow : OpenClaim := { program := "ytooagifeniibcaagreat", sum := "0149c7eda878e2e1596d92257c9bfacd824767cbb9395d2fb8d726cf769d826a", func := "daguerre/daguerrelaw7.HierNone", spec := "hierNone", unfollowed := true, recurses := true, apart := false }
def HierNoneSaid : Prop := hierNoneRow.holds Tryz.pinned (OpenSpec.ofChange hierNoneSpec)

/-- ITS FALSE NEIGHBOUR: 'it returns false'. Refute it at one input. -/
def hierNoneWrong : ChangeSpec := { name := "hierNone", fn := fun _ => fun
  | [] => { results := [.lit (.bool false)], args := [] }
  | _ => none }
def HierNoneWrongFalsely : Prop := hierNoneRow.holds Tryz.pinned (OpenSpec.ofChange hierNoneWrong)

/-- 'daguerrelaw8.LinkAll': WHATEVER THE INPUT: true; the input reads as it did. -/
def linkAllSpec : ChangeSpec := { name := "linkAll", fn := fun _ => fun
  | [d1, d2] => { results := [.lit (.bool true)], args := [d1, d2] }
  | _ => none }
def linkAllRow : OpenClaim := { program := "ytooagifeniibcaagreat", sum := "0149c7eda878e2e1596d92257c9bfacd824767cbb9395d2fb8d726cf769d826a", func := "daguerre/daguerrelaw8.LinkAll", spec := "linkAll", unfollowed := true, recurses := true, apart := false }
def LinkAllSaid : Prop := linkAllRow.holds Tryz.pinned (OpenSpec.ofChange linkAllSpec)

/-- ITS FALSE NEIGHBOUR: 'it returns false'. Refute it at one input. -/
def linkAllWrong : ChangeSpec := { name := "linkAll", fn := fun _ => fun
  | [d1, d2] => { results := [.lit (.bool false)], args := [d1, d2] }
  | _ => none }
def LinkAllWrongFalsely : Prop := linkAllRow.holds Tryz.pinned (OpenSpec.ofChange linkAllWrong)

/-- 'daguerrelaw8.LinkDeep': WHATEVER THE INPUT: true; the input reads as it did. -/
def linkDeepSpec : ChangeSpec := { name := "linkDeep", fn := fun _ => fun
  | [d1, d2, d3] => { results := [.lit (.bool true)], args := [d1, d2, d3] }
  | _ => none }
def linkDeepRow : OpenClaim := { program := "ytooagifeniibcaagreat", sum := "0149c7eda878e2e1596d92257c9bfacd824767cbb9395d2fb8d726cf769d826a", func := "daguerre/daguerrelaw8.LinkDeep", spec := "linkDeep", unfollowed := true, recurses := true, apart := false }
def LinkDeepSaid : Prop := linkDeepRow.holds Tryz.pinned (OpenSpec.ofChange linkDeepSpec)

/-- ITS FALSE NEIGHBOUR: 'it returns false'. Refute it at one input. -/
def linkDeepWrong : ChangeSpec := { name := "linkDeep", fn := fun _ => fun
  | [d1, d2, d3] => { results := [.lit (.bool false)], args := [d1, d2, d3] }
  | _ => none }
def LinkDeepWrongFalsely : Prop := linkDeepRow.holds Tryz.pinned (OpenSpec.ofChange linkDeepWrong)

/-- 'daguerrelaw8.LinkAlike': WHATEVER THE INPUT: true; the input reads as it did. -/
def linkAlikeSpec : ChangeSpec := { name := "linkAlike", fn := fun _ => fun
  | [d1, d2] => { results := [.lit (.bool true)], args := [d1, d2] }
  | _ => none }
def linkAlikeRow : OpenClaim := { program := "ytooagifeniibcaagreat", sum := "0149c7eda878e2e1596d92257c9bfacd824767cbb9395d2fb8d726cf769d826a", func := "daguerre/daguerrelaw8.LinkAlike", spec := "linkAlike", unfollowed := true, recurses := true, apart := false }
def LinkAlikeSaid : Prop := linkAlikeRow.holds Tryz.pinned (OpenSpec.ofChange linkAlikeSpec)

/-- ITS FALSE NEIGHBOUR: 'it returns false'. Refute it at one input. -/
def linkAlikeWrong : ChangeSpec := { name := "linkAlike", fn := fun _ => fun
  | [d1, d2] => { results := [.lit (.bool false)], args := [d1, d2] }
  | _ => none }
def LinkAlikeWrongFalsely : Prop := linkAlikeRow.holds Tryz.pinned (OpenSpec.ofChange linkAlikeWrong)

/-- 'daguerrelaw8.LinkFaces': WHATEVER THE INPUT: true; the input reads as it did. -/
def linkFacesSpec : ChangeSpec := { name := "linkFaces", fn := fun _ => fun
  | [d1, d2] => { results := [.lit (.bool true)], args := [d1, d2] }
  | _ => none }
def linkFacesRow : OpenClaim := { program := "ytooagifeniibcaagreat", sum := "0149c7eda878e2e1596d92257c9bfacd824767cbb9395d2fb8d726cf769d826a", func := "daguerre/daguerrelaw8.LinkFaces", spec := "linkFaces", unfollowed := true, recurses := true, apart := false }
def LinkFacesSaid : Prop := linkFacesRow.holds Tryz.pinned (OpenSpec.ofChange linkFacesSpec)

/-- ITS FALSE NEIGHBOUR: 'it returns false'. Refute it at one input. -/
def linkFacesWrong : ChangeSpec := { name := "linkFaces", fn := fun _ => fun
  | [d1, d2] => { results := [.lit (.bool false)], args := [d1, d2] }
  | _ => none }
def LinkFacesWrongFalsely : Prop := linkFacesRow.holds Tryz.pinned (OpenSpec.ofChange linkFacesWrong)

/-- 'daguerrelaw8.LinkStatic': WHATEVER THE INPUT: true; the input reads as it did. -/
def linkStaticSpec : ChangeSpec := { name := "linkStatic", fn := fun _ => fun
  | [d1, d2] => { results := [.lit (.bool true)], args := [d1, d2] }
  | _ => none }
def linkStaticRow : OpenClaim := { program := "ytooagifeniibcaagreat", sum := "0149c7eda878e2e1596d92257c9bfacd824767cbb9395d2fb8d726cf769d826a", func := "daguerre/daguerrelaw8.LinkStatic", spec := "linkStatic", unfollowed := true, recurses := true, apart := false }
def LinkStaticSaid : Prop := linkStaticRow.holds Tryz.pinned (OpenSpec.ofChange linkStaticSpec)

/-- ITS FALSE NEIGHBOUR: 'it returns false'. Refute it at one input. -/
def linkStaticWrong : ChangeSpec := { name := "linkStatic", fn := fun _ => fun
  | [d1, d2] => { results := [.lit (.bool false)], args := [d1, d2] }
  | _ => none }
def LinkStaticWrongFalsely : Prop := linkStaticRow.holds Tryz.pinned (OpenSpec.ofChange linkStaticWrong)

/-- 'daguerrelaw9.TypesAll': WHATEVER THE INPUT: true; the input reads as it did. -/
def typesAllSpec : ChangeSpec := { name := "typesAll", fn := fun _ => fun
  | [d1, d2, d3, d4, d5, d6] => { results := [.lit (.bool true)], args := [d1, d2, d3, d4, d5, d6] }
  | _ => none }
def typesAllRow : OpenClaim := { program := "ytooagifeniibcaagreat", sum := "0149c7eda878e2e1596d92257c9bfacd824767cbb9395d2fb8d726cf769d826a", func := "daguerre/daguerrelaw9.TypesAll", spec := "typesAll", unfollowed := true, recurses := true, apart := false }
def TypesAllSaid : Prop := typesAllRow.holds Tryz.pinned (OpenSpec.ofChange typesAllSpec)

/-- ITS FALSE NEIGHBOUR: 'it returns false'. Refute it at one input. -/
def typesAllWrong : ChangeSpec := { name := "typesAll", fn := fun _ => fun
  | [d1, d2, d3, d4, d5, d6] => { results := [.lit (.bool false)], args := [d1, d2, d3, d4, d5, d6] }
  | _ => none }
def TypesAllWrongFalsely : Prop := typesAllRow.holds Tryz.pinned (OpenSpec.ofChange typesAllWrong)

/-- 'daguerrelaw9.TypesOrder': WHATEVER THE INPUT: true; the input reads as it did. -/
def typesOrderSpec : ChangeSpec := { name := "typesOrder", fn := fun _ => fun
  | [d1, d2] => { results := [.lit (.bool true)], args := [d1, d2] }
  | _ => none }
def typesOrderRow : OpenClaim := { program := "ytooagifeniibcaagreat", sum := "0149c7eda878e2e1596d92257c9bfacd824767cbb9395d2fb8d726cf769d826a", func := "daguerre/daguerrelaw9.TypesOrder", spec := "typesOrder", unfollowed := true, recurses := true, apart := false }
def TypesOrderSaid : Prop := typesOrderRow.holds Tryz.pinned (OpenSpec.ofChange typesOrderSpec)

/-- ITS FALSE NEIGHBOUR: 'it returns false'. Refute it at one input. -/
def typesOrderWrong : ChangeSpec := { name := "typesOrder", fn := fun _ => fun
  | [d1, d2] => { results := [.lit (.bool false)], args := [d1, d2] }
  | _ => none }
def TypesOrderWrongFalsely : Prop := typesOrderRow.holds Tryz.pinned (OpenSpec.ofChange typesOrderWrong)

/-- 'daguerrelaw9.TypesNull': WHATEVER THE INPUT: true; the input reads as it did. -/
def typesNullSpec : ChangeSpec := { name := "typesNull", fn := fun _ => fun
  | [d1, d2, d3] => { results := [.lit (.bool true)], args := [d1, d2, d3] }
  | _ => none }
def typesNullRow : OpenClaim := { program := "ytooagifeniibcaagreat", sum := "0149c7eda878e2e1596d92257c9bfacd824767cbb9395d2fb8d726cf769d826a", func := "daguerre/daguerrelaw9.TypesNull", spec := "typesNull", unfollowed := true, recurses := true, apart := false }
def TypesNullSaid : Prop := typesNullRow.holds Tryz.pinned (OpenSpec.ofChange typesNullSpec)

/-- ITS FALSE NEIGHBOUR: 'it returns false'. Refute it at one input. -/
def typesNullWrong : ChangeSpec := { name := "typesNull", fn := fun _ => fun
  | [d1, d2, d3] => { results := [.lit (.bool false)], args := [d1, d2, d3] }
  | _ => none }
def TypesNullWrongFalsely : Prop := typesNullRow.holds Tryz.pinned (OpenSpec.ofChange typesNullWrong)

/- THE SECOND FORM. 'bulk': how many values and letters a reading holds, each counted each time it is reached (what is shared counts as often as it is met; a slice's spare places count too). A statement '..UptoSaid' is the law's where the arguments, and the package variables that the reading takes, are together of bulk at most 1048576: NARROWER than '..Said'. Prove '..Said' where nothing that the law and all that it calls make is longer than what came in: it says more and counts as full. Else prove '..UptoSaid'. A law counts once. -/
mutual
def uptoBulk {H : Type} : DataW H → Nat
  | .lit (.string bytes) => bytes.length + 1
  | .lit _ => 1
  | .nil => 1
  | .ptr d => uptoBulk d + 1
  | .slice elems spare => uptoBulkAll elems + uptoBulkAll spare + 1
  | .agg parts => uptoBulkAll parts + 1
  | .iface _ d => uptoBulk d + 1
  | .map entries => uptoBulkEntries entries + 1
  | .held _ => 1
def uptoBulkAll {H : Type} : List (DataW H) → Nat
  | [] => 0
  | d :: r => uptoBulk d + uptoBulkAll r
def uptoBulkEntries {H : Type} : List (Lit × DataW H) → Nat
  | [] => 0
  | x :: r => uptoBulkEntry x + uptoBulkEntries r
def uptoBulkEntry {H : Type} : Lit × DataW H → Nat
  | (.string bytes, d) => bytes.length + uptoBulk d + 1
  | (_, d) => uptoBulk d + 1
 end
def uptoSmall : (H : Type) → List (DataW H) → Bool := fun _ ds => decide (uptoBulkAll ds ≤ 1048576)
def OpenSpec.upto (s : _root_.Go.ChangeSpec) : _root_.Go.OpenSpec := { _root_.Go.OpenSpec.ofChange s with cond := some uptoSmall }

/-- 'daguerrelaw7.HierSub', WHERE WHAT IT READS IS OF BULK AT MOST 1048576: true; the input reads as it did. -/
def hierSubUptoRow : OpenClaim := { program := "ytooagifeniibcaagreat", sum := "0149c7eda878e2e1596d92257c9bfacd824767cbb9395d2fb8d726cf769d826a", func := "daguerre/daguerrelaw7.HierSub", spec := "hierSub", unfollowed := true, recurses := true, apart := false, narrowed := true }
def HierSubUptoSaid : Prop := hierSubUptoRow.holds Tryz.pinned (OpenSpec.upto hierSubSpec)

/-- 'daguerrelaw7.HierOrder', WHERE WHAT IT READS IS OF BULK AT MOST 1048576: true; the input reads as it did. -/
def hierOrderUptoRow : OpenClaim := { program := "ytooagifeniibcaagreat", sum := "0149c7eda878e2e1596d92257c9bfacd824767cbb9395d2fb8d726cf769d826a", func := "daguerre/daguerrelaw7.HierOrder", spec := "hierOrder", unfollowed := true, recurses := true, apart := false, narrowed := true }
def HierOrderUptoSaid : Prop := hierOrderUptoRow.holds Tryz.pinned (OpenSpec.upto hierOrderSpec)

/-- 'daguerrelaw7.HierRing', WHERE WHAT IT READS IS OF BULK AT MOST 1048576: true; the input reads as it did. -/
def hierRingUptoRow : OpenClaim := { program := "ytooagifeniibcaagreat", sum := "0149c7eda878e2e1596d92257c9bfacd824767cbb9395d2fb8d726cf769d826a", func := "daguerre/daguerrelaw7.HierRing", spec := "hierRing", unfollowed := true, recurses := true, apart := false, narrowed := true }
def HierRingUptoSaid : Prop := hierRingUptoRow.holds Tryz.pinned (OpenSpec.upto hierRingSpec)

/-- 'daguerrelaw7.HierDiamond', WHERE WHAT IT READS IS OF BULK AT MOST 1048576: true; the input reads as it did. -/
def hierDiamondUptoRow : OpenClaim := { program := "ytooagifeniibcaagreat", sum := "0149c7eda878e2e1596d92257c9bfacd824767cbb9395d2fb8d726cf769d826a", func := "daguerre/daguerrelaw7.HierDiamond", spec := "hierDiamond", unfollowed := true, recurses := true, apart := false, narrowed := true }
def HierDiamondUptoSaid : Prop := hierDiamondUptoRow.holds Tryz.pinned (OpenSpec.upto hierDiamondSpec)

/-- 'daguerrelaw7.HierGiven', WHERE WHAT IT READS IS OF BULK AT MOST 1048576: true; the input reads as it did. -/
def hierGivenUptoRow : OpenClaim := { program := "ytooagifeniibcaagreat", sum := "0149c7eda878e2e1596d92257c9bfacd824767cbb9395d2fb8d726cf769d826a", func := "daguerre/daguerrelaw7.HierGiven", spec := "hierGiven", unfollowed := true, recurses := true, apart := false, narrowed := true }
def HierGivenUptoSaid : Prop := hierGivenUptoRow.holds Tryz.pinned (OpenSpec.upto hierGivenSpec)

/-- 'daguerrelaw7.HierAll', WHERE WHAT IT READS IS OF BULK AT MOST 1048576: true; the input reads as it did. -/
def hierAllUptoRow : OpenClaim := { program := "ytooagifeniibcaagreat", sum := "0149c7eda878e2e1596d92257c9bfacd824767cbb9395d2fb8d726cf769d826a", func := "daguerre/daguerrelaw7.HierAll", spec := "hierAll", unfollowed := true, recurses := true, apart := false, narrowed := true }
def HierAllUptoSaid : Prop := hierAllUptoRow.holds Tryz.pinned (OpenSpec.upto hierAllSpec)

/-- 'daguerrelaw7.HierNone', WHERE WHAT IT READS IS OF BULK AT MOST 1048576: true; the input reads as it did. -/
def hierNoneUptoRow : OpenClaim := { program := "ytooagifeniibcaagreat", sum := "0149c7eda878e2e1596d92257c9bfacd824767cbb9395d2fb8d726cf769d826a", func := "daguerre/daguerrelaw7.HierNone", spec := "hierNone", unfollowed := true, recurses := true, apart := false, narrowed := true }
def HierNoneUptoSaid : Prop := hierNoneUptoRow.holds Tryz.pinned (OpenSpec.upto hierNoneSpec)

/-- 'daguerrelaw8.LinkAll', WHERE WHAT IT READS IS OF BULK AT MOST 1048576: true; the input reads as it did. -/
def linkAllUptoRow : OpenClaim := { program := "ytooagifeniibcaagreat", sum := "0149c7eda878e2e1596d92257c9bfacd824767cbb9395d2fb8d726cf769d826a", func := "daguerre/daguerrelaw8.LinkAll", spec := "linkAll", unfollowed := true, recurses := true, apart := false, narrowed := true }
def LinkAllUptoSaid : Prop := linkAllUptoRow.holds Tryz.pinned (OpenSpec.upto linkAllSpec)

/-- 'daguerrelaw8.LinkDeep', WHERE WHAT IT READS IS OF BULK AT MOST 1048576: true; the input reads as it did. -/
def linkDeepUptoRow : OpenClaim := { program := "ytooagifeniibcaagreat", sum := "0149c7eda878e2e1596d92257c9bfacd824767cbb9395d2fb8d726cf769d826a", func := "daguerre/daguerrelaw8.LinkDeep", spec := "linkDeep", unfollowed := true, recurses := true, apart := false, narrowed := true }
def LinkDeepUptoSaid : Prop := linkDeepUptoRow.holds Tryz.pinned (OpenSpec.upto linkDeepSpec)

/-- 'daguerrelaw8.LinkAlike', WHERE WHAT IT READS IS OF BULK AT MOST 1048576: true; the input reads as it did. -/
def linkAlikeUptoRow : OpenClaim := { program := "ytooagifeniibcaagreat", sum := "0149c7eda878e2e1596d92257c9bfacd824767cbb9395d2fb8d726cf769d826a", func := "daguerre/daguerrelaw8.LinkAlike", spec := "linkAlike", unfollowed := true, recurses := true, apart := false, narrowed := true }
def LinkAlikeUptoSaid : Prop := linkAlikeUptoRow.holds Tryz.pinned (OpenSpec.upto linkAlikeSpec)

/-- 'daguerrelaw8.LinkFaces', WHERE WHAT IT READS IS OF BULK AT MOST 1048576: true; the input reads as it did. -/
def linkFacesUptoRow : OpenClaim := { program := "ytooagifeniibcaagreat", sum := "0149c7eda878e2e1596d92257c9bfacd824767cbb9395d2fb8d726cf769d826a", func := "daguerre/daguerrelaw8.LinkFaces", spec := "linkFaces", unfollowed := true, recurses := true, apart := false, narrowed := true }
def LinkFacesUptoSaid : Prop := linkFacesUptoRow.holds Tryz.pinned (OpenSpec.upto linkFacesSpec)

/-- 'daguerrelaw8.LinkStatic', WHERE WHAT IT READS IS OF BULK AT MOST 1048576: true; the input reads as it did. -/
def linkStaticUptoRow : OpenClaim := { program := "ytooagifeniibcaagreat", sum := "0149c7eda878e2e1596d92257c9bfacd824767cbb9395d2fb8d726cf769d826a", func := "daguerre/daguerrelaw8.LinkStatic", spec := "linkStatic", unfollowed := true, recurses := true, apart := false, narrowed := true }
def LinkStaticUptoSaid : Prop := linkStaticUptoRow.holds Tryz.pinned (OpenSpec.upto linkStaticSpec)

/-- 'daguerrelaw9.TypesAll', WHERE WHAT IT READS IS OF BULK AT MOST 1048576: true; the input reads as it did. -/
def typesAllUptoRow : OpenClaim := { program := "ytooagifeniibcaagreat", sum := "0149c7eda878e2e1596d92257c9bfacd824767cbb9395d2fb8d726cf769d826a", func := "daguerre/daguerrelaw9.TypesAll", spec := "typesAll", unfollowed := true, recurses := true, apart := false, narrowed := true }
def TypesAllUptoSaid : Prop := typesAllUptoRow.holds Tryz.pinned (OpenSpec.upto typesAllSpec)

/-- 'daguerrelaw9.TypesOrder', WHERE WHAT IT READS IS OF BULK AT MOST 1048576: true; the input reads as it did. -/
def typesOrderUptoRow : OpenClaim := { program := "ytooagifeniibcaagreat", sum := "0149c7eda878e2e1596d92257c9bfacd824767cbb9395d2fb8d726cf769d826a", func := "daguerre/daguerrelaw9.TypesOrder", spec := "typesOrder", unfollowed := true, recurses := true, apart := false, narrowed := true }
def TypesOrderUptoSaid : Prop := typesOrderUptoRow.holds Tryz.pinned (OpenSpec.upto typesOrderSpec)

/-- 'daguerrelaw9.TypesNull', WHERE WHAT IT READS IS OF BULK AT MOST 1048576: true; the input reads as it did. -/
def typesNullUptoRow : OpenClaim := { program := "ytooagifeniibcaagreat", sum := "0149c7eda878e2e1596d92257c9bfacd824767cbb9395d2fb8d726cf769d826a", func := "daguerre/daguerrelaw9.TypesNull", spec := "typesNull", unfollowed := true, recurses := true, apart := false, narrowed := true }
def TypesNullUptoSaid : Prop := typesNullUptoRow.holds Tryz.pinned (OpenSpec.upto typesNullSpec)

end Rows
end Go.Proofs.YtooagifeniibcaaGreat
