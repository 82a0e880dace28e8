/-
  No cell of these rows narrows 'for every input' (looked for: loops, veiled, ifaces, maps, wideKeys, modest, calm, conditions, laid).
  DERIVED. THE GIVEN ROWS OF THIS SEAT. 12 by the template 'for every input the law returns true; each argument reads behind the call as it read before'; 0 by the template 'total and deterministic' (their statements: YthmnlfenkhmmhaaGreatTotals.lean).
  GIVEN WITH THE SEED: the statements are not yours to turn. If you find one false, say at which input.
  Laid BY PROGRAM, IN A SANDBOX (cutbox-rows.mjs): the forced cells as the released guide's own fill.sh prints them over the translation 715cf3789b45e922… (all of the seat's roots in one cut). By AI agents, Wed Nov 11 2026. No macro, syntax, notation, axiom, sorry.
-/
import Derived.Test.YthmnlfenkhmmhaaGreatChecked
import GoSem.Claim
import GoSem.ClaimJoined
import GoSem.ClaimMapViews
import Derived.JoinedTies
import Derived.KernelRfl
namespace Go.Proofs.YthmnlfenkhmmhaaGreat
/- THE CELL 'sum', in the pinned program and in every row, IS THE sha256 OF THE DUMP (.gsa) THAT YthmnlfenkhmmhaaGreatProg.lean LOADS. Nothing in Lean hashes anything: it is a label: what it is worth is what the hold of that sum in a sandbox is worth. -/
noncomputable def Tryz.pinned : Pinned := { name := "ythmnlfenkhmmhaagreat", sum := "715cf3789b45e922bb061fae74353ae13351338ec86efe438dae3a778132f92c", checked := Tryz.checked }
namespace Rows
def none {H : Type} : Left H := { results := [], args := [] }

/-- 'daguerrelaw6.FileSame': WHATEVER THE INPUT: true; the input reads as it did. -/
def fileSameSpec : ChangeSpec := { name := "fileSame", fn := fun _ => fun
  | [d1, d2] => { results := [.lit (.bool true)], args := [d1, d2] }
  | _ => none }
def fileSameRow : OpenClaim := { program := "ythmnlfenkhmmhaagreat", sum := "715cf3789b45e922bb061fae74353ae13351338ec86efe438dae3a778132f92c", func := "daguerre/daguerrelaw6.FileSame", spec := "fileSame", unfollowed := true, recurses := true, apart := false }
def FileSameSaid : Prop := fileSameRow.holds Tryz.pinned (OpenSpec.ofChange fileSameSpec)

/-- ITS FALSE NEIGHBOUR: 'it returns false'. Refute it at one input. -/
def fileSameWrong : ChangeSpec := { name := "fileSame", fn := fun _ => fun
  | [d1, d2] => { results := [.lit (.bool false)], args := [d1, d2] }
  | _ => none }
def FileSameWrongFalsely : Prop := fileSameRow.holds Tryz.pinned (OpenSpec.ofChange fileSameWrong)

/-- 'daguerrelaw16.StateChain': WHATEVER THE INPUT: true; the input reads as it did. -/
def stateChainSpec : ChangeSpec := { name := "stateChain", fn := fun _ => fun
  | [d1, d2, d3] => { results := [.lit (.bool true)], args := [d1, d2, d3] }
  | _ => none }
def stateChainRow : OpenClaim := { program := "ythmnlfenkhmmhaagreat", sum := "715cf3789b45e922bb061fae74353ae13351338ec86efe438dae3a778132f92c", func := "daguerre/daguerrelaw16.StateChain", spec := "stateChain", inPlace := ["maps.clone"], unfollowed := true, recurses := true, apart := false }
def StateChainSaid : Prop := stateChainRow.holds Tryz.pinned (OpenSpec.ofChange stateChainSpec)

/-- ITS FALSE NEIGHBOUR: 'it returns false'. Refute it at one input. -/
def stateChainWrong : ChangeSpec := { name := "stateChain", fn := fun _ => fun
  | [d1, d2, d3] => { results := [.lit (.bool false)], args := [d1, d2, d3] }
  | _ => none }
def StateChainWrongFalsely : Prop := stateChainRow.holds Tryz.pinned (OpenSpec.ofChange stateChainWrong)

/-- 'daguerrelaw16.StateAll': WHATEVER THE INPUT: true; the input reads as it did. -/
def stateAllSpec : ChangeSpec := { name := "stateAll", fn := fun _ => fun
  | [d1, d2] => { results := [.lit (.bool true)], args := [d1, d2] }
  | _ => none }
def stateAllRow : OpenClaim := { program := "ythmnlfenkhmmhaagreat", sum := "715cf3789b45e922bb061fae74353ae13351338ec86efe438dae3a778132f92c", func := "daguerre/daguerrelaw16.StateAll", spec := "stateAll", inPlace := ["maps.clone"], unfollowed := true, recurses := true, apart := false }
def StateAllSaid : Prop := stateAllRow.holds Tryz.pinned (OpenSpec.ofChange stateAllSpec)

/-- ITS FALSE NEIGHBOUR: 'it returns false'. Refute it at one input. -/
def stateAllWrong : ChangeSpec := { name := "stateAll", fn := fun _ => fun
  | [d1, d2] => { results := [.lit (.bool false)], args := [d1, d2] }
  | _ => none }
def StateAllWrongFalsely : Prop := stateAllRow.holds Tryz.pinned (OpenSpec.ofChange stateAllWrong)

/-- 'daguerrelaw10.VerifyTurn': WHATEVER THE INPUT: true; the input reads as it did. -/
def verifyTurnSpec : ChangeSpec := { name := "verifyTurn", fn := fun _ => fun
  | [d1, d2, d3, d4, d5, d6] => { results := [.lit (.bool true)], args := [d1, d2, d3, d4, d5, d6] }
  | _ => none }
def verifyTurnRow : OpenClaim := { program := "ythmnlfenkhmmhaagreat", sum := "715cf3789b45e922bb061fae74353ae13351338ec86efe438dae3a778132f92c", func := "daguerre/daguerrelaw10.VerifyTurn", spec := "verifyTurn", unfollowed := true, recurses := true, apart := false }
def VerifyTurnSaid : Prop := verifyTurnRow.holds Tryz.pinned (OpenSpec.ofChange verifyTurnSpec)

/-- ITS FALSE NEIGHBOUR: 'it returns false'. Refute it at one input. -/
def verifyTurnWrong : ChangeSpec := { name := "verifyTurn", fn := fun _ => fun
  | [d1, d2, d3, d4, d5, d6] => { results := [.lit (.bool false)], args := [d1, d2, d3, d4, d5, d6] }
  | _ => none }
def VerifyTurnWrongFalsely : Prop := verifyTurnRow.holds Tryz.pinned (OpenSpec.ofChange verifyTurnWrong)

/-- 'daguerrelaw11.ClosedTurn': WHATEVER THE INPUT: true; the input reads as it did. -/
def closedTurnSpec : ChangeSpec := { name := "closedTurn", fn := fun _ => fun
  | [d1, d2, d3, d4, d5, d6] => { results := [.lit (.bool true)], args := [d1, d2, d3, d4, d5, d6] }
  | _ => none }
def closedTurnRow : OpenClaim := { program := "ythmnlfenkhmmhaagreat", sum := "715cf3789b45e922bb061fae74353ae13351338ec86efe438dae3a778132f92c", func := "daguerre/daguerrelaw11.ClosedTurn", spec := "closedTurn", unfollowed := true, recurses := true, apart := false }
def ClosedTurnSaid : Prop := closedTurnRow.holds Tryz.pinned (OpenSpec.ofChange closedTurnSpec)

/-- ITS FALSE NEIGHBOUR: 'it returns false'. Refute it at one input. -/
def closedTurnWrong : ChangeSpec := { name := "closedTurn", fn := fun _ => fun
  | [d1, d2, d3, d4, d5, d6] => { results := [.lit (.bool false)], args := [d1, d2, d3, d4, d5, d6] }
  | _ => none }
def ClosedTurnWrongFalsely : Prop := closedTurnRow.holds Tryz.pinned (OpenSpec.ofChange closedTurnWrong)

/-- 'daguerrelaw22.LayoutAll': WHATEVER THE INPUT: true; the input reads as it did. -/
def layoutAllSpec : ChangeSpec := { name := "layoutAll", fn := fun _ => fun
  | [d1, d2, d3, d4] => { results := [.lit (.bool true)], args := [d1, d2, d3, d4] }
  | _ => none }
def layoutAllRow : OpenClaim := { program := "ythmnlfenkhmmhaagreat", sum := "715cf3789b45e922bb061fae74353ae13351338ec86efe438dae3a778132f92c", func := "daguerre/daguerrelaw22.LayoutAll", spec := "layoutAll", unfollowed := true, recurses := true, apart := false }
def LayoutAllSaid : Prop := layoutAllRow.holds Tryz.pinned (OpenSpec.ofChange layoutAllSpec)

/-- ITS FALSE NEIGHBOUR: 'it returns false'. Refute it at one input. -/
def layoutAllWrong : ChangeSpec := { name := "layoutAll", fn := fun _ => fun
  | [d1, d2, d3, d4] => { results := [.lit (.bool false)], args := [d1, d2, d3, d4] }
  | _ => none }
def LayoutAllWrongFalsely : Prop := layoutAllRow.holds Tryz.pinned (OpenSpec.ofChange layoutAllWrong)

/-- 'daguerrelaw22.LayoutBelow': WHATEVER THE INPUT: true; the input reads as it did. -/
def layoutBelowSpec : ChangeSpec := { name := "layoutBelow", fn := fun _ => fun
  | [d1, d2] => { results := [.lit (.bool true)], args := [d1, d2] }
  | _ => none }
def layoutBelowRow : OpenClaim := { program := "ythmnlfenkhmmhaagreat", sum := "715cf3789b45e922bb061fae74353ae13351338ec86efe438dae3a778132f92c", func := "daguerre/daguerrelaw22.LayoutBelow", spec := "layoutBelow", unfollowed := true, recurses := true, apart := false }
def LayoutBelowSaid : Prop := layoutBelowRow.holds Tryz.pinned (OpenSpec.ofChange layoutBelowSpec)

/-- ITS FALSE NEIGHBOUR: 'it returns false'. Refute it at one input. -/
def layoutBelowWrong : ChangeSpec := { name := "layoutBelow", fn := fun _ => fun
  | [d1, d2] => { results := [.lit (.bool false)], args := [d1, d2] }
  | _ => none }
def LayoutBelowWrongFalsely : Prop := layoutBelowRow.holds Tryz.pinned (OpenSpec.ofChange layoutBelowWrong)

/-- 'daguerrelaw22.LayoutNone': WHATEVER THE INPUT: true; the input reads as it did. -/
def layoutNoneSpec : ChangeSpec := { name := "layoutNone", fn := fun _ => fun
  | [] => { results := [.lit (.bool true)], args := [] }
  | _ => none }
def layoutNoneRow : OpenClaim := { program := "ythmnlfenkhmmhaagreat", sum := "715cf3789b45e922bb061fae74353ae13351338ec86efe438dae3a778132f92c", func := "daguerre/daguerrelaw22.LayoutNone", spec := "layoutNone", unfollowed := true, recurses := true, apart := false }
def LayoutNoneSaid : Prop := layoutNoneRow.holds Tryz.pinned (OpenSpec.ofChange layoutNoneSpec)

/-- ITS FALSE NEIGHBOUR: 'it returns false'. Refute it at one input. -/
def layoutNoneWrong : ChangeSpec := { name := "layoutNone", fn := fun _ => fun
  | [] => { results := [.lit (.bool false)], args := [] }
  | _ => none }
def LayoutNoneWrongFalsely : Prop := layoutNoneRow.holds Tryz.pinned (OpenSpec.ofChange layoutNoneWrong)

/-- 'daguerrelaw22.LayoutOver': WHATEVER THE INPUT: true; the input reads as it did. -/
def layoutOverSpec : ChangeSpec := { name := "layoutOver", fn := fun _ => fun
  | [d1, d2] => { results := [.lit (.bool true)], args := [d1, d2] }
  | _ => none }
def layoutOverRow : OpenClaim := { program := "ythmnlfenkhmmhaagreat", sum := "715cf3789b45e922bb061fae74353ae13351338ec86efe438dae3a778132f92c", func := "daguerre/daguerrelaw22.LayoutOver", spec := "layoutOver", unfollowed := true, recurses := true, apart := false }
def LayoutOverSaid : Prop := layoutOverRow.holds Tryz.pinned (OpenSpec.ofChange layoutOverSpec)

/-- ITS FALSE NEIGHBOUR: 'it returns false'. Refute it at one input. -/
def layoutOverWrong : ChangeSpec := { name := "layoutOver", fn := fun _ => fun
  | [d1, d2] => { results := [.lit (.bool false)], args := [d1, d2] }
  | _ => none }
def LayoutOverWrongFalsely : Prop := layoutOverRow.holds Tryz.pinned (OpenSpec.ofChange layoutOverWrong)

/-- 'daguerrelaw23.CodeAll': WHATEVER THE INPUT: true; the input reads as it did. -/
def codeAllSpec : ChangeSpec := { name := "codeAll", fn := fun _ => fun
  | [d1, d2, d3] => { results := [.lit (.bool true)], args := [d1, d2, d3] }
  | _ => none }
def codeAllRow : OpenClaim := { program := "ythmnlfenkhmmhaagreat", sum := "715cf3789b45e922bb061fae74353ae13351338ec86efe438dae3a778132f92c", func := "daguerre/daguerrelaw23.CodeAll", spec := "codeAll", inPlace := ["maps.clone"], unfollowed := true, recurses := true, apart := false }
def CodeAllSaid : Prop := codeAllRow.holds Tryz.pinned (OpenSpec.ofChange codeAllSpec)

/-- ITS FALSE NEIGHBOUR: 'it returns false'. Refute it at one input. -/
def codeAllWrong : ChangeSpec := { name := "codeAll", fn := fun _ => fun
  | [d1, d2, d3] => { results := [.lit (.bool false)], args := [d1, d2, d3] }
  | _ => none }
def CodeAllWrongFalsely : Prop := codeAllRow.holds Tryz.pinned (OpenSpec.ofChange codeAllWrong)

/-- 'daguerrelaw23.CodeGuards': WHATEVER THE INPUT: true; the input reads as it did. -/
def codeGuardsSpec : ChangeSpec := { name := "codeGuards", fn := fun _ => fun
  | [d1, d2] => { results := [.lit (.bool true)], args := [d1, d2] }
  | _ => none }
def codeGuardsRow : OpenClaim := { program := "ythmnlfenkhmmhaagreat", sum := "715cf3789b45e922bb061fae74353ae13351338ec86efe438dae3a778132f92c", func := "daguerre/daguerrelaw23.CodeGuards", spec := "codeGuards", inPlace := ["maps.clone"], unfollowed := true, recurses := true, apart := false }
def CodeGuardsSaid : Prop := codeGuardsRow.holds Tryz.pinned (OpenSpec.ofChange codeGuardsSpec)

/-- ITS FALSE NEIGHBOUR: 'it returns false'. Refute it at one input. -/
def codeGuardsWrong : ChangeSpec := { name := "codeGuards", fn := fun _ => fun
  | [d1, d2] => { results := [.lit (.bool false)], args := [d1, d2] }
  | _ => none }
def CodeGuardsWrongFalsely : Prop := codeGuardsRow.holds Tryz.pinned (OpenSpec.ofChange codeGuardsWrong)

/-- 'daguerrelaw23.CodeShape': WHATEVER THE INPUT: true; the input reads as it did. -/
def codeShapeSpec : ChangeSpec := { name := "codeShape", fn := fun _ => fun
  | [d1, d2] => { results := [.lit (.bool true)], args := [d1, d2] }
  | _ => none }
def codeShapeRow : OpenClaim := { program := "ythmnlfenkhmmhaagreat", sum := "715cf3789b45e922bb061fae74353ae13351338ec86efe438dae3a778132f92c", func := "daguerre/daguerrelaw23.CodeShape", spec := "codeShape", inPlace := ["maps.clone"], unfollowed := true, recurses := true, apart := false }
def CodeShapeSaid : Prop := codeShapeRow.holds Tryz.pinned (OpenSpec.ofChange codeShapeSpec)

/-- ITS FALSE NEIGHBOUR: 'it returns false'. Refute it at one input. -/
def codeShapeWrong : ChangeSpec := { name := "codeShape", fn := fun _ => fun
  | [d1, d2] => { results := [.lit (.bool false)], args := [d1, d2] }
  | _ => none }
def CodeShapeWrongFalsely : Prop := codeShapeRow.holds Tryz.pinned (OpenSpec.ofChange codeShapeWrong)

/- THE SECOND FORM. 'bulk': how many values and letters a reading holds, each counted each time it is reached (what is shared counts as often as it is met; a slice's spare places count too). A statement '..UptoSaid' is the law's where the arguments, and the package variables that the reading takes, are together of bulk at most 1048576: NARROWER than '..Said'. Prove '..Said' where nothing that the law and all that it calls make is longer than what came in: it says more and counts as full. Else prove '..UptoSaid'. A law counts once. -/
mutual
def uptoBulk {H : Type} : DataW H → Nat
  | .lit (.string bytes) => bytes.length + 1
  | .lit _ => 1
  | .nil => 1
  | .ptr d => uptoBulk d + 1
  | .slice elems spare => uptoBulkAll elems + uptoBulkAll spare + 1
  | .agg parts => uptoBulkAll parts + 1
  | .iface _ d => uptoBulk d + 1
  | .map entries => uptoBulkEntries entries + 1
  | .held _ => 1
def uptoBulkAll {H : Type} : List (DataW H) → Nat
  | [] => 0
  | d :: r => uptoBulk d + uptoBulkAll r
def uptoBulkEntries {H : Type} : List (Lit × DataW H) → Nat
  | [] => 0
  | x :: r => uptoBulkEntry x + uptoBulkEntries r
def uptoBulkEntry {H : Type} : Lit × DataW H → Nat
  | (.string bytes, d) => bytes.length + uptoBulk d + 1
  | (_, d) => uptoBulk d + 1
 end
def uptoSmall : (H : Type) → List (DataW H) → Bool := fun _ ds => decide (uptoBulkAll ds ≤ 1048576)
def OpenSpec.upto (s : _root_.Go.ChangeSpec) : _root_.Go.OpenSpec := { _root_.Go.OpenSpec.ofChange s with cond := some uptoSmall }

/-- 'daguerrelaw6.FileSame', WHERE WHAT IT READS IS OF BULK AT MOST 1048576: true; the input reads as it did. -/
def fileSameUptoRow : OpenClaim := { program := "ythmnlfenkhmmhaagreat", sum := "715cf3789b45e922bb061fae74353ae13351338ec86efe438dae3a778132f92c", func := "daguerre/daguerrelaw6.FileSame", spec := "fileSame", unfollowed := true, recurses := true, apart := false, narrowed := true }
def FileSameUptoSaid : Prop := fileSameUptoRow.holds Tryz.pinned (OpenSpec.upto fileSameSpec)

/-- 'daguerrelaw16.StateChain', WHERE WHAT IT READS IS OF BULK AT MOST 1048576: true; the input reads as it did. -/
def stateChainUptoRow : OpenClaim := { program := "ythmnlfenkhmmhaagreat", sum := "715cf3789b45e922bb061fae74353ae13351338ec86efe438dae3a778132f92c", func := "daguerre/daguerrelaw16.StateChain", spec := "stateChain", inPlace := ["maps.clone"], unfollowed := true, recurses := true, apart := false, narrowed := true }
def StateChainUptoSaid : Prop := stateChainUptoRow.holds Tryz.pinned (OpenSpec.upto stateChainSpec)

/-- 'daguerrelaw16.StateAll', WHERE WHAT IT READS IS OF BULK AT MOST 1048576: true; the input reads as it did. -/
def stateAllUptoRow : OpenClaim := { program := "ythmnlfenkhmmhaagreat", sum := "715cf3789b45e922bb061fae74353ae13351338ec86efe438dae3a778132f92c", func := "daguerre/daguerrelaw16.StateAll", spec := "stateAll", inPlace := ["maps.clone"], unfollowed := true, recurses := true, apart := false, narrowed := true }
def StateAllUptoSaid : Prop := stateAllUptoRow.holds Tryz.pinned (OpenSpec.upto stateAllSpec)

/-- 'daguerrelaw10.VerifyTurn', WHERE WHAT IT READS IS OF BULK AT MOST 1048576: true; the input reads as it did. -/
def verifyTurnUptoRow : OpenClaim := { program := "ythmnlfenkhmmhaagreat", sum := "715cf3789b45e922bb061fae74353ae13351338ec86efe438dae3a778132f92c", func := "daguerre/daguerrelaw10.VerifyTurn", spec := "verifyTurn", unfollowed := true, recurses := true, apart := false, narrowed := true }
def VerifyTurnUptoSaid : Prop := verifyTurnUptoRow.holds Tryz.pinned (OpenSpec.upto verifyTurnSpec)

/-- 'daguerrelaw11.ClosedTurn', WHERE WHAT IT READS IS OF BULK AT MOST 1048576: true; the input reads as it did. -/
def closedTurnUptoRow : OpenClaim := { program := "ythmnlfenkhmmhaagreat", sum := "715cf3789b45e922bb061fae74353ae13351338ec86efe438dae3a778132f92c", func := "daguerre/daguerrelaw11.ClosedTurn", spec := "closedTurn", unfollowed := true, recurses := true, apart := false, narrowed := true }
def ClosedTurnUptoSaid : Prop := closedTurnUptoRow.holds Tryz.pinned (OpenSpec.upto closedTurnSpec)

/-- 'daguerrelaw22.LayoutAll', WHERE WHAT IT READS IS OF BULK AT MOST 1048576: true; the input reads as it did. -/
def layoutAllUptoRow : OpenClaim := { program := "ythmnlfenkhmmhaagreat", sum := "715cf3789b45e922bb061fae74353ae13351338ec86efe438dae3a778132f92c", func := "daguerre/daguerrelaw22.LayoutAll", spec := "layoutAll", unfollowed := true, recurses := true, apart := false, narrowed := true }
def LayoutAllUptoSaid : Prop := layoutAllUptoRow.holds Tryz.pinned (OpenSpec.upto layoutAllSpec)

/-- 'daguerrelaw22.LayoutBelow', WHERE WHAT IT READS IS OF BULK AT MOST 1048576: true; the input reads as it did. -/
def layoutBelowUptoRow : OpenClaim := { program := "ythmnlfenkhmmhaagreat", sum := "715cf3789b45e922bb061fae74353ae13351338ec86efe438dae3a778132f92c", func := "daguerre/daguerrelaw22.LayoutBelow", spec := "layoutBelow", unfollowed := true, recurses := true, apart := false, narrowed := true }
def LayoutBelowUptoSaid : Prop := layoutBelowUptoRow.holds Tryz.pinned (OpenSpec.upto layoutBelowSpec)

/-- 'daguerrelaw22.LayoutNone', WHERE WHAT IT READS IS OF BULK AT MOST 1048576: true; the input reads as it did. -/
def layoutNoneUptoRow : OpenClaim := { program := "ythmnlfenkhmmhaagreat", sum := "715cf3789b45e922bb061fae74353ae13351338ec86efe438dae3a778132f92c", func := "daguerre/daguerrelaw22.LayoutNone", spec := "layoutNone", unfollowed := true, recurses := true, apart := false, narrowed := true }
def LayoutNoneUptoSaid : Prop := layoutNoneUptoRow.holds Tryz.pinned (OpenSpec.upto layoutNoneSpec)

/-- 'daguerrelaw22.LayoutOver', WHERE WHAT IT READS IS OF BULK AT MOST 1048576: true; the input reads as it did. -/
def layoutOverUptoRow : OpenClaim := { program := "ythmnlfenkhmmhaagreat", sum := "715cf3789b45e922bb061fae74353ae13351338ec86efe438dae3a778132f92c", func := "daguerre/daguerrelaw22.LayoutOver", spec := "layoutOver", unfollowed := true, recurses := true, apart := false, narrowed := true }
def LayoutOverUptoSaid : Prop := layoutOverUptoRow.holds Tryz.pinned (OpenSpec.upto layoutOverSpec)

/-- 'daguerrelaw23.CodeAll', WHERE WHAT IT READS IS OF BULK AT MOST 1048576: true; the input reads as it did. -/
def codeAllUptoRow : OpenClaim := { program := "ythmnlfenkhmmhaagreat", sum := "715cf3789b45e922bb061fae74353ae13351338ec86efe438dae3a778132f92c", func := "daguerre/daguerrelaw23.CodeAll", spec := "codeAll", inPlace := ["maps.clone"], unfollowed := true, recurses := true, apart := false, narrowed := true }
def CodeAllUptoSaid : Prop := codeAllUptoRow.holds Tryz.pinned (OpenSpec.upto codeAllSpec)

/-- 'daguerrelaw23.CodeGuards', WHERE WHAT IT READS IS OF BULK AT MOST 1048576: true; the input reads as it did. -/
def codeGuardsUptoRow : OpenClaim := { program := "ythmnlfenkhmmhaagreat", sum := "715cf3789b45e922bb061fae74353ae13351338ec86efe438dae3a778132f92c", func := "daguerre/daguerrelaw23.CodeGuards", spec := "codeGuards", inPlace := ["maps.clone"], unfollowed := true, recurses := true, apart := false, narrowed := true }
def CodeGuardsUptoSaid : Prop := codeGuardsUptoRow.holds Tryz.pinned (OpenSpec.upto codeGuardsSpec)

/-- 'daguerrelaw23.CodeShape', WHERE WHAT IT READS IS OF BULK AT MOST 1048576: true; the input reads as it did. -/
def codeShapeUptoRow : OpenClaim := { program := "ythmnlfenkhmmhaagreat", sum := "715cf3789b45e922bb061fae74353ae13351338ec86efe438dae3a778132f92c", func := "daguerre/daguerrelaw23.CodeShape", spec := "codeShape", inPlace := ["maps.clone"], unfollowed := true, recurses := true, apart := false, narrowed := true }
def CodeShapeUptoSaid : Prop := codeShapeUptoRow.holds Tryz.pinned (OpenSpec.upto codeShapeSpec)

end Rows
end Go.Proofs.YthmnlfenkhmmhaaGreat
