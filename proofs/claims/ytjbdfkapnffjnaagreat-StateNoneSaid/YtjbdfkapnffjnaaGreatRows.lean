/-
  No cell of these rows narrows 'for every input' (looked for: loops, veiled, ifaces, maps, wideKeys, modest, calm, conditions, laid).
  DERIVED. THE GIVEN ROWS OF THIS SEAT. 18 by the template 'for every input the law returns true; each argument reads behind the call as it read before'; 0 by the template 'total and deterministic' (their statements: YtjbdfkapnffjnaaGreatTotals.lean).
  GIVEN WITH THE SEED: the statements are not yours to turn. If you find one false, say at which input.
  Laid BY PROGRAM, IN A SANDBOX (cutbox-rows.mjs): the forced cells as the released guide's own fill.sh prints them over the translation 1c70ef19f0ebdd5c… (all of the seat's roots in one cut). By AI agents, Wed Nov 11 2026. No macro, syntax, notation, axiom, sorry.
-/
import Derived.Test.YtjbdfkapnffjnaaGreatChecked
import GoSem.Claim
import GoSem.ClaimJoined
import GoSem.ClaimMapViews
import Derived.JoinedTies
import Derived.KernelRfl
namespace Go.Proofs.YtjbdfkapnffjnaaGreat
/- THE CELL 'sum', in the pinned program and in every row, IS THE sha256 OF THE DUMP (.gsa) THAT YtjbdfkapnffjnaaGreatProg.lean LOADS. Nothing in Lean hashes anything: it is a label: what it is worth is what the hold of that sum in a sandbox is worth. -/
noncomputable def Tryz.pinned : Pinned := { name := "ytjbdfkapnffjnaagreat", sum := "1c70ef19f0ebdd5c6eb78bb4773f03d7a078c4a6b5bccf864627ba9ba51fac47", checked := Tryz.checked }
namespace Rows
def none {H : Type} : Left H := { results := [], args := [] }

/-- 'daguerrelaw16.StateChain': WHATEVER THE INPUT: true; the input reads as it did. -/
def stateChainSpec : ChangeSpec := { name := "stateChain", fn := fun _ => fun
  | [d1, d2, d3] => { results := [.lit (.bool true)], args := [d1, d2, d3] }
  | _ => none }
def stateChainRow : OpenClaim := { program := "ytjbdfkapnffjnaagreat", sum := "1c70ef19f0ebdd5c6eb78bb4773f03d7a078c4a6b5bccf864627ba9ba51fac47", func := "daguerre/daguerrelaw16.StateChain", spec := "stateChain", inPlace := ["maps.clone"], unfollowed := true, recurses := true, apart := false }
def StateChainSaid : Prop := stateChainRow.holds Tryz.pinned (OpenSpec.ofChange stateChainSpec)

/-- ITS FALSE NEIGHBOUR: 'it returns false'. Refute it at one input. -/
def stateChainWrong : ChangeSpec := { name := "stateChain", fn := fun _ => fun
  | [d1, d2, d3] => { results := [.lit (.bool false)], args := [d1, d2, d3] }
  | _ => none }
def StateChainWrongFalsely : Prop := stateChainRow.holds Tryz.pinned (OpenSpec.ofChange stateChainWrong)

/-- 'daguerrelaw16.StateAll': WHATEVER THE INPUT: true; the input reads as it did. -/
def stateAllSpec : ChangeSpec := { name := "stateAll", fn := fun _ => fun
  | [d1, d2] => { results := [.lit (.bool true)], args := [d1, d2] }
  | _ => none }
def stateAllRow : OpenClaim := { program := "ytjbdfkapnffjnaagreat", sum := "1c70ef19f0ebdd5c6eb78bb4773f03d7a078c4a6b5bccf864627ba9ba51fac47", func := "daguerre/daguerrelaw16.StateAll", spec := "stateAll", inPlace := ["maps.clone"], unfollowed := true, recurses := true, apart := false }
def StateAllSaid : Prop := stateAllRow.holds Tryz.pinned (OpenSpec.ofChange stateAllSpec)

/-- ITS FALSE NEIGHBOUR: 'it returns false'. Refute it at one input. -/
def stateAllWrong : ChangeSpec := { name := "stateAll", fn := fun _ => fun
  | [d1, d2] => { results := [.lit (.bool false)], args := [d1, d2] }
  | _ => none }
def StateAllWrongFalsely : Prop := stateAllRow.holds Tryz.pinned (OpenSpec.ofChange stateAllWrong)

/-- 'daguerrelaw16.StateNone': WHATEVER THE INPUT: true; the input reads as it did. -/
def stateNoneSpec : ChangeSpec := { name := "stateNone", fn := fun _ => fun
  | [] => { results := [.lit (.bool true)], args := [] }
  | _ => none }
def stateNoneRow : OpenClaim := { program := "ytjbdfkapnffjnaagreat", sum := "1c70ef19f0ebdd5c6eb78bb4773f03d7a078c4a6b5bccf864627ba9ba51fac47", func := "daguerre/daguerrelaw16.StateNone", spec := "stateNone", inPlace := ["maps.clone"], unfollowed := true, recurses := true, apart := false }
def StateNoneSaid : Prop := stateNoneRow.holds Tryz.pinned (OpenSpec.ofChange stateNoneSpec)

/-- ITS FALSE NEIGHBOUR: 'it returns false'. Refute it at one input. -/
def stateNoneWrong : ChangeSpec := { name := "stateNone", fn := fun _ => fun
  | [] => { results := [.lit (.bool false)], args := [] }
  | _ => none }
def StateNoneWrongFalsely : Prop := stateNoneRow.holds Tryz.pinned (OpenSpec.ofChange stateNoneWrong)

/-- 'daguerrelaw10.VerifyAll': WHATEVER THE INPUT: true; the input reads as it did. -/
def verifyAllSpec : ChangeSpec := { name := "verifyAll", fn := fun _ => fun
  | [d] => { results := [.lit (.bool true)], args := [d] }
  | _ => none }
def verifyAllRow : OpenClaim := { program := "ytjbdfkapnffjnaagreat", sum := "1c70ef19f0ebdd5c6eb78bb4773f03d7a078c4a6b5bccf864627ba9ba51fac47", func := "daguerre/daguerrelaw10.VerifyAll", spec := "verifyAll", unfollowed := true, recurses := true, apart := false }
def VerifyAllSaid : Prop := verifyAllRow.holds Tryz.pinned (OpenSpec.ofChange verifyAllSpec)

/-- ITS FALSE NEIGHBOUR: 'it returns false'. Refute it at one input. -/
def verifyAllWrong : ChangeSpec := { name := "verifyAll", fn := fun _ => fun
  | [d] => { results := [.lit (.bool false)], args := [d] }
  | _ => none }
def VerifyAllWrongFalsely : Prop := verifyAllRow.holds Tryz.pinned (OpenSpec.ofChange verifyAllWrong)

/-- 'daguerrelaw10.VerifyTurn': WHATEVER THE INPUT: true; the input reads as it did. -/
def verifyTurnSpec : ChangeSpec := { name := "verifyTurn", fn := fun _ => fun
  | [d1, d2, d3, d4, d5, d6] => { results := [.lit (.bool true)], args := [d1, d2, d3, d4, d5, d6] }
  | _ => none }
def verifyTurnRow : OpenClaim := { program := "ytjbdfkapnffjnaagreat", sum := "1c70ef19f0ebdd5c6eb78bb4773f03d7a078c4a6b5bccf864627ba9ba51fac47", func := "daguerre/daguerrelaw10.VerifyTurn", spec := "verifyTurn", unfollowed := true, recurses := true, apart := false }
def VerifyTurnSaid : Prop := verifyTurnRow.holds Tryz.pinned (OpenSpec.ofChange verifyTurnSpec)

/-- ITS FALSE NEIGHBOUR: 'it returns false'. Refute it at one input. -/
def verifyTurnWrong : ChangeSpec := { name := "verifyTurn", fn := fun _ => fun
  | [d1, d2, d3, d4, d5, d6] => { results := [.lit (.bool false)], args := [d1, d2, d3, d4, d5, d6] }
  | _ => none }
def VerifyTurnWrongFalsely : Prop := verifyTurnRow.holds Tryz.pinned (OpenSpec.ofChange verifyTurnWrong)

/-- 'daguerrelaw10.VerifyStack': WHATEVER THE INPUT: true; the input reads as it did. -/
def verifyStackSpec : ChangeSpec := { name := "verifyStack", fn := fun _ => fun
  | [d1, d2, d3] => { results := [.lit (.bool true)], args := [d1, d2, d3] }
  | _ => none }
def verifyStackRow : OpenClaim := { program := "ytjbdfkapnffjnaagreat", sum := "1c70ef19f0ebdd5c6eb78bb4773f03d7a078c4a6b5bccf864627ba9ba51fac47", func := "daguerre/daguerrelaw10.VerifyStack", spec := "verifyStack", unfollowed := true, recurses := true, apart := false }
def VerifyStackSaid : Prop := verifyStackRow.holds Tryz.pinned (OpenSpec.ofChange verifyStackSpec)

/-- ITS FALSE NEIGHBOUR: 'it returns false'. Refute it at one input. -/
def verifyStackWrong : ChangeSpec := { name := "verifyStack", fn := fun _ => fun
  | [d1, d2, d3] => { results := [.lit (.bool false)], args := [d1, d2, d3] }
  | _ => none }
def VerifyStackWrongFalsely : Prop := verifyStackRow.holds Tryz.pinned (OpenSpec.ofChange verifyStackWrong)

/-- 'daguerrelaw10.VerifyMaps': WHATEVER THE INPUT: true; the input reads as it did. -/
def verifyMapsSpec : ChangeSpec := { name := "verifyMaps", fn := fun _ => fun
  | [d1, d2, d3, d4] => { results := [.lit (.bool true)], args := [d1, d2, d3, d4] }
  | _ => none }
def verifyMapsRow : OpenClaim := { program := "ytjbdfkapnffjnaagreat", sum := "1c70ef19f0ebdd5c6eb78bb4773f03d7a078c4a6b5bccf864627ba9ba51fac47", func := "daguerre/daguerrelaw10.VerifyMaps", spec := "verifyMaps", unfollowed := true, recurses := true, apart := false }
def VerifyMapsSaid : Prop := verifyMapsRow.holds Tryz.pinned (OpenSpec.ofChange verifyMapsSpec)

/-- ITS FALSE NEIGHBOUR: 'it returns false'. Refute it at one input. -/
def verifyMapsWrong : ChangeSpec := { name := "verifyMaps", fn := fun _ => fun
  | [d1, d2, d3, d4] => { results := [.lit (.bool false)], args := [d1, d2, d3, d4] }
  | _ => none }
def VerifyMapsWrongFalsely : Prop := verifyMapsRow.holds Tryz.pinned (OpenSpec.ofChange verifyMapsWrong)

/-- 'daguerrelaw10.VerifyTraps': WHATEVER THE INPUT: true; the input reads as it did. -/
def verifyTrapsSpec : ChangeSpec := { name := "verifyTraps", fn := fun _ => fun
  | [d1, d2, d3, d4, d5] => { results := [.lit (.bool true)], args := [d1, d2, d3, d4, d5] }
  | _ => none }
def verifyTrapsRow : OpenClaim := { program := "ytjbdfkapnffjnaagreat", sum := "1c70ef19f0ebdd5c6eb78bb4773f03d7a078c4a6b5bccf864627ba9ba51fac47", func := "daguerre/daguerrelaw10.VerifyTraps", spec := "verifyTraps", unfollowed := true, recurses := true, apart := false }
def VerifyTrapsSaid : Prop := verifyTrapsRow.holds Tryz.pinned (OpenSpec.ofChange verifyTrapsSpec)

/-- ITS FALSE NEIGHBOUR: 'it returns false'. Refute it at one input. -/
def verifyTrapsWrong : ChangeSpec := { name := "verifyTraps", fn := fun _ => fun
  | [d1, d2, d3, d4, d5] => { results := [.lit (.bool false)], args := [d1, d2, d3, d4, d5] }
  | _ => none }
def VerifyTrapsWrongFalsely : Prop := verifyTrapsRow.holds Tryz.pinned (OpenSpec.ofChange verifyTrapsWrong)

/-- 'daguerrelaw10.VerifyReturn': WHATEVER THE INPUT: true; the input reads as it did. -/
def verifyReturnSpec : ChangeSpec := { name := "verifyReturn", fn := fun _ => fun
  | [d1, d2, d3] => { results := [.lit (.bool true)], args := [d1, d2, d3] }
  | _ => none }
def verifyReturnRow : OpenClaim := { program := "ytjbdfkapnffjnaagreat", sum := "1c70ef19f0ebdd5c6eb78bb4773f03d7a078c4a6b5bccf864627ba9ba51fac47", func := "daguerre/daguerrelaw10.VerifyReturn", spec := "verifyReturn", unfollowed := true, recurses := true, apart := false }
def VerifyReturnSaid : Prop := verifyReturnRow.holds Tryz.pinned (OpenSpec.ofChange verifyReturnSpec)

/-- ITS FALSE NEIGHBOUR: 'it returns false'. Refute it at one input. -/
def verifyReturnWrong : ChangeSpec := { name := "verifyReturn", fn := fun _ => fun
  | [d1, d2, d3] => { results := [.lit (.bool false)], args := [d1, d2, d3] }
  | _ => none }
def VerifyReturnWrongFalsely : Prop := verifyReturnRow.holds Tryz.pinned (OpenSpec.ofChange verifyReturnWrong)

/-- 'daguerrelaw10.VerifyCall': WHATEVER THE INPUT: true; the input reads as it did. -/
def verifyCallSpec : ChangeSpec := { name := "verifyCall", fn := fun _ => fun
  | [d1, d2, d3] => { results := [.lit (.bool true)], args := [d1, d2, d3] }
  | _ => none }
def verifyCallRow : OpenClaim := { program := "ytjbdfkapnffjnaagreat", sum := "1c70ef19f0ebdd5c6eb78bb4773f03d7a078c4a6b5bccf864627ba9ba51fac47", func := "daguerre/daguerrelaw10.VerifyCall", spec := "verifyCall", unfollowed := true, recurses := true, apart := false }
def VerifyCallSaid : Prop := verifyCallRow.holds Tryz.pinned (OpenSpec.ofChange verifyCallSpec)

/-- ITS FALSE NEIGHBOUR: 'it returns false'. Refute it at one input. -/
def verifyCallWrong : ChangeSpec := { name := "verifyCall", fn := fun _ => fun
  | [d1, d2, d3] => { results := [.lit (.bool false)], args := [d1, d2, d3] }
  | _ => none }
def VerifyCallWrongFalsely : Prop := verifyCallRow.holds Tryz.pinned (OpenSpec.ofChange verifyCallWrong)

/-- 'daguerrelaw10.VerifyDead': WHATEVER THE INPUT: true; the input reads as it did. -/
def verifyDeadSpec : ChangeSpec := { name := "verifyDead", fn := fun _ => fun
  | [d1, d2, d3] => { results := [.lit (.bool true)], args := [d1, d2, d3] }
  | _ => none }
def verifyDeadRow : OpenClaim := { program := "ytjbdfkapnffjnaagreat", sum := "1c70ef19f0ebdd5c6eb78bb4773f03d7a078c4a6b5bccf864627ba9ba51fac47", func := "daguerre/daguerrelaw10.VerifyDead", spec := "verifyDead", unfollowed := true, recurses := true, apart := false }
def VerifyDeadSaid : Prop := verifyDeadRow.holds Tryz.pinned (OpenSpec.ofChange verifyDeadSpec)

/-- ITS FALSE NEIGHBOUR: 'it returns false'. Refute it at one input. -/
def verifyDeadWrong : ChangeSpec := { name := "verifyDead", fn := fun _ => fun
  | [d1, d2, d3] => { results := [.lit (.bool false)], args := [d1, d2, d3] }
  | _ => none }
def VerifyDeadWrongFalsely : Prop := verifyDeadRow.holds Tryz.pinned (OpenSpec.ofChange verifyDeadWrong)

/-- 'daguerrelaw10.VerifySpace': WHATEVER THE INPUT: true; the input reads as it did. -/
def verifySpaceSpec : ChangeSpec := { name := "verifySpace", fn := fun _ => fun
  | [d1, d2, d3] => { results := [.lit (.bool true)], args := [d1, d2, d3] }
  | _ => none }
def verifySpaceRow : OpenClaim := { program := "ytjbdfkapnffjnaagreat", sum := "1c70ef19f0ebdd5c6eb78bb4773f03d7a078c4a6b5bccf864627ba9ba51fac47", func := "daguerre/daguerrelaw10.VerifySpace", spec := "verifySpace", unfollowed := true, recurses := true, apart := false }
def VerifySpaceSaid : Prop := verifySpaceRow.holds Tryz.pinned (OpenSpec.ofChange verifySpaceSpec)

/-- ITS FALSE NEIGHBOUR: 'it returns false'. Refute it at one input. -/
def verifySpaceWrong : ChangeSpec := { name := "verifySpace", fn := fun _ => fun
  | [d1, d2, d3] => { results := [.lit (.bool false)], args := [d1, d2, d3] }
  | _ => none }
def VerifySpaceWrongFalsely : Prop := verifySpaceRow.holds Tryz.pinned (OpenSpec.ofChange verifySpaceWrong)

/-- 'daguerrelaw11.ClosedAll': WHATEVER THE INPUT: true; the input reads as it did. -/
def closedAllSpec : ChangeSpec := { name := "closedAll", fn := fun _ => fun
  | [d1, d2] => { results := [.lit (.bool true)], args := [d1, d2] }
  | _ => none }
def closedAllRow : OpenClaim := { program := "ytjbdfkapnffjnaagreat", sum := "1c70ef19f0ebdd5c6eb78bb4773f03d7a078c4a6b5bccf864627ba9ba51fac47", func := "daguerre/daguerrelaw11.ClosedAll", spec := "closedAll", unfollowed := true, recurses := true, apart := false }
def ClosedAllSaid : Prop := closedAllRow.holds Tryz.pinned (OpenSpec.ofChange closedAllSpec)

/-- ITS FALSE NEIGHBOUR: 'it returns false'. Refute it at one input. -/
def closedAllWrong : ChangeSpec := { name := "closedAll", fn := fun _ => fun
  | [d1, d2] => { results := [.lit (.bool false)], args := [d1, d2] }
  | _ => none }
def ClosedAllWrongFalsely : Prop := closedAllRow.holds Tryz.pinned (OpenSpec.ofChange closedAllWrong)

/-- 'daguerrelaw11.ClosedTurn': WHATEVER THE INPUT: true; the input reads as it did. -/
def closedTurnSpec : ChangeSpec := { name := "closedTurn", fn := fun _ => fun
  | [d1, d2, d3, d4, d5, d6] => { results := [.lit (.bool true)], args := [d1, d2, d3, d4, d5, d6] }
  | _ => none }
def closedTurnRow : OpenClaim := { program := "ytjbdfkapnffjnaagreat", sum := "1c70ef19f0ebdd5c6eb78bb4773f03d7a078c4a6b5bccf864627ba9ba51fac47", func := "daguerre/daguerrelaw11.ClosedTurn", spec := "closedTurn", unfollowed := true, recurses := true, apart := false }
def ClosedTurnSaid : Prop := closedTurnRow.holds Tryz.pinned (OpenSpec.ofChange closedTurnSpec)

/-- ITS FALSE NEIGHBOUR: 'it returns false'. Refute it at one input. -/
def closedTurnWrong : ChangeSpec := { name := "closedTurn", fn := fun _ => fun
  | [d1, d2, d3, d4, d5, d6] => { results := [.lit (.bool false)], args := [d1, d2, d3, d4, d5, d6] }
  | _ => none }
def ClosedTurnWrongFalsely : Prop := closedTurnRow.holds Tryz.pinned (OpenSpec.ofChange closedTurnWrong)

/-- 'daguerrelaw11.ClosedOver': WHATEVER THE INPUT: true; the input reads as it did. -/
def closedOverSpec : ChangeSpec := { name := "closedOver", fn := fun _ => fun
  | [d1, d2, d3, d4, d5, d6] => { results := [.lit (.bool true)], args := [d1, d2, d3, d4, d5, d6] }
  | _ => none }
def closedOverRow : OpenClaim := { program := "ytjbdfkapnffjnaagreat", sum := "1c70ef19f0ebdd5c6eb78bb4773f03d7a078c4a6b5bccf864627ba9ba51fac47", func := "daguerre/daguerrelaw11.ClosedOver", spec := "closedOver", unfollowed := true, recurses := true, apart := false }
def ClosedOverSaid : Prop := closedOverRow.holds Tryz.pinned (OpenSpec.ofChange closedOverSpec)

/-- ITS FALSE NEIGHBOUR: 'it returns false'. Refute it at one input. -/
def closedOverWrong : ChangeSpec := { name := "closedOver", fn := fun _ => fun
  | [d1, d2, d3, d4, d5, d6] => { results := [.lit (.bool false)], args := [d1, d2, d3, d4, d5, d6] }
  | _ => none }
def ClosedOverWrongFalsely : Prop := closedOverRow.holds Tryz.pinned (OpenSpec.ofChange closedOverWrong)

/-- 'daguerrelaw11.ClosedFaces': WHATEVER THE INPUT: true; the input reads as it did. -/
def closedFacesSpec : ChangeSpec := { name := "closedFaces", fn := fun _ => fun
  | [d1, d2, d3] => { results := [.lit (.bool true)], args := [d1, d2, d3] }
  | _ => none }
def closedFacesRow : OpenClaim := { program := "ytjbdfkapnffjnaagreat", sum := "1c70ef19f0ebdd5c6eb78bb4773f03d7a078c4a6b5bccf864627ba9ba51fac47", func := "daguerre/daguerrelaw11.ClosedFaces", spec := "closedFaces", unfollowed := true, recurses := true, apart := false }
def ClosedFacesSaid : Prop := closedFacesRow.holds Tryz.pinned (OpenSpec.ofChange closedFacesSpec)

/-- ITS FALSE NEIGHBOUR: 'it returns false'. Refute it at one input. -/
def closedFacesWrong : ChangeSpec := { name := "closedFaces", fn := fun _ => fun
  | [d1, d2, d3] => { results := [.lit (.bool false)], args := [d1, d2, d3] }
  | _ => none }
def ClosedFacesWrongFalsely : Prop := closedFacesRow.holds Tryz.pinned (OpenSpec.ofChange closedFacesWrong)

/-- 'daguerrelaw11.ClosedEntry': WHATEVER THE INPUT: true; the input reads as it did. -/
def closedEntrySpec : ChangeSpec := { name := "closedEntry", fn := fun _ => fun
  | [d1, d2, d3, d4] => { results := [.lit (.bool true)], args := [d1, d2, d3, d4] }
  | _ => none }
def closedEntryRow : OpenClaim := { program := "ytjbdfkapnffjnaagreat", sum := "1c70ef19f0ebdd5c6eb78bb4773f03d7a078c4a6b5bccf864627ba9ba51fac47", func := "daguerre/daguerrelaw11.ClosedEntry", spec := "closedEntry", unfollowed := true, recurses := true, apart := false }
def ClosedEntrySaid : Prop := closedEntryRow.holds Tryz.pinned (OpenSpec.ofChange closedEntrySpec)

/-- ITS FALSE NEIGHBOUR: 'it returns false'. Refute it at one input. -/
def closedEntryWrong : ChangeSpec := { name := "closedEntry", fn := fun _ => fun
  | [d1, d2, d3, d4] => { results := [.lit (.bool false)], args := [d1, d2, d3, d4] }
  | _ => none }
def ClosedEntryWrongFalsely : Prop := closedEntryRow.holds Tryz.pinned (OpenSpec.ofChange closedEntryWrong)

/-- 'daguerrelaw11.ClosedFirst': WHATEVER THE INPUT: true; the input reads as it did. -/
def closedFirstSpec : ChangeSpec := { name := "closedFirst", fn := fun _ => fun
  | [d1, d2, d3] => { results := [.lit (.bool true)], args := [d1, d2, d3] }
  | _ => none }
def closedFirstRow : OpenClaim := { program := "ytjbdfkapnffjnaagreat", sum := "1c70ef19f0ebdd5c6eb78bb4773f03d7a078c4a6b5bccf864627ba9ba51fac47", func := "daguerre/daguerrelaw11.ClosedFirst", spec := "closedFirst", unfollowed := true, recurses := true, apart := false }
def ClosedFirstSaid : Prop := closedFirstRow.holds Tryz.pinned (OpenSpec.ofChange closedFirstSpec)

/-- ITS FALSE NEIGHBOUR: 'it returns false'. Refute it at one input. -/
def closedFirstWrong : ChangeSpec := { name := "closedFirst", fn := fun _ => fun
  | [d1, d2, d3] => { results := [.lit (.bool false)], args := [d1, d2, d3] }
  | _ => none }
def ClosedFirstWrongFalsely : Prop := closedFirstRow.holds Tryz.pinned (OpenSpec.ofChange closedFirstWrong)

/- THE SECOND FORM. 'bulk': how many values and letters a reading holds, each counted each time it is reached (what is shared counts as often as it is met; a slice's spare places count too). A statement '..UptoSaid' is the law's where the arguments, and the package variables that the reading takes, are together of bulk at most 1048576: NARROWER than '..Said'. Prove '..Said' where nothing that the law and all that it calls make is longer than what came in: it says more and counts as full. Else prove '..UptoSaid'. A law counts once. -/
mutual
def uptoBulk {H : Type} : DataW H → Nat
  | .lit (.string bytes) => bytes.length + 1
  | .lit _ => 1
  | .nil => 1
  | .ptr d => uptoBulk d + 1
  | .slice elems spare => uptoBulkAll elems + uptoBulkAll spare + 1
  | .agg parts => uptoBulkAll parts + 1
  | .iface _ d => uptoBulk d + 1
  | .map entries => uptoBulkEntries entries + 1
  | .held _ => 1
def uptoBulkAll {H : Type} : List (DataW H) → Nat
  | [] => 0
  | d :: r => uptoBulk d + uptoBulkAll r
def uptoBulkEntries {H : Type} : List (Lit × DataW H) → Nat
  | [] => 0
  | x :: r => uptoBulkEntry x + uptoBulkEntries r
def uptoBulkEntry {H : Type} : Lit × DataW H → Nat
  | (.string bytes, d) => bytes.length + uptoBulk d + 1
  | (_, d) => uptoBulk d + 1
 end
def uptoSmall : (H : Type) → List (DataW H) → Bool := fun _ ds => decide (uptoBulkAll ds ≤ 1048576)
def OpenSpec.upto (s : _root_.Go.ChangeSpec) : _root_.Go.OpenSpec := { _root_.Go.OpenSpec.ofChange s with cond := some uptoSmall }

/-- 'daguerrelaw16.StateChain', WHERE WHAT IT READS IS OF BULK AT MOST 1048576: true; the input reads as it did. -/
def stateChainUptoRow : OpenClaim := { program := "ytjbdfkapnffjnaagreat", sum := "1c70ef19f0ebdd5c6eb78bb4773f03d7a078c4a6b5bccf864627ba9ba51fac47", func := "daguerre/daguerrelaw16.StateChain", spec := "stateChain", inPlace := ["maps.clone"], unfollowed := true, recurses := true, apart := false, narrowed := true }
def StateChainUptoSaid : Prop := stateChainUptoRow.holds Tryz.pinned (OpenSpec.upto stateChainSpec)

/-- 'daguerrelaw16.StateAll', WHERE WHAT IT READS IS OF BULK AT MOST 1048576: true; the input reads as it did. -/
def stateAllUptoRow : OpenClaim := { program := "ytjbdfkapnffjnaagreat", sum := "1c70ef19f0ebdd5c6eb78bb4773f03d7a078c4a6b5bccf864627ba9ba51fac47", func := "daguerre/daguerrelaw16.StateAll", spec := "stateAll", inPlace := ["maps.clone"], unfollowed := true, recurses := true, apart := false, narrowed := true }
def StateAllUptoSaid : Prop := stateAllUptoRow.holds Tryz.pinned (OpenSpec.upto stateAllSpec)

/-- 'daguerrelaw16.StateNone', WHERE WHAT IT READS IS OF BULK AT MOST 1048576: true; the input reads as it did. -/
def stateNoneUptoRow : OpenClaim := { program := "ytjbdfkapnffjnaagreat", sum := "1c70ef19f0ebdd5c6eb78bb4773f03d7a078c4a6b5bccf864627ba9ba51fac47", func := "daguerre/daguerrelaw16.StateNone", spec := "stateNone", inPlace := ["maps.clone"], unfollowed := true, recurses := true, apart := false, narrowed := true }
def StateNoneUptoSaid : Prop := stateNoneUptoRow.holds Tryz.pinned (OpenSpec.upto stateNoneSpec)

/-- 'daguerrelaw10.VerifyAll', WHERE WHAT IT READS IS OF BULK AT MOST 1048576: true; the input reads as it did. -/
def verifyAllUptoRow : OpenClaim := { program := "ytjbdfkapnffjnaagreat", sum := "1c70ef19f0ebdd5c6eb78bb4773f03d7a078c4a6b5bccf864627ba9ba51fac47", func := "daguerre/daguerrelaw10.VerifyAll", spec := "verifyAll", unfollowed := true, recurses := true, apart := false, narrowed := true }
def VerifyAllUptoSaid : Prop := verifyAllUptoRow.holds Tryz.pinned (OpenSpec.upto verifyAllSpec)

/-- 'daguerrelaw10.VerifyTurn', WHERE WHAT IT READS IS OF BULK AT MOST 1048576: true; the input reads as it did. -/
def verifyTurnUptoRow : OpenClaim := { program := "ytjbdfkapnffjnaagreat", sum := "1c70ef19f0ebdd5c6eb78bb4773f03d7a078c4a6b5bccf864627ba9ba51fac47", func := "daguerre/daguerrelaw10.VerifyTurn", spec := "verifyTurn", unfollowed := true, recurses := true, apart := false, narrowed := true }
def VerifyTurnUptoSaid : Prop := verifyTurnUptoRow.holds Tryz.pinned (OpenSpec.upto verifyTurnSpec)

/-- 'daguerrelaw10.VerifyStack', WHERE WHAT IT READS IS OF BULK AT MOST 1048576: true; the input reads as it did. -/
def verifyStackUptoRow : OpenClaim := { program := "ytjbdfkapnffjnaagreat", sum := "1c70ef19f0ebdd5c6eb78bb4773f03d7a078c4a6b5bccf864627ba9ba51fac47", func := "daguerre/daguerrelaw10.VerifyStack", spec := "verifyStack", unfollowed := true, recurses := true, apart := false, narrowed := true }
def VerifyStackUptoSaid : Prop := verifyStackUptoRow.holds Tryz.pinned (OpenSpec.upto verifyStackSpec)

/-- 'daguerrelaw10.VerifyMaps', WHERE WHAT IT READS IS OF BULK AT MOST 1048576: true; the input reads as it did. -/
def verifyMapsUptoRow : OpenClaim := { program := "ytjbdfkapnffjnaagreat", sum := "1c70ef19f0ebdd5c6eb78bb4773f03d7a078c4a6b5bccf864627ba9ba51fac47", func := "daguerre/daguerrelaw10.VerifyMaps", spec := "verifyMaps", unfollowed := true, recurses := true, apart := false, narrowed := true }
def VerifyMapsUptoSaid : Prop := verifyMapsUptoRow.holds Tryz.pinned (OpenSpec.upto verifyMapsSpec)

/-- 'daguerrelaw10.VerifyTraps', WHERE WHAT IT READS IS OF BULK AT MOST 1048576: true; the input reads as it did. -/
def verifyTrapsUptoRow : OpenClaim := { program := "ytjbdfkapnffjnaagreat", sum := "1c70ef19f0ebdd5c6eb78bb4773f03d7a078c4a6b5bccf864627ba9ba51fac47", func := "daguerre/daguerrelaw10.VerifyTraps", spec := "verifyTraps", unfollowed := true, recurses := true, apart := false, narrowed := true }
def VerifyTrapsUptoSaid : Prop := verifyTrapsUptoRow.holds Tryz.pinned (OpenSpec.upto verifyTrapsSpec)

/-- 'daguerrelaw10.VerifyReturn', WHERE WHAT IT READS IS OF BULK AT MOST 1048576: true; the input reads as it did. -/
def verifyReturnUptoRow : OpenClaim := { program := "ytjbdfkapnffjnaagreat", sum := "1c70ef19f0ebdd5c6eb78bb4773f03d7a078c4a6b5bccf864627ba9ba51fac47", func := "daguerre/daguerrelaw10.VerifyReturn", spec := "verifyReturn", unfollowed := true, recurses := true, apart := false, narrowed := true }
def VerifyReturnUptoSaid : Prop := verifyReturnUptoRow.holds Tryz.pinned (OpenSpec.upto verifyReturnSpec)

/-- 'daguerrelaw10.VerifyCall', WHERE WHAT IT READS IS OF BULK AT MOST 1048576: true; the input reads as it did. -/
def verifyCallUptoRow : OpenClaim := { program := "ytjbdfkapnffjnaagreat", sum := "1c70ef19f0ebdd5c6eb78bb4773f03d7a078c4a6b5bccf864627ba9ba51fac47", func := "daguerre/daguerrelaw10.VerifyCall", spec := "verifyCall", unfollowed := true, recurses := true, apart := false, narrowed := true }
def VerifyCallUptoSaid : Prop := verifyCallUptoRow.holds Tryz.pinned (OpenSpec.upto verifyCallSpec)

/-- 'daguerrelaw10.VerifyDead', WHERE WHAT IT READS IS OF BULK AT MOST 1048576: true; the input reads as it did. -/
def verifyDeadUptoRow : OpenClaim := { program := "ytjbdfkapnffjnaagreat", sum := "1c70ef19f0ebdd5c6eb78bb4773f03d7a078c4a6b5bccf864627ba9ba51fac47", func := "daguerre/daguerrelaw10.VerifyDead", spec := "verifyDead", unfollowed := true, recurses := true, apart := false, narrowed := true }
def VerifyDeadUptoSaid : Prop := verifyDeadUptoRow.holds Tryz.pinned (OpenSpec.upto verifyDeadSpec)

/-- 'daguerrelaw10.VerifySpace', WHERE WHAT IT READS IS OF BULK AT MOST 1048576: true; the input reads as it did. -/
def verifySpaceUptoRow : OpenClaim := { program := "ytjbdfkapnffjnaagreat", sum := "1c70ef19f0ebdd5c6eb78bb4773f03d7a078c4a6b5bccf864627ba9ba51fac47", func := "daguerre/daguerrelaw10.VerifySpace", spec := "verifySpace", unfollowed := true, recurses := true, apart := false, narrowed := true }
def VerifySpaceUptoSaid : Prop := verifySpaceUptoRow.holds Tryz.pinned (OpenSpec.upto verifySpaceSpec)

/-- 'daguerrelaw11.ClosedAll', WHERE WHAT IT READS IS OF BULK AT MOST 1048576: true; the input reads as it did. -/
def closedAllUptoRow : OpenClaim := { program := "ytjbdfkapnffjnaagreat", sum := "1c70ef19f0ebdd5c6eb78bb4773f03d7a078c4a6b5bccf864627ba9ba51fac47", func := "daguerre/daguerrelaw11.ClosedAll", spec := "closedAll", unfollowed := true, recurses := true, apart := false, narrowed := true }
def ClosedAllUptoSaid : Prop := closedAllUptoRow.holds Tryz.pinned (OpenSpec.upto closedAllSpec)

/-- 'daguerrelaw11.ClosedTurn', WHERE WHAT IT READS IS OF BULK AT MOST 1048576: true; the input reads as it did. -/
def closedTurnUptoRow : OpenClaim := { program := "ytjbdfkapnffjnaagreat", sum := "1c70ef19f0ebdd5c6eb78bb4773f03d7a078c4a6b5bccf864627ba9ba51fac47", func := "daguerre/daguerrelaw11.ClosedTurn", spec := "closedTurn", unfollowed := true, recurses := true, apart := false, narrowed := true }
def ClosedTurnUptoSaid : Prop := closedTurnUptoRow.holds Tryz.pinned (OpenSpec.upto closedTurnSpec)

/-- 'daguerrelaw11.ClosedOver', WHERE WHAT IT READS IS OF BULK AT MOST 1048576: true; the input reads as it did. -/
def closedOverUptoRow : OpenClaim := { program := "ytjbdfkapnffjnaagreat", sum := "1c70ef19f0ebdd5c6eb78bb4773f03d7a078c4a6b5bccf864627ba9ba51fac47", func := "daguerre/daguerrelaw11.ClosedOver", spec := "closedOver", unfollowed := true, recurses := true, apart := false, narrowed := true }
def ClosedOverUptoSaid : Prop := closedOverUptoRow.holds Tryz.pinned (OpenSpec.upto closedOverSpec)

/-- 'daguerrelaw11.ClosedFaces', WHERE WHAT IT READS IS OF BULK AT MOST 1048576: true; the input reads as it did. -/
def closedFacesUptoRow : OpenClaim := { program := "ytjbdfkapnffjnaagreat", sum := "1c70ef19f0ebdd5c6eb78bb4773f03d7a078c4a6b5bccf864627ba9ba51fac47", func := "daguerre/daguerrelaw11.ClosedFaces", spec := "closedFaces", unfollowed := true, recurses := true, apart := false, narrowed := true }
def ClosedFacesUptoSaid : Prop := closedFacesUptoRow.holds Tryz.pinned (OpenSpec.upto closedFacesSpec)

/-- 'daguerrelaw11.ClosedEntry', WHERE WHAT IT READS IS OF BULK AT MOST 1048576: true; the input reads as it did. -/
def closedEntryUptoRow : OpenClaim := { program := "ytjbdfkapnffjnaagreat", sum := "1c70ef19f0ebdd5c6eb78bb4773f03d7a078c4a6b5bccf864627ba9ba51fac47", func := "daguerre/daguerrelaw11.ClosedEntry", spec := "closedEntry", unfollowed := true, recurses := true, apart := false, narrowed := true }
def ClosedEntryUptoSaid : Prop := closedEntryUptoRow.holds Tryz.pinned (OpenSpec.upto closedEntrySpec)

/-- 'daguerrelaw11.ClosedFirst', WHERE WHAT IT READS IS OF BULK AT MOST 1048576: true; the input reads as it did. -/
def closedFirstUptoRow : OpenClaim := { program := "ytjbdfkapnffjnaagreat", sum := "1c70ef19f0ebdd5c6eb78bb4773f03d7a078c4a6b5bccf864627ba9ba51fac47", func := "daguerre/daguerrelaw11.ClosedFirst", spec := "closedFirst", unfollowed := true, recurses := true, apart := false, narrowed := true }
def ClosedFirstUptoSaid : Prop := closedFirstUptoRow.holds Tryz.pinned (OpenSpec.upto closedFirstSpec)

end Rows
end Go.Proofs.YtjbdfkapnffjnaaGreat
