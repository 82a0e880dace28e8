/-
  No cell of these rows narrows 'for every input' (looked for: loops, veiled, ifaces, maps, wideKeys, modest, calm, conditions, laid).
  DERIVED. THE GIVEN ROWS OF THIS SEAT. 6 by the template 'for every input the law returns true; each argument reads behind the call as it read before'; 0 by the template 'total and deterministic' (their statements: YtdhpdpkcfffpiaaGreatTotals.lean).
  GIVEN WITH THE SEED: the statements are not yours to turn. If you find one false, say at which input.
  Laid BY PROGRAM, IN A SANDBOX (cutbox-rows.mjs): the forced cells as the released guide's own fill.sh prints them over the translation 1dd8936046e3443e… (all of the seat's roots in one cut). By AI agents, Wed Nov 11 2026. No macro, syntax, notation, axiom, sorry.
-/
import Derived.Test.YtdhpdpkcfffpiaaGreatChecked
import GoSem.Claim
import GoSem.ClaimJoined
import GoSem.ClaimMapViews
import Derived.JoinedTies
import Derived.KernelRfl
namespace Go.Proofs.YtdhpdpkcfffpiaaGreat
/- THE CELL 'sum', in the pinned program and in every row, IS THE sha256 OF THE DUMP (.gsa) THAT YtdhpdpkcfffpiaaGreatProg.lean LOADS. Nothing in Lean hashes anything: it is a label: what it is worth is what the hold of that sum in a sandbox is worth. -/
noncomputable def Tryz.pinned : Pinned := { name := "ytdhpdpkcfffpiaagreat", sum := "1dd8936046e3443eed3a616d6d64fb201489724d85e5cee3e9bb85f1c9918cf6", checked := Tryz.checked }
namespace Rows
def none {H : Type} : Left H := { results := [], args := [] }

/-- 'daguerrelaw5.ClassMaps': WHATEVER THE INPUT: true; the input reads as it did. -/
def classMapsSpec : ChangeSpec := { name := "classMaps", fn := fun _ => fun
  | [d1, d2, d3, d4, d5] => { results := [.lit (.bool true)], args := [d1, d2, d3, d4, d5] }
  | _ => none }
def classMapsRow : OpenClaim := { program := "ytdhpdpkcfffpiaagreat", sum := "1dd8936046e3443eed3a616d6d64fb201489724d85e5cee3e9bb85f1c9918cf6", func := "daguerre/daguerrelaw5.ClassMaps", spec := "classMaps", unfollowed := true, recurses := true, apart := false }
def ClassMapsSaid : Prop := classMapsRow.holds Tryz.pinned (OpenSpec.ofChange classMapsSpec)

/-- ITS FALSE NEIGHBOUR: 'it returns false'. Refute it at one input. -/
def classMapsWrong : ChangeSpec := { name := "classMaps", fn := fun _ => fun
  | [d1, d2, d3, d4, d5] => { results := [.lit (.bool false)], args := [d1, d2, d3, d4, d5] }
  | _ => none }
def ClassMapsWrongFalsely : Prop := classMapsRow.holds Tryz.pinned (OpenSpec.ofChange classMapsWrong)

/-- 'daguerrelaw6.FileAll': WHATEVER THE INPUT: true; the input reads as it did. -/
def fileAllSpec : ChangeSpec := { name := "fileAll", fn := fun _ => fun
  | [d1, d2] => { results := [.lit (.bool true)], args := [d1, d2] }
  | _ => none }
def fileAllRow : OpenClaim := { program := "ytdhpdpkcfffpiaagreat", sum := "1dd8936046e3443eed3a616d6d64fb201489724d85e5cee3e9bb85f1c9918cf6", func := "daguerre/daguerrelaw6.FileAll", spec := "fileAll", unfollowed := true, recurses := true, apart := false }
def FileAllSaid : Prop := fileAllRow.holds Tryz.pinned (OpenSpec.ofChange fileAllSpec)

/-- ITS FALSE NEIGHBOUR: 'it returns false'. Refute it at one input. -/
def fileAllWrong : ChangeSpec := { name := "fileAll", fn := fun _ => fun
  | [d1, d2] => { results := [.lit (.bool false)], args := [d1, d2] }
  | _ => none }
def FileAllWrongFalsely : Prop := fileAllRow.holds Tryz.pinned (OpenSpec.ofChange fileAllWrong)

/-- 'daguerrelaw6.FileAny': WHATEVER THE INPUT: true; the input reads as it did. -/
def fileAnySpec : ChangeSpec := { name := "fileAny", fn := fun _ => fun
  | [d1, d2, d3, d4, d5] => { results := [.lit (.bool true)], args := [d1, d2, d3, d4, d5] }
  | _ => none }
def fileAnyRow : OpenClaim := { program := "ytdhpdpkcfffpiaagreat", sum := "1dd8936046e3443eed3a616d6d64fb201489724d85e5cee3e9bb85f1c9918cf6", func := "daguerre/daguerrelaw6.FileAny", spec := "fileAny", unfollowed := true, recurses := true, apart := false }
def FileAnySaid : Prop := fileAnyRow.holds Tryz.pinned (OpenSpec.ofChange fileAnySpec)

/-- ITS FALSE NEIGHBOUR: 'it returns false'. Refute it at one input. -/
def fileAnyWrong : ChangeSpec := { name := "fileAny", fn := fun _ => fun
  | [d1, d2, d3, d4, d5] => { results := [.lit (.bool false)], args := [d1, d2, d3, d4, d5] }
  | _ => none }
def FileAnyWrongFalsely : Prop := fileAnyRow.holds Tryz.pinned (OpenSpec.ofChange fileAnyWrong)

/-- 'daguerrelaw6.FileTruths': WHATEVER THE INPUT: true; the input reads as it did. -/
def fileTruthsSpec : ChangeSpec := { name := "fileTruths", fn := fun _ => fun
  | [d] => { results := [.lit (.bool true)], args := [d] }
  | _ => none }
def fileTruthsRow : OpenClaim := { program := "ytdhpdpkcfffpiaagreat", sum := "1dd8936046e3443eed3a616d6d64fb201489724d85e5cee3e9bb85f1c9918cf6", func := "daguerre/daguerrelaw6.FileTruths", spec := "fileTruths", unfollowed := true, recurses := true, apart := false }
def FileTruthsSaid : Prop := fileTruthsRow.holds Tryz.pinned (OpenSpec.ofChange fileTruthsSpec)

/-- ITS FALSE NEIGHBOUR: 'it returns false'. Refute it at one input. -/
def fileTruthsWrong : ChangeSpec := { name := "fileTruths", fn := fun _ => fun
  | [d] => { results := [.lit (.bool false)], args := [d] }
  | _ => none }
def FileTruthsWrongFalsely : Prop := fileTruthsRow.holds Tryz.pinned (OpenSpec.ofChange fileTruthsWrong)

/-- 'daguerrelaw6.FileLong': WHATEVER THE INPUT: true; the input reads as it did. -/
def fileLongSpec : ChangeSpec := { name := "fileLong", fn := fun _ => fun
  | [d1, d2, d3] => { results := [.lit (.bool true)], args := [d1, d2, d3] }
  | _ => none }
def fileLongRow : OpenClaim := { program := "ytdhpdpkcfffpiaagreat", sum := "1dd8936046e3443eed3a616d6d64fb201489724d85e5cee3e9bb85f1c9918cf6", func := "daguerre/daguerrelaw6.FileLong", spec := "fileLong", unfollowed := true, recurses := true, apart := false }
def FileLongSaid : Prop := fileLongRow.holds Tryz.pinned (OpenSpec.ofChange fileLongSpec)

/-- ITS FALSE NEIGHBOUR: 'it returns false'. Refute it at one input. -/
def fileLongWrong : ChangeSpec := { name := "fileLong", fn := fun _ => fun
  | [d1, d2, d3] => { results := [.lit (.bool false)], args := [d1, d2, d3] }
  | _ => none }
def FileLongWrongFalsely : Prop := fileLongRow.holds Tryz.pinned (OpenSpec.ofChange fileLongWrong)

/-- 'daguerrelaw6.FileSame': WHATEVER THE INPUT: true; the input reads as it did. -/
def fileSameSpec : ChangeSpec := { name := "fileSame", fn := fun _ => fun
  | [d1, d2] => { results := [.lit (.bool true)], args := [d1, d2] }
  | _ => none }
def fileSameRow : OpenClaim := { program := "ytdhpdpkcfffpiaagreat", sum := "1dd8936046e3443eed3a616d6d64fb201489724d85e5cee3e9bb85f1c9918cf6", func := "daguerre/daguerrelaw6.FileSame", spec := "fileSame", unfollowed := true, recurses := true, apart := false }
def FileSameSaid : Prop := fileSameRow.holds Tryz.pinned (OpenSpec.ofChange fileSameSpec)

/-- ITS FALSE NEIGHBOUR: 'it returns false'. Refute it at one input. -/
def fileSameWrong : ChangeSpec := { name := "fileSame", fn := fun _ => fun
  | [d1, d2] => { results := [.lit (.bool false)], args := [d1, d2] }
  | _ => none }
def FileSameWrongFalsely : Prop := fileSameRow.holds Tryz.pinned (OpenSpec.ofChange fileSameWrong)

/- THE SECOND FORM. 'bulk': how many values and letters a reading holds, each counted each time it is reached (what is shared counts as often as it is met; a slice's spare places count too). A statement '..UptoSaid' is the law's where the arguments, and the package variables that the reading takes, are together of bulk at most 1048576: NARROWER than '..Said'. Prove '..Said' where nothing that the law and all that it calls make is longer than what came in: it says more and counts as full. Else prove '..UptoSaid'. A law counts once. -/
mutual
def uptoBulk {H : Type} : DataW H → Nat
  | .lit (.string bytes) => bytes.length + 1
  | .lit _ => 1
  | .nil => 1
  | .ptr d => uptoBulk d + 1
  | .slice elems spare => uptoBulkAll elems + uptoBulkAll spare + 1
  | .agg parts => uptoBulkAll parts + 1
  | .iface _ d => uptoBulk d + 1
  | .map entries => uptoBulkEntries entries + 1
  | .held _ => 1
def uptoBulkAll {H : Type} : List (DataW H) → Nat
  | [] => 0
  | d :: r => uptoBulk d + uptoBulkAll r
def uptoBulkEntries {H : Type} : List (Lit × DataW H) → Nat
  | [] => 0
  | x :: r => uptoBulkEntry x + uptoBulkEntries r
def uptoBulkEntry {H : Type} : Lit × DataW H → Nat
  | (.string bytes, d) => bytes.length + uptoBulk d + 1
  | (_, d) => uptoBulk d + 1
 end
def uptoSmall : (H : Type) → List (DataW H) → Bool := fun _ ds => decide (uptoBulkAll ds ≤ 1048576)
def OpenSpec.upto (s : _root_.Go.ChangeSpec) : _root_.Go.OpenSpec := { _root_.Go.OpenSpec.ofChange s with cond := some uptoSmall }

/-- 'daguerrelaw5.ClassMaps', WHERE WHAT IT READS IS OF BULK AT MOST 1048576: true; the input reads as it did. -/
def classMapsUptoRow : OpenClaim := { program := "ytdhpdpkcfffpiaagreat", sum := "1dd8936046e3443eed3a616d6d64fb201489724d85e5cee3e9bb85f1c9918cf6", func := "daguerre/daguerrelaw5.ClassMaps", spec := "classMaps", unfollowed := true, recurses := true, apart := false, narrowed := true }
def ClassMapsUptoSaid : Prop := classMapsUptoRow.holds Tryz.pinned (OpenSpec.upto classMapsSpec)

/-- 'daguerrelaw6.FileAll', WHERE WHAT IT READS IS OF BULK AT MOST 1048576: true; the input reads as it did. -/
def fileAllUptoRow : OpenClaim := { program := "ytdhpdpkcfffpiaagreat", sum := "1dd8936046e3443eed3a616d6d64fb201489724d85e5cee3e9bb85f1c9918cf6", func := "daguerre/daguerrelaw6.FileAll", spec := "fileAll", unfollowed := true, recurses := true, apart := false, narrowed := true }
def FileAllUptoSaid : Prop := fileAllUptoRow.holds Tryz.pinned (OpenSpec.upto fileAllSpec)

/-- 'daguerrelaw6.FileAny', WHERE WHAT IT READS IS OF BULK AT MOST 1048576: true; the input reads as it did. -/
def fileAnyUptoRow : OpenClaim := { program := "ytdhpdpkcfffpiaagreat", sum := "1dd8936046e3443eed3a616d6d64fb201489724d85e5cee3e9bb85f1c9918cf6", func := "daguerre/daguerrelaw6.FileAny", spec := "fileAny", unfollowed := true, recurses := true, apart := false, narrowed := true }
def FileAnyUptoSaid : Prop := fileAnyUptoRow.holds Tryz.pinned (OpenSpec.upto fileAnySpec)

/-- 'daguerrelaw6.FileTruths', WHERE WHAT IT READS IS OF BULK AT MOST 1048576: true; the input reads as it did. -/
def fileTruthsUptoRow : OpenClaim := { program := "ytdhpdpkcfffpiaagreat", sum := "1dd8936046e3443eed3a616d6d64fb201489724d85e5cee3e9bb85f1c9918cf6", func := "daguerre/daguerrelaw6.FileTruths", spec := "fileTruths", unfollowed := true, recurses := true, apart := false, narrowed := true }
def FileTruthsUptoSaid : Prop := fileTruthsUptoRow.holds Tryz.pinned (OpenSpec.upto fileTruthsSpec)

/-- 'daguerrelaw6.FileLong', WHERE WHAT IT READS IS OF BULK AT MOST 1048576: true; the input reads as it did. -/
def fileLongUptoRow : OpenClaim := { program := "ytdhpdpkcfffpiaagreat", sum := "1dd8936046e3443eed3a616d6d64fb201489724d85e5cee3e9bb85f1c9918cf6", func := "daguerre/daguerrelaw6.FileLong", spec := "fileLong", unfollowed := true, recurses := true, apart := false, narrowed := true }
def FileLongUptoSaid : Prop := fileLongUptoRow.holds Tryz.pinned (OpenSpec.upto fileLongSpec)

/-- 'daguerrelaw6.FileSame', WHERE WHAT IT READS IS OF BULK AT MOST 1048576: true; the input reads as it did. -/
def fileSameUptoRow : OpenClaim := { program := "ytdhpdpkcfffpiaagreat", sum := "1dd8936046e3443eed3a616d6d64fb201489724d85e5cee3e9bb85f1c9918cf6", func := "daguerre/daguerrelaw6.FileSame", spec := "fileSame", unfollowed := true, recurses := true, apart := false, narrowed := true }
def FileSameUptoSaid : Prop := fileSameUptoRow.holds Tryz.pinned (OpenSpec.upto fileSameSpec)

end Rows
end Go.Proofs.YtdhpdpkcfffpiaaGreat
