/-
  No cell of these rows narrows 'for every input' (looked for: loops, veiled, ifaces, maps, wideKeys, modest, calm, conditions, laid).
  DERIVED. THE GIVEN ROWS OF THIS SEAT. 9 by the template 'for every input the law returns true; each argument reads behind the call as it read before'; 0 by the template 'total and deterministic' (their statements: YthhkdanpjcnegaaTotals.lean).
  GIVEN WITH THE SEED: the statements are not yours to turn. If you find one false, say at which input.
  Laid BY PROGRAM, IN A SANDBOX (cutbox-rows.mjs): the forced cells as the released guide's own fill.sh prints them over the translation a78500d1b60dceb1… (all of the seat's roots in one cut). By AI agents, Wed Nov 11 2026. No macro, syntax, notation, axiom, sorry.
-/
import Derived.Test.YthhkdanpjcnegaaChecked
import GoSem.Claim
import GoSem.ClaimJoined
import GoSem.ClaimMapViews
import Derived.JoinedTies
import Derived.KernelRfl
namespace Go.Proofs.Ythhkdanpjcnegaa
/- THE CELL 'sum', in the pinned program and in every row, IS THE sha256 OF THE DUMP (.gsa) THAT YthhkdanpjcnegaaProg.lean LOADS. Nothing in Lean hashes anything: it is a label: what it is worth is what the hold of that sum in a sandbox is worth. -/
noncomputable def Try.pinned : Pinned := { name := "ythhkdanpjcnegaa", sum := "a78500d1b60dceb13b686642a5699a36747f79f7735655517c658609e4d31fa3", checked := Try.checked }
namespace Rows
def none {H : Type} : Left H := { results := [], args := [] }

/-- 'daguerrelaw1.NumBack': WHATEVER THE INPUT: true; the input reads as it did. -/
def numBackSpec : ChangeSpec := { name := "numBack", fn := fun _ => fun
  | [d1, d2, d3, d4, d5] => { results := [.lit (.bool true)], args := [d1, d2, d3, d4, d5] }
  | _ => none }
def numBackRow : OpenClaim := { program := "ythhkdanpjcnegaa", sum := "a78500d1b60dceb13b686642a5699a36747f79f7735655517c658609e4d31fa3", func := "daguerre/daguerrelaw1.NumBack", spec := "numBack", apart := false }
def NumBackSaid : Prop := numBackRow.holds Try.pinned (OpenSpec.ofChange numBackSpec)

/-- ITS FALSE NEIGHBOUR: 'it returns false'. Refute it at one input. -/
def numBackWrong : ChangeSpec := { name := "numBack", fn := fun _ => fun
  | [d1, d2, d3, d4, d5] => { results := [.lit (.bool false)], args := [d1, d2, d3, d4, d5] }
  | _ => none }
def NumBackWrongFalsely : Prop := numBackRow.holds Try.pinned (OpenSpec.ofChange numBackWrong)

/-- 'daguerrelaw1.NumMany': WHATEVER THE INPUT: true; the input reads as it did. -/
def numManySpec : ChangeSpec := { name := "numMany", fn := fun _ => fun
  | [d] => { results := [.lit (.bool true)], args := [d] }
  | _ => none }
def numManyRow : OpenClaim := { program := "ythhkdanpjcnegaa", sum := "a78500d1b60dceb13b686642a5699a36747f79f7735655517c658609e4d31fa3", func := "daguerre/daguerrelaw1.NumMany", spec := "numMany", apart := false }
def NumManySaid : Prop := numManyRow.holds Try.pinned (OpenSpec.ofChange numManySpec)

/-- ITS FALSE NEIGHBOUR: 'it returns false'. Refute it at one input. -/
def numManyWrong : ChangeSpec := { name := "numMany", fn := fun _ => fun
  | [d] => { results := [.lit (.bool false)], args := [d] }
  | _ => none }
def NumManyWrongFalsely : Prop := numManyRow.holds Try.pinned (OpenSpec.ofChange numManyWrong)

/-- 'daguerrelaw1.NumCut': WHATEVER THE INPUT: true; the input reads as it did. -/
def numCutSpec : ChangeSpec := { name := "numCut", fn := fun _ => fun
  | [d1, d2, d3] => { results := [.lit (.bool true)], args := [d1, d2, d3] }
  | _ => none }
def numCutRow : OpenClaim := { program := "ythhkdanpjcnegaa", sum := "a78500d1b60dceb13b686642a5699a36747f79f7735655517c658609e4d31fa3", func := "daguerre/daguerrelaw1.NumCut", spec := "numCut", apart := false }
def NumCutSaid : Prop := numCutRow.holds Try.pinned (OpenSpec.ofChange numCutSpec)

/-- ITS FALSE NEIGHBOUR: 'it returns false'. Refute it at one input. -/
def numCutWrong : ChangeSpec := { name := "numCut", fn := fun _ => fun
  | [d1, d2, d3] => { results := [.lit (.bool false)], args := [d1, d2, d3] }
  | _ => none }
def NumCutWrongFalsely : Prop := numCutRow.holds Try.pinned (OpenSpec.ofChange numCutWrong)

/-- 'daguerrelaw1.NumOrder': WHATEVER THE INPUT: true; the input reads as it did. -/
def numOrderSpec : ChangeSpec := { name := "numOrder", fn := fun _ => fun
  | [d1, d2] => { results := [.lit (.bool true)], args := [d1, d2] }
  | _ => none }
def numOrderRow : OpenClaim := { program := "ythhkdanpjcnegaa", sum := "a78500d1b60dceb13b686642a5699a36747f79f7735655517c658609e4d31fa3", func := "daguerre/daguerrelaw1.NumOrder", spec := "numOrder", apart := false }
def NumOrderSaid : Prop := numOrderRow.holds Try.pinned (OpenSpec.ofChange numOrderSpec)

/-- ITS FALSE NEIGHBOUR: 'it returns false'. Refute it at one input. -/
def numOrderWrong : ChangeSpec := { name := "numOrder", fn := fun _ => fun
  | [d1, d2] => { results := [.lit (.bool false)], args := [d1, d2] }
  | _ => none }
def NumOrderWrongFalsely : Prop := numOrderRow.holds Try.pinned (OpenSpec.ofChange numOrderWrong)

/-- 'daguerrelaw4.OpAll': WHATEVER THE INPUT: true; the input reads as it did. -/
def opAllSpec : ChangeSpec := { name := "opAll", fn := fun _ => fun
  | [d1, d2, d3, d4] => { results := [.lit (.bool true)], args := [d1, d2, d3, d4] }
  | _ => none }
def opAllRow : OpenClaim := { program := "ythhkdanpjcnegaa", sum := "a78500d1b60dceb13b686642a5699a36747f79f7735655517c658609e4d31fa3", func := "daguerre/daguerrelaw4.OpAll", spec := "opAll", unfollowed := true, recurses := true, apart := false }
def OpAllSaid : Prop := opAllRow.holds Try.pinned (OpenSpec.ofChange opAllSpec)

/-- ITS FALSE NEIGHBOUR: 'it returns false'. Refute it at one input. -/
def opAllWrong : ChangeSpec := { name := "opAll", fn := fun _ => fun
  | [d1, d2, d3, d4] => { results := [.lit (.bool false)], args := [d1, d2, d3, d4] }
  | _ => none }
def OpAllWrongFalsely : Prop := opAllRow.holds Try.pinned (OpenSpec.ofChange opAllWrong)

/-- 'daguerrelaw4.OpEach': WHATEVER THE INPUT: true; the input reads as it did. -/
def opEachSpec : ChangeSpec := { name := "opEach", fn := fun _ => fun
  | [d1, d2, d3, d4] => { results := [.lit (.bool true)], args := [d1, d2, d3, d4] }
  | _ => none }
def opEachRow : OpenClaim := { program := "ythhkdanpjcnegaa", sum := "a78500d1b60dceb13b686642a5699a36747f79f7735655517c658609e4d31fa3", func := "daguerre/daguerrelaw4.OpEach", spec := "opEach", unfollowed := true, recurses := true, apart := false }
def OpEachSaid : Prop := opEachRow.holds Try.pinned (OpenSpec.ofChange opEachSpec)

/-- ITS FALSE NEIGHBOUR: 'it returns false'. Refute it at one input. -/
def opEachWrong : ChangeSpec := { name := "opEach", fn := fun _ => fun
  | [d1, d2, d3, d4] => { results := [.lit (.bool false)], args := [d1, d2, d3, d4] }
  | _ => none }
def OpEachWrongFalsely : Prop := opEachRow.holds Try.pinned (OpenSpec.ofChange opEachWrong)

/-- 'daguerrelaw4.OpMany': WHATEVER THE INPUT: true; the input reads as it did. -/
def opManySpec : ChangeSpec := { name := "opMany", fn := fun _ => fun
  | [d] => { results := [.lit (.bool true)], args := [d] }
  | _ => none }
def opManyRow : OpenClaim := { program := "ythhkdanpjcnegaa", sum := "a78500d1b60dceb13b686642a5699a36747f79f7735655517c658609e4d31fa3", func := "daguerre/daguerrelaw4.OpMany", spec := "opMany", unfollowed := true, recurses := true, apart := false }
def OpManySaid : Prop := opManyRow.holds Try.pinned (OpenSpec.ofChange opManySpec)

/-- ITS FALSE NEIGHBOUR: 'it returns false'. Refute it at one input. -/
def opManyWrong : ChangeSpec := { name := "opMany", fn := fun _ => fun
  | [d] => { results := [.lit (.bool false)], args := [d] }
  | _ => none }
def OpManyWrongFalsely : Prop := opManyRow.holds Try.pinned (OpenSpec.ofChange opManyWrong)

/-- 'daguerrelaw5.ClassLimits': WHATEVER THE INPUT: true; the input reads as it did. -/
def classLimitsSpec : ChangeSpec := { name := "classLimits", fn := fun _ => fun
  | [d1, d2, d3, d4, d5] => { results := [.lit (.bool true)], args := [d1, d2, d3, d4, d5] }
  | _ => none }
def classLimitsRow : OpenClaim := { program := "ythhkdanpjcnegaa", sum := "a78500d1b60dceb13b686642a5699a36747f79f7735655517c658609e4d31fa3", func := "daguerre/daguerrelaw5.ClassLimits", spec := "classLimits", unfollowed := true, recurses := true, apart := false }
def ClassLimitsSaid : Prop := classLimitsRow.holds Try.pinned (OpenSpec.ofChange classLimitsSpec)

/-- ITS FALSE NEIGHBOUR: 'it returns false'. Refute it at one input. -/
def classLimitsWrong : ChangeSpec := { name := "classLimits", fn := fun _ => fun
  | [d1, d2, d3, d4, d5] => { results := [.lit (.bool false)], args := [d1, d2, d3, d4, d5] }
  | _ => none }
def ClassLimitsWrongFalsely : Prop := classLimitsRow.holds Try.pinned (OpenSpec.ofChange classLimitsWrong)

/-- 'daguerrelaw5.ClassNames': WHATEVER THE INPUT: true; the input reads as it did. -/
def classNamesSpec : ChangeSpec := { name := "classNames", fn := fun _ => fun
  | [d1, d2, d3] => { results := [.lit (.bool true)], args := [d1, d2, d3] }
  | _ => none }
def classNamesRow : OpenClaim := { program := "ythhkdanpjcnegaa", sum := "a78500d1b60dceb13b686642a5699a36747f79f7735655517c658609e4d31fa3", func := "daguerre/daguerrelaw5.ClassNames", spec := "classNames", unfollowed := true, recurses := true, apart := false }
def ClassNamesSaid : Prop := classNamesRow.holds Try.pinned (OpenSpec.ofChange classNamesSpec)

/-- ITS FALSE NEIGHBOUR: 'it returns false'. Refute it at one input. -/
def classNamesWrong : ChangeSpec := { name := "classNames", fn := fun _ => fun
  | [d1, d2, d3] => { results := [.lit (.bool false)], args := [d1, d2, d3] }
  | _ => none }
def ClassNamesWrongFalsely : Prop := classNamesRow.holds Try.pinned (OpenSpec.ofChange classNamesWrong)

/- THE SECOND FORM. 'bulk': how many values and letters a reading holds, each counted each time it is reached (what is shared counts as often as it is met; a slice's spare places count too). A statement '..UptoSaid' is the law's where the arguments, and the package variables that the reading takes, are together of bulk at most 1048576: NARROWER than '..Said'. Prove '..Said' where nothing that the law and all that it calls make is longer than what came in: it says more and counts as full. Else prove '..UptoSaid'. A law counts once. -/
mutual
def uptoBulk {H : Type} : DataW H → Nat
  | .lit (.string bytes) => bytes.length + 1
  | .lit _ => 1
  | .nil => 1
  | .ptr d => uptoBulk d + 1
  | .slice elems spare => uptoBulkAll elems + uptoBulkAll spare + 1
  | .agg parts => uptoBulkAll parts + 1
  | .iface _ d => uptoBulk d + 1
  | .map entries => uptoBulkEntries entries + 1
  | .held _ => 1
def uptoBulkAll {H : Type} : List (DataW H) → Nat
  | [] => 0
  | d :: r => uptoBulk d + uptoBulkAll r
def uptoBulkEntries {H : Type} : List (Lit × DataW H) → Nat
  | [] => 0
  | x :: r => uptoBulkEntry x + uptoBulkEntries r
def uptoBulkEntry {H : Type} : Lit × DataW H → Nat
  | (.string bytes, d) => bytes.length + uptoBulk d + 1
  | (_, d) => uptoBulk d + 1
 end
def uptoSmall : (H : Type) → List (DataW H) → Bool := fun _ ds => decide (uptoBulkAll ds ≤ 1048576)
def OpenSpec.upto (s : _root_.Go.ChangeSpec) : _root_.Go.OpenSpec := { _root_.Go.OpenSpec.ofChange s with cond := some uptoSmall }

/-- 'daguerrelaw1.NumBack', WHERE WHAT IT READS IS OF BULK AT MOST 1048576: true; the input reads as it did. -/
def numBackUptoRow : OpenClaim := { program := "ythhkdanpjcnegaa", sum := "a78500d1b60dceb13b686642a5699a36747f79f7735655517c658609e4d31fa3", func := "daguerre/daguerrelaw1.NumBack", spec := "numBack", apart := false, narrowed := true }
def NumBackUptoSaid : Prop := numBackUptoRow.holds Try.pinned (OpenSpec.upto numBackSpec)

/-- 'daguerrelaw1.NumMany', WHERE WHAT IT READS IS OF BULK AT MOST 1048576: true; the input reads as it did. -/
def numManyUptoRow : OpenClaim := { program := "ythhkdanpjcnegaa", sum := "a78500d1b60dceb13b686642a5699a36747f79f7735655517c658609e4d31fa3", func := "daguerre/daguerrelaw1.NumMany", spec := "numMany", apart := false, narrowed := true }
def NumManyUptoSaid : Prop := numManyUptoRow.holds Try.pinned (OpenSpec.upto numManySpec)

/-- 'daguerrelaw1.NumCut', WHERE WHAT IT READS IS OF BULK AT MOST 1048576: true; the input reads as it did. -/
def numCutUptoRow : OpenClaim := { program := "ythhkdanpjcnegaa", sum := "a78500d1b60dceb13b686642a5699a36747f79f7735655517c658609e4d31fa3", func := "daguerre/daguerrelaw1.NumCut", spec := "numCut", apart := false, narrowed := true }
def NumCutUptoSaid : Prop := numCutUptoRow.holds Try.pinned (OpenSpec.upto numCutSpec)

/-- 'daguerrelaw1.NumOrder', WHERE WHAT IT READS IS OF BULK AT MOST 1048576: true; the input reads as it did. -/
def numOrderUptoRow : OpenClaim := { program := "ythhkdanpjcnegaa", sum := "a78500d1b60dceb13b686642a5699a36747f79f7735655517c658609e4d31fa3", func := "daguerre/daguerrelaw1.NumOrder", spec := "numOrder", apart := false, narrowed := true }
def NumOrderUptoSaid : Prop := numOrderUptoRow.holds Try.pinned (OpenSpec.upto numOrderSpec)

/-- 'daguerrelaw4.OpAll', WHERE WHAT IT READS IS OF BULK AT MOST 1048576: true; the input reads as it did. -/
def opAllUptoRow : OpenClaim := { program := "ythhkdanpjcnegaa", sum := "a78500d1b60dceb13b686642a5699a36747f79f7735655517c658609e4d31fa3", func := "daguerre/daguerrelaw4.OpAll", spec := "opAll", unfollowed := true, recurses := true, apart := false, narrowed := true }
def OpAllUptoSaid : Prop := opAllUptoRow.holds Try.pinned (OpenSpec.upto opAllSpec)

/-- 'daguerrelaw4.OpEach', WHERE WHAT IT READS IS OF BULK AT MOST 1048576: true; the input reads as it did. -/
def opEachUptoRow : OpenClaim := { program := "ythhkdanpjcnegaa", sum := "a78500d1b60dceb13b686642a5699a36747f79f7735655517c658609e4d31fa3", func := "daguerre/daguerrelaw4.OpEach", spec := "opEach", unfollowed := true, recurses := true, apart := false, narrowed := true }
def OpEachUptoSaid : Prop := opEachUptoRow.holds Try.pinned (OpenSpec.upto opEachSpec)

/-- 'daguerrelaw4.OpMany', WHERE WHAT IT READS IS OF BULK AT MOST 1048576: true; the input reads as it did. -/
def opManyUptoRow : OpenClaim := { program := "ythhkdanpjcnegaa", sum := "a78500d1b60dceb13b686642a5699a36747f79f7735655517c658609e4d31fa3", func := "daguerre/daguerrelaw4.OpMany", spec := "opMany", unfollowed := true, recurses := true, apart := false, narrowed := true }
def OpManyUptoSaid : Prop := opManyUptoRow.holds Try.pinned (OpenSpec.upto opManySpec)

/-- 'daguerrelaw5.ClassLimits', WHERE WHAT IT READS IS OF BULK AT MOST 1048576: true; the input reads as it did. -/
def classLimitsUptoRow : OpenClaim := { program := "ythhkdanpjcnegaa", sum := "a78500d1b60dceb13b686642a5699a36747f79f7735655517c658609e4d31fa3", func := "daguerre/daguerrelaw5.ClassLimits", spec := "classLimits", unfollowed := true, recurses := true, apart := false, narrowed := true }
def ClassLimitsUptoSaid : Prop := classLimitsUptoRow.holds Try.pinned (OpenSpec.upto classLimitsSpec)

/-- 'daguerrelaw5.ClassNames', WHERE WHAT IT READS IS OF BULK AT MOST 1048576: true; the input reads as it did. -/
def classNamesUptoRow : OpenClaim := { program := "ythhkdanpjcnegaa", sum := "a78500d1b60dceb13b686642a5699a36747f79f7735655517c658609e4d31fa3", func := "daguerre/daguerrelaw5.ClassNames", spec := "classNames", unfollowed := true, recurses := true, apart := false, narrowed := true }
def ClassNamesUptoSaid : Prop := classNamesUptoRow.holds Try.pinned (OpenSpec.upto classNamesSpec)

end Rows
end Go.Proofs.Ythhkdanpjcnegaa
