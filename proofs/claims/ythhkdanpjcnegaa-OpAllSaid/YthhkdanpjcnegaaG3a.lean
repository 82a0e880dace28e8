/- Written by program (gen.py): what arguments read as. -/
import Derived.Test.YthhkdanpjcnegaaEn2
import Derived.Test.YthhkdanpjcnegaaG3
namespace Go.Proofs.Ythhkdanpjcnegaa
set_option linter.unusedVariables false
set_option maxRecDepth 100000
set_option maxHeartbeats 4000000
def wApiIns (x : ApiIns) : Prop := (wI .i64) x.Op ∧ (wI .i64) x.A ∧ (wS) x.C ∧ (wS) x.M
theorem gdApiIns {n : Nat} {avs : List AV} (h : Good Try.prog (n + 2) 44 avs) : ∃ x : ApiIns, avs = rApiIns x ∧ wApiIns x := by
  obtain ⟨parts, rfl, hl, hg⟩ := gdF Try.underlying44 h
  match parts, hl with
  | [p0, p1, p2, p3], _ =>
    obtain ⟨x0, rfl, w0⟩ := gdI Try.underlying3 (hg 0 _ p0 rfl rfl)
    obtain ⟨x1, rfl, w1⟩ := gdI Try.underlying3 (hg 1 _ p1 rfl rfl)
    obtain ⟨x2, rfl, w2⟩ := gdS Try.underlying9 (hg 2 _ p2 rfl rfl)
    obtain ⟨x3, rfl, w3⟩ := gdS Try.underlying9 (hg 3 _ p3 rfl rfl)
    exact ⟨⟨x0, x1, x2, x3⟩, rfl, w0, w1, w2, w3⟩
end Go.Proofs.Ythhkdanpjcnegaa
