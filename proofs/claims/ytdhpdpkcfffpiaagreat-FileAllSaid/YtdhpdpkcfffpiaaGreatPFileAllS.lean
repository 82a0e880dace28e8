/- FileAll: for every input the law returns true, and each argument reads as it read before. No further condition. Part 8 of 8. -/
import Derived.Test.YtdhpdpkcfffpiaaGreatS7
import Derived.Test.YtdhpdpkcfffpiaaGreatRows
namespace Go.Proofs.YtdhpdpkcfffpiaaGreat
open Go.ChangeShapes Go.WideShapes Go.ChangeAt Go.RowKit Go.WideMaps Go.WideElems
open Go.ChangeMaps (open_string shut_string)
set_option maxRecDepth 100000 in
theorem fileAll_lifted (os : Os) (started : os.Started) (H : Type) (enc : TypeId × Value → H) :
    ReturnsInHanded {} Tryz.checked os 4 .any (Rows.fileAllSpec.pre6 enc Tryz.prog Tryz.f4 Rows.fileAllRow.domain false) (Rows.fileAllSpec.post enc Tryz.prog Tryz.f4 false true false false) := by
  refine returnsInHanded_of_change (C := Tryz.checked) Tryz.ownNot started (by kernel_rfl) Tryz.func4
    (ChangeSpec.witness6 (enc := enc) (C := Tryz.checked) false ⟨#[], #[.agg #[.string ⟨#[]⟩, .string ⟨#[]⟩, .bool false, .slice none 0 0, .slice none 0 0, .slice none 0 0], .agg #[.string ⟨#[]⟩, .string ⟨#[]⟩, .bool false, .slice none 0 0, .slice none 0 0, .slice none 0 0]], []⟩ 12 (by kernel_rfl) (by kernel_rfl) (by kernel_rfl) (by kernel_rfl)) ?_
  intro W base args ds gs before hval0 hW hcnd _
  have hval : ∀ (j : Nat) t v, Tryz.f4.params[j]? = some t → args[j]? = some v → Value.okWide Tryz.prog W .any base t v := hval0
  have hW' := hW
  obtain ⟨p, q, hA0, hV, rfl, hfz, hnd⟩ := hW
  have hA : DataW.TrodAll enc Tryz.prog W 0 (fun _ => true) true Tryz.f4.params.toList args.toList ds p := hA0
  have hts : Tryz.f4.params.toList.all (fun t => Tryz.prog.readableRec t && decide (t < Tryz.prog.types.size)) = true := by kernel_rfl
  rw [Tryz.params4] at hA hval
  obtain ⟨v0, vs0, d0, ds0, p0, q0, hargs, rfl, rfl, h0, r0⟩ := trodAll_cons hA
  obtain ⟨v1, vs1, d1, ds1, p1, q1, rfl, rfl, rfl, h1, r1⟩ := trodAll_cons r0
  obtain ⟨rfl, rfl, rfl⟩ := trodAll_nil r1
  obtain rfl : args = #[v0, v1] := by cases args; simp_all
  obtain ⟨rfl, rfl⟩ := trodVars_none hV
  simp only [List.append_nil] at hW'
  have hlt := hW'.lt
  obtain ⟨z0, rfl⟩ := okWide_struct Tryz.underlying28 (hval 0 28 v0 rfl rfl)
  obtain ⟨a0, g0, y0⟩ := read_arg (n := 8) (by kernel_rfl) h0 (fun x hx => hlt x (by simp [hx]))
  obtain ⟨x0, rfl, w0⟩ := gdApiClass g0
  have y0' := arg_agg y0
  obtain ⟨z1, rfl⟩ := okWide_struct Tryz.underlying28 (hval 1 28 v1 rfl rfl)
  obtain ⟨a1, g1, y1⟩ := read_arg (n := 8) (by kernel_rfl) h1 (fun x hx => hlt x (by simp [hx]))
  obtain ⟨x1, rfl, w1⟩ := gdApiClass g1
  have y1' := arg_agg y1
  refine ((fileAll_pure x0 x1 w0 w1).truly (vil_cons y0' (vil_cons y1' vil_nil))).mono fun e W' ⟨he, hg⟩ => ⟨.bool true, he, ?_⟩
  exact post_true Tryz.laidOut hW' hg hts rfl rfl Tryz.underlying4 rfl
theorem fileAll_holds : Rows.FileAllSaid :=
  OpenClaim.holds_of_wide 4 Tryz.f4 rfl rfl rfl rfl rfl rfl rfl ⟨rfl, rfl, rfl, rfl, rfl⟩ rfl rfl rfl rfl rfl (by kernel_rfl) Tryz.func4 (by kernel_rfl)
    (of_decide_eq_true (by kernel_rfl)) (by unfold Func.isWrapper; first | (rw [if_pos (by decide +kernel)]; kernel_rfl) | (rw [if_neg (by decide +kernel)]; exact ⟨rfl, rfl⟩))
    (fun os started H enc _ => fileAll_lifted os started H enc)
end Go.Proofs.YtdhpdpkcfffpiaaGreat
