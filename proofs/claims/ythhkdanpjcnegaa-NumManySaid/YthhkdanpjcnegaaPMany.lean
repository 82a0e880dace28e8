/- NUMBERS AS BYTES, NumMany: for every input the law returns true, and each argument reads as it read before. No further condition. -/
import Derived.Test.YthhkdanpjcnegaaEn
import Derived.Test.YthhkdanpjcnegaaN5
namespace Go.Proofs.Ythhkdanpjcnegaa
open Go.ChangeShapes Go.WideShapes Go.ChangeAt Go.RowKit Go.WideMaps Go.WideElems
open Go.ChangeMaps (open_string shut_string)

set_option maxRecDepth 100000 in
theorem numMany_lifted (os : Os) (started : os.Started) (H : Type) (enc : TypeId × Value → H) :
    ReturnsInHanded {} Try.checked os 4 .any (Rows.numManySpec.pre6 enc Try.prog Try.f4 Rows.numManyRow.domain false) (Rows.numManySpec.post enc Try.prog Try.f4 false true false false) := by
  refine returnsInHanded_of_change (C := Try.checked) Try.ownNot started (by kernel_rfl) Try.func4
    (ChangeSpec.witness6 (enc := enc) (C := Try.checked) false ⟨#[], #[.slice none 0 0], []⟩ 8 (by kernel_rfl) (by kernel_rfl) (by kernel_rfl) (by kernel_rfl)) ?_
  intro W base args ds gs before hval0 hW hcnd _
  have hval : ∀ (j : Nat) t v, Try.f4.params[j]? = some t → args[j]? = some v → Value.okWide Try.prog W .any base t v := hval0
  have hW' := hW
  obtain ⟨p, q, hA0, hV, rfl, hfz, hnd⟩ := hW
  have hA : DataW.TrodAll enc Try.prog W 0 (fun _ => true) true Try.f4.params.toList args.toList ds p := hA0
  have hts : Try.f4.params.toList.all (fun t => Try.prog.readableRec t && decide (t < Try.prog.types.size)) = true := by kernel_rfl
  rw [Try.params4] at hA hval
  obtain ⟨v0, vs0, d0, ds0, p0, q0, hargs, rfl, rfl, h0, r0⟩ := trodAll_cons hA
  obtain ⟨rfl, rfl, rfl⟩ := trodAll_nil r0
  obtain rfl : args = #[v0] := by cases args; simp_all
  obtain ⟨rfl, rfl⟩ := trodVars_none hV
  simp only [List.append_nil] at hW'
  have hlt := hW'.lt
  obtain ⟨z0, hz0⟩ := okWide_slice Try.underlying39 (hval 0 39 v0 rfl rfl)
  obtain ⟨zs0, x0, w0, l0⟩ := vi_ints Try.underlying39 Try.underlying2 (by kernel_rfl) (by obtain ⟨_, _, rfl⟩ := hz0; rfl) h0 (fun x hx => hlt x (by simp [hx]))
  refine ((many_pure zs0 (fun n hn => wf_i64 (w0 n hn)) l0).truly (vil_cons x0 (vil_nil))).mono fun e W' ⟨he, hg⟩ => ⟨.bool true, he, ?_⟩
  exact post_true Try.laidOut hW' hg hts rfl rfl Try.underlying4 rfl

/-- The statement. -/
theorem numMany_holds : Rows.NumManySaid :=
  OpenClaim.holds_of_wide 4 Try.f4 rfl rfl rfl rfl rfl rfl rfl ⟨rfl, rfl, rfl, rfl, rfl⟩ rfl rfl rfl rfl rfl (by kernel_rfl) Try.func4 (by kernel_rfl)
    (of_decide_eq_true (by kernel_rfl)) (by unfold Func.isWrapper; first | (rw [if_pos (by decide +kernel)]; kernel_rfl) | (rw [if_neg (by decide +kernel)]; exact ⟨rfl, rfl⟩))
    (fun os started H enc _ => numMany_lifted os started H enc)

end Go.Proofs.Ythhkdanpjcnegaa
