/- OpAll: for every input the law returns true, and each argument reads as it read before. No further condition. -/
import Derived.Test.YthhkdanpjcnegaaEn2
import Derived.Test.YthhkdanpjcnegaaQ7
namespace Go.Proofs.Ythhkdanpjcnegaa
open Go.ChangeShapes Go.WideShapes Go.ChangeAt Go.RowKit Go.WideMaps Go.WideElems
open Go.ChangeMaps (open_string shut_string)

set_option maxRecDepth 100000 in
theorem opAll_lifted (os : Os) (started : os.Started) (H : Type) (enc : TypeId × Value → H) :
    ReturnsInHanded {} Try.checked os 7 .any (Rows.opAllSpec.pre6 enc Try.prog Try.f7 Rows.opAllRow.domain false) (Rows.opAllSpec.post enc Try.prog Try.f7 false true false false) := by
  refine returnsInHanded_of_change (C := Try.checked) Try.ownNot started (by kernel_rfl) Try.func7
    (ChangeSpec.witness6 (enc := enc) (C := Try.checked) false ⟨#[], #[.agg #[.int .i64 0, .int .i64 0, .string ⟨#[]⟩, .string ⟨#[]⟩], .agg #[.int .i64 0, .int .i64 0, .string ⟨#[]⟩, .string ⟨#[]⟩], .slice none 0 0, .slice none 0 0], []⟩ 12 (by kernel_rfl) (by kernel_rfl) (by kernel_rfl) (by kernel_rfl)) ?_
  intro W base args ds gs before hval0 hW hcnd _
  have hval : ∀ (j : Nat) t v, Try.f7.params[j]? = some t → args[j]? = some v → Value.okWide Try.prog W .any base t v := hval0
  have hW' := hW
  obtain ⟨p, q, hA0, hV, rfl, hfz, hnd⟩ := hW
  have hA : DataW.TrodAll enc Try.prog W 0 (fun _ => true) true Try.f7.params.toList args.toList ds p := hA0
  have hts : Try.f7.params.toList.all (fun t => Try.prog.readableRec t && decide (t < Try.prog.types.size)) = true := by kernel_rfl
  rw [Try.params7] at hA hval
  obtain ⟨v0, vs0, d0, ds0, p0, q0, hargs, rfl, rfl, h0, r0⟩ := trodAll_cons hA
  obtain ⟨v1, vs1, d1, ds1, p1, q1, rfl, rfl, rfl, h1, r1⟩ := trodAll_cons r0
  obtain ⟨v2, vs2, d2, ds2, p2, q2, rfl, rfl, rfl, h2, r2⟩ := trodAll_cons r1
  obtain ⟨v3, vs3, d3, ds3, p3, q3, rfl, rfl, rfl, h3, r3⟩ := trodAll_cons r2
  obtain ⟨rfl, rfl, rfl⟩ := trodAll_nil r3
  obtain rfl : args = #[v0, v1, v2, v3] := by cases args; simp_all
  obtain ⟨rfl, rfl⟩ := trodVars_none hV
  simp only [List.append_nil] at hW'
  have hlt := hW'.lt
  obtain ⟨z0, rfl⟩ := okWide_struct Try.underlying44 (hval 0 44 v0 rfl rfl)
  obtain ⟨a0, g0, y0⟩ := read_arg (n := 3) (by kernel_rfl) h0 (fun x hx => hlt x (by simp [hx]))
  obtain ⟨x0, rfl, w0⟩ := gdApiIns g0
  have y0' := arg_agg y0
  obtain ⟨z1, rfl⟩ := okWide_struct Try.underlying44 (hval 1 44 v1 rfl rfl)
  obtain ⟨a1, g1, y1⟩ := read_arg (n := 3) (by kernel_rfl) h1 (fun x hx => hlt x (by simp [hx]))
  obtain ⟨x1, rfl, w1⟩ := gdApiIns g1
  have y1' := arg_agg y1
  obtain ⟨z2, hz2⟩ := okWide_slice Try.underlying22 (hval 2 22 v2 rfl rfl)
  obtain ⟨a2, g2, y2⟩ := read_arg (n := 3) (by kernel_rfl) h2 (fun x hx => hlt x (by simp [hx]))
  obtain ⟨x2, rfl, w2⟩ := gdL (k := 1) Try.underlying22 (by kernel_rfl) (fun h => gdU Try.underlying5 h) g2
  have y2' := arg_one y2 (by obtain ⟨_, _, rfl⟩ := hz2; rfl)
  obtain ⟨z3, hz3⟩ := okWide_slice Try.underlying22 (hval 3 22 v3 rfl rfl)
  obtain ⟨a3, g3, y3⟩ := read_arg (n := 3) (by kernel_rfl) h3 (fun x hx => hlt x (by simp [hx]))
  obtain ⟨x3, rfl, w3⟩ := gdL (k := 1) Try.underlying22 (by kernel_rfl) (fun h => gdU Try.underlying5 h) g3
  have y3' := arg_one y3 (by obtain ⟨_, _, rfl⟩ := hz3; rfl)
  refine ((opAll_pure x0 x1 x2 x3 w0 w1 w2 w3).truly (vil_cons y0' (vil_cons y1' (vil_cons y2' (vil_cons y3' vil_nil))))).mono fun e W' ⟨he, hg⟩ => ⟨.bool true, he, ?_⟩
  exact post_true Try.laidOut hW' hg hts rfl rfl Try.underlying4 rfl

/-- The statement. -/
theorem opAll_holds : Rows.OpAllSaid :=
  OpenClaim.holds_of_wide 7 Try.f7 rfl rfl rfl rfl rfl rfl rfl ⟨rfl, rfl, rfl, rfl, rfl⟩ rfl rfl rfl rfl rfl (by kernel_rfl) Try.func7 (by kernel_rfl)
    (of_decide_eq_true (by kernel_rfl)) (by unfold Func.isWrapper; first | (rw [if_pos (by decide +kernel)]; kernel_rfl) | (rw [if_neg (by decide +kernel)]; exact ⟨rfl, rfl⟩))
    (fun os started H enc _ => opAll_lifted os started H enc)

end Go.Proofs.Ythhkdanpjcnegaa
