/- Plain laws, part 9 b: the law ClassNames. -/
import Derived.Test.YthhkdanpjcnegaaQ9
namespace Go.Proofs.Ythhkdanpjcnegaa
set_option linter.unusedSimpArgs false
set_option linter.unusedVariables false

/-! ### The law ClassNames -/
theorem beqComm (x y : List UInt8) : (x == y) = (y == x) := by
  by_cases h : x = y
  · rw [h]
  · rw [beq_eq_false_iff_ne.2 h, beq_eq_false_iff_ne.2 (Ne.symm h)]
theorem names_in {a b m : List UInt8} (ha : Len a) (hb : Len b) (hm : Len m) : CIn (ApiClass.mk [65, 98] [79, 98, 106, 101, 99, 116] false [] [ApiField.mk a [73] false, ApiField.mk b [73] false] [meth m, meth a]) := by
  refine ⟨(Nat.le_of_ble_eq_true rfl), (Nat.le_of_ble_eq_true rfl), ⟨(Nat.le_of_ble_eq_true rfl), fun s hs => by cases hs⟩, ⟨(Nat.le_of_ble_eq_true rfl), fun f hf => ?_⟩, ⟨(Nat.le_of_ble_eq_true rfl), fun f hf => ?_⟩⟩
  · rcases List.mem_cons.1 hf with rfl | h
    · exact ⟨ha, (Nat.le_of_ble_eq_true rfl)⟩
    · obtain rfl := List.mem_singleton.1 h
      exact ⟨hb, (Nat.le_of_ble_eq_true rfl)⟩
  · rcases List.mem_cons.1 hf with rfl | h
    · exact meth_in hm
    · obtain rfl := List.mem_singleton.1 h
      exact meth_in ha

theorem names_may {a b m : List UInt8} (na : nameN a = true) (nb : nameN b = true) (nm : nameN m = true) (ia : (a == [36, 105, 110, 105, 116]) = false) (ib : (b == [36, 105, 110, 105, 116]) = false) :
    mayClass (ApiClass.mk [65, 98] [79, 98, 106, 101, 99, 116] false [] [ApiField.mk a [73] false, ApiField.mk b [73] false] [meth m, meth a]) = (!(a == b) && !(m == a)) := by
  have fa : fieldN (ApiField.mk a [73] false) = true := by
    unfold fieldN
    rw [na, ia, show mayN [73] = true from by decide +kernel]; rfl
  have fb : fieldN (ApiField.mk b [73] false) = true := by
    unfold fieldN
    rw [nb, ib, show mayN [73] = true from by decide +kernel]; rfl
  have u1 : uB fieldN (·.Name) [] [ApiField.mk a [73] false, ApiField.mk b [73] false] = (b == a) := by
    show (((!fieldN (ApiField.mk a [73] false)) || false) || (((!fieldN (ApiField.mk b [73] false)) || ((b == a) || false)) || false)) = (b == a)
    rw [fa, fb]; simp
  have u2 : uB (fun m => (m.Abstract == false) && methodN m) (·.Name) [] [meth m, meth a] = (a == m) := by
    show (((!(true && methodN (meth m))) || false) || (((!(true && methodN (meth a))) || ((a == m) || false)) || false)) = (a == m)
    rw [meth_N, meth_N, na, nm]; simp
  unfold mayClass
  rw [u1, u2, show classN [65, 98] = true from by decide +kernel, show classN [79, 98, 106, 101, 99, 116] = true from by decide +kernel, beqComm b a, beqComm a m]
  show (!false && (((true && (!false && true)) && (!(a == b) && true)) && (!(m == a) && true))) = _
  simp

theorem law5_ClassNames_eq {a b m : List UInt8} (ha : Len a) (hb : Len b) (hm : Len m) : law5_ClassNames a b m = some true := by
  unfold law5_ClassNames
  rw [law5_begun_eq, ref3_Name_eq ha, ref3_Name_eq hb, ref3_Name_eq hm]
  simp only [Option.bind_some, Bool.not_true, cond_false]
  have em := class_May_eq (names_in ha hb hm)
  have f0 := fun n => class_Field_eq (n := n) (names_in ha hb hm).fields.1
  have g0 := fun n => class_Method_eq (n := n) (names_in ha hb hm).methods.1
  unfold meth at em f0 g0
  rw [em, f0, f0, g0]
  cases ((decide (10 < (a.length : Int)) || decide (10 < (b.length : Int))) || decide (10 < (m.length : Int))) with
  | true => rfl
  | false =>
    cases na : nameN a with
    | false => rfl
    | true =>
      cases nb : nameN b with
      | false => rfl
      | true =>
        cases nm : nameN m with
        | false => rfl
        | true =>
          cases ia : (a == [36, 105, 110, 105, 116]) with
          | true => rfl
          | false =>
            cases ib : (b == [36, 105, 110, 105, 116]) with
            | true => rfl
            | false =>
              cases im : (m == [36, 105, 110, 105, 116]) with
              | true => rfl
              | false =>
                have hmay := names_may (a := a) (b := b) (m := m) na nb nm ia ib
                unfold meth at hmay
                rw [hmay]
                have x1 : ∀ r, ixF (fun y : ApiField => y.Name == a) 0 (ApiField.mk a [73] false :: r) = 0 := fun r => by
                  show cond (a == a) _ _ = _
                  rw [beq_self_eq_true]; rfl
                have x2 : ixF (fun y : ApiField => y.Name == b) 0 [ApiField.mk a [73] false, ApiField.mk b [73] false] = cond (a == b) 0 1 := by
                  show cond (a == b) 0 (cond (b == b) 1 (-1)) = _
                  rw [beq_self_eq_true]; rfl
                have x3 : ∀ r p i s ab l st c mp t, ixF (fun y : ApiMethod => y.Name == m) 0 (ApiMethod.mk m p i s ab l st c mp t :: r) = 0 := fun r p i s ab l st c mp t => by
                  show cond (m == m) _ _ = _
                  rw [beq_self_eq_true]; rfl
                rw [x1, x2, x3]
                cases (a == b) <;> cases (m == a) <;> rfl
theorem classNames_pure (a b m : List UInt8) (ha : Len a) (hb : Len b) (hm : Len m) : PureC Try.prog 11 [.lit (.string (B a)), .lit (.string (B b)), .lit (.string (B m))] (.lit (.bool true)) := law5_ClassNames_ok a b m (law5_ClassNames_eq ha hb hm)
end Go.Proofs.Ythhkdanpjcnegaa
