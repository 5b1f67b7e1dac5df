/- The plain law of FnExactNilpotencyClass: the code's answer is the model's. No condition but the readings'. -/
import Derived.Test.YtaghjfegbooceaaDoorPlSeries
set_option linter.all false
namespace Go.VG
theorem nilp_eq (T : List (List (List Int))) : ∃ r, p_spec_NilpotencyClass T = some r ∧ p_impl_NilpotencyClass T = some r := by
  unfold p_spec_NilpotencyClass p_impl_NilpotencyClass
  obtain ⟨r, e1, e2, e3, e4⟩ := adjSeries_eq T
  rw [e1, e2]
  simp only [Option.bind_some]
  by_cases h : r.2 = 0
  · have e0 : (r.2 != 0) = false := by simp [h]
    have e5 : w64 ((r.1.length : Int) - 1) = ((r.1.length - 1 : Nat) : Int) := by rw [w64_small (by omega) (by omega)]; have := e4 h; omega
    have e6 : idx r.1 ((r.1.length - 1 : Nat) : Int) = some (r.1.getD (r.1.length - 1) 0) := idx_getD _ _ (by have := e4 h; omega)
    simp only [e0, Bool.false_eq_true, if_false, e5, e6, Option.bind_some]
    split <;> exact ⟨_, rfl, rfl⟩
  · have e0 : (r.2 != 0) = true := by simp [h]
    simp only [e0, if_true]
    exact ⟨_, rfl, rfl⟩
theorem plain_FnExactNilpotencyClass (aR_Table : (List (List (List Int)))) (h0 : Good3 .i64 aR_Table) : p_laws_FnExactNilpotencyClass aR_Table = some true := by
  unfold p_laws_FnExactNilpotencyClass
  obtain ⟨r, e, hr, hs⟩ := szRing_spec aR_Table 1048576 (by decide) (by decide) h0
  rw [e]
  simp only [Option.bind_some]
  by_cases hr0 : r < 0
  · simp [hr0]
  · simp only [hr0, decide_false, Bool.false_eq_true, if_false]
    obtain ⟨x, e1, e2⟩ := nilp_eq aR_Table
    simp only [toRing_eq aR_Table hs (by omega), Option.bind_some, e1, e2, eqRing_self]
    simp
end Go.VG
