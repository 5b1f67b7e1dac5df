/- The plain law of FnExactIsPointedRing: the code's answer is the model's. No condition but the readings'. -/
import Derived.Test.YtppnedfpdobgiaaPlInv
set_option linter.all false
namespace Go.VG
theorem pointed_eq (T : List (List (List Int))) : ∃ r, p_spec_IsPointedRing T = some r ∧ p_impl_IsPointedRing T = some r := by
  unfold p_spec_IsPointedRing p_impl_IsPointedRing
  by_cases h : RingOK T
  · rw [specLabels h, implLabels h]
    exact ⟨_, rfl, by simp⟩
  · rw [specLabels_no h, implLabels_no h]
    exact ⟨_, rfl, by simp⟩
theorem plain_FnExactIsPointedRing (aR_Table : (List (List (List Int)))) (h0 : Good3 .i64 aR_Table) : p_laws_FnExactIsPointedRing aR_Table = some true := by
  unfold p_laws_FnExactIsPointedRing
  obtain ⟨r, e, hr, hs⟩ := szRing_spec aR_Table 1048576 (by decide) (by decide) h0
  rw [e]
  simp only [Option.bind_some]
  by_cases hr0 : r < 0
  · simp [hr0]
  · simp only [hr0, decide_false, Bool.false_eq_true, if_false]
    obtain ⟨x, e1, e2⟩ := pointed_eq aR_Table
    simp only [toRing_eq aR_Table hs (by omega), Option.bind_some, e1, e2, eqRing_self]
    simp
end Go.VG
