/- The plain law of FnExactIsIntegralRing: the code's answer is the model's. No condition but the readings'. -/
import Derived.Test.YtfbjoncpgjgppaaPlDimL
set_option linter.all false
namespace Go.VG
theorem isIntegral_eq (T : List (List (List Int))) : ∃ r, p_spec_IsIntegralRing T = some r ∧ p_impl_IsIntegralRing T = some r := by
  unfold p_spec_IsIntegralRing p_impl_IsIntegralRing
  obtain ⟨b, e1, hb⟩ := specIs (T := T)
  have e2 : p_impl_IsRing T = some b := by rw [← e1]; exact (implIs.eq specIs)
  rw [e1, e2]
  simp only [Option.bind_some]
  cases b
  · exact ⟨_, rfl, rfl⟩
  · have hr := hb.1 rfl
    simp only [Bool.not_true, Bool.false_eq_true, if_false]
    rcases ints_eq hr with ⟨l, _, g1, g2, g3⟩ | ⟨l, g1, g2⟩
    · rw [g1, g2]
      simp only [Option.bind_some, g3]
      exact ⟨_, rfl, rfl⟩
    · rw [g1, g2]
      exact ⟨_, rfl, rfl⟩
theorem plain_FnExactIsIntegralRing (aR_Table : (List (List (List Int)))) (h0 : Good3 .i64 aR_Table) : p_laws_FnExactIsIntegralRing aR_Table = some true := by
  unfold p_laws_FnExactIsIntegralRing
  obtain ⟨r, e, hr, hs⟩ := szRing_spec aR_Table 1048576 (by decide) (by decide) h0
  rw [e]
  simp only [Option.bind_some]
  by_cases hr0 : r < 0
  · simp [hr0]
  · simp only [hr0, decide_false, Bool.false_eq_true, if_false]
    obtain ⟨x, e1, e2⟩ := isIntegral_eq aR_Table
    simp only [toRing_eq aR_Table hs (by omega), Option.bind_some, e1, e2, eqRing_self]
    simp
end Go.VG
