/- The list of whole dimensions: the code's answer is the model's. Plain. -/
import Derived.Test.YtfbjoncpgjgppaaPlDimL
set_option linter.all false
namespace Go.VG
theorem intDims_eq (T : List (List (List Int))) : ∃ x, p_spec_IntegerDimensions T = some x ∧ p_impl_IntegerDimensions T = some x ∧ (x.1.length : Int) ≤ 16 ∧ (x.2 ≠ 0 → x.1 = []) := by
  unfold p_spec_IntegerDimensions p_impl_IntegerDimensions
  obtain ⟨b, e1, hb⟩ := specIs (T := T)
  have e2 : p_impl_IsRing T = some b := by rw [← e1]; exact (implIs.eq specIs)
  rw [e1, e2]
  simp only [Option.bind_some]
  cases b
  · exact ⟨([], 1), rfl, rfl, by simp, fun _ => rfl⟩
  · have hr := hb.1 rfl
    have hn := hr.cube.1
    simp only [Bool.not_true, Bool.false_eq_true, if_false]
    rcases ints_eq hr with ⟨l, g, g1, g2, g3⟩ | ⟨l, g1, g2⟩
    · have := g.len
      rw [g1, g2]
      simp only [Option.bind_some, g3, Bool.not_true, Bool.false_eq_true, if_false]
      exact ⟨(l, 0), rfl, rfl, by simp only []; omega, fun h => absurd rfl h⟩
    · rw [g1, g2]
      exact ⟨([], 4), rfl, rfl, by simp, fun _ => rfl⟩
end Go.VG
