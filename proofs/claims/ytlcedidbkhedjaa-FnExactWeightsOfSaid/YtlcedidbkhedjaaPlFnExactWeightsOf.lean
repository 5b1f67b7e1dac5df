/- The plain law of FnExactWeightsOf. No condition but the readings'. -/
import Derived.Test.YtlcedidbkhedjaaPlWeights
import Derived.Test.YtlcedidbkhedjaaPlMark
set_option linter.all false
namespace Go.VG
theorem weightsOf_eq (T : List (List (List Int))) (t : Int) : ∃ x, p_spec_WeightsOf T t = some x ∧ p_impl_WeightsOf T t = some x ∧ (x.1.length : Int) ≤ 16 := by
  unfold p_spec_WeightsOf p_impl_WeightsOf
  obtain ⟨b, e1, hb⟩ := specIs (T := T)
  have e2 : p_impl_IsRing T = some b := by rw [← e1]; exact (implIs.eq specIs)
  rw [e1, e2]
  simp only [Option.bind_some]
  cases b
  · exact ⟨([], 1), rfl, rfl, by simp⟩
  · have hr := hb.1 rfl
    have hn := hr.cube.1
    simp only [Bool.not_true, Bool.false_eq_true, if_false, p_spec_l01In, p_impl_within, Option.bind_some]
    by_cases ht : 0 ≤ t ∧ t ≤ 20
    · have ec : (decide (t ≥ 0) && decide (t ≤ 20)) = true := by simpa using ht
      simp only [ec, Bool.not_true, Bool.false_eq_true, if_false]
      rcases weights_eq hr.cube ht.1 ht.2 with ⟨e1, e2⟩ | ⟨v, hv, e1, e2⟩
      · rw [e1, e2]; exact ⟨([], 3), rfl, rfl, by simp⟩
      · rw [e1, e2]; exact ⟨(v, 0), rfl, rfl, by simp; omega⟩
    · have ec : (decide (t ≥ 0) && decide (t ≤ 20)) = false := by
        cases hh : (decide (t ≥ 0) && decide (t ≤ 20)) with
        | false => rfl
        | true => exact absurd (by simpa using hh) ht
      simp only [ec, Bool.not_false, if_true]
      exact ⟨([], 2), rfl, rfl, by simp⟩
theorem plain_FnExactWeightsOf (aR_Table : (List (List (List Int)))) (aT : Int) (h0 : Good3 .i64 aR_Table) (h1 : InR .i64 aT) : p_laws_FnExactWeightsOf aR_Table aT = some true := by
  unfold p_laws_FnExactWeightsOf
  obtain ⟨r, e, hr, hs⟩ := szRing_spec aR_Table 1048576 (by decide) (by decide) h0
  rw [e]
  simp only [Option.bind_some]
  by_cases hr0 : r < 0
  · simp [hr0]
  · simp only [hr0, decide_false, Bool.false_eq_true, if_false]
    obtain ⟨x, e1, e2, e3⟩ := weightsOf_eq aR_Table aT
    obtain ⟨m, q, e4, e5, e6⟩ := markRing_ok aR_Table 1 hs (by omega) (by decide) (by decide)
    obtain ⟨l, e7, e8, e9⟩ := markS_held x.1 1 (by decide) (by omega)
    have hq : ¬ q < 0 := by omega
    have hp : ¬ (1 + (x.1.length : Int)) < 0 := by omega
    simp only [toRing_eq aR_Table hs (by omega), Option.bind_some, e1, e2, eqRing_self, eqS_self, e4, e7, e9]
    simp [hq, hp]
end Go.VG
