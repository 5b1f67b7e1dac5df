/- The plain law of FnExactMultiplyVectors: the code's answer is the model's. No condition but the readings'. -/
import Derived.Test.YtppnedfpdobgiaaPlMul
import Derived.Test.YtppnedfpdobgiaaPlMark
set_option linter.all false
namespace Go.VG
theorem VecOK.vb {n : Nat} {x : List Int} (h : VecOK n x) : VB n x 1000000 := ⟨h.1, fun i hi => h.2 i (by rw [h.1]; exact hi)⟩
theorem mul_eq (T : List (List (List Int))) (x y : List Int) : ∃ r, p_spec_MultiplyVectors T x y = some r ∧ p_impl_MultiplyVectors T x y = some r ∧ (r.1.length : Int) ≤ 16 := by
  unfold p_spec_MultiplyVectors p_impl_MultiplyVectors
  obtain ⟨b, e1, hb⟩ := specIs (T := T)
  have e2 : p_impl_IsRing T = some b := by rw [← e1]; exact (implIs.eq specIs)
  rw [e1, e2]
  cases b
  · exact ⟨_, rfl, rfl, by simp⟩
  · have hr := hb.1 rfl
    obtain ⟨b, e1, hb⟩ := specVector (T := T) (d := x)
    have e2 : p_impl_Ring_isVector T x = some b := by rw [← e1]; exact (implVector.eq specVector)
    simp only [Option.bind_some, Bool.not_true, Bool.false_eq_true, if_false, e1, e2]
    cases b
    · exact ⟨_, rfl, rfl, by simp⟩
    · have hx := (hb.1 rfl).vb
      obtain ⟨b, e1, hb⟩ := specVector (T := T) (d := y)
      have e2 : p_impl_Ring_isVector T y = some b := by rw [← e1]; exact (implVector.eq specVector)
      simp only [Bool.not_true, Bool.false_eq_true, if_false, e1, e2, Option.bind_some]
      cases b
      · exact ⟨_, rfl, rfl, by simp⟩
      · have hy := (hb.1 rfl).vb
        simp only [Bool.not_true, Bool.false_eq_true, if_false]
        rw [specMul hr.cube hx hy (by decide), implMul hr.cube hx hy (by decide)]
        exact ⟨_, rfl, rfl, by simp only [mulV_len]; have := hr.cube.1.2; omega⟩
theorem plain_FnExactMultiplyVectors (aR_Table : (List (List (List Int)))) (aX : (List Int)) (aY : (List Int)) (h0 : Good3 .i64 aR_Table) (h1 : Good1 .i64 aX) (h2 : Good1 .i64 aY) : p_laws_FnExactMultiplyVectors aR_Table aX aY = some true := by
  unfold p_laws_FnExactMultiplyVectors
  by_cases hx : (aX.length : Int) > 1048576
  · simp [hx]
  · by_cases hy : (aY.length : Int) > 1048576
    · simp [hy]
    · simp only [hx, hy, decide_false, Bool.false_eq_true, if_false]
      obtain ⟨r, e, hr, hs⟩ := szRing_spec aR_Table 1048576 (by decide) (by decide) h0
      rw [e]
      simp only [Option.bind_some]
      by_cases hr0 : r < 0
      · simp [hr0]
      · simp only [hr0, decide_false, Bool.false_eq_true, if_false]
        obtain ⟨x, e1, e2, e3⟩ := mul_eq aR_Table aX aY
        obtain ⟨m, q, e4, e5, e6⟩ := markRing_ok aR_Table 1 hs (by omega) (by decide) (by decide)
        obtain ⟨lx, e10, _, _⟩ := markS_held aX q (by omega) (by omega)
        obtain ⟨ly, e11, _, _⟩ := markS_held aY (q + aX.length) (by omega) (by omega)
        obtain ⟨l, e7, e8, e9⟩ := markS_held x.1 1 (by decide) (by omega)
        have hq : ¬ (q + (aX.length : Int) + (aY.length : Int)) < 0 := by omega
        have hp : ¬ (1 + (x.1.length : Int)) < 0 := by omega
        simp only [toRing_eq aR_Table hs (by omega), toInt64S_eq aX (by omega), toInt64S_eq aY (by omega), Option.bind_some, e1, e2, eqRing_self, eqS_self, e4, e10, e11, e7, e9]
        simp [hq, hp]
end Go.VG
