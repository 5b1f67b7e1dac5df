/- The plain law of FnExactDimensionOfVector. No condition but the readings'. -/
import Derived.Test.YtfbjoncpgjgppaaPlSumP
import Derived.Test.YtfbjoncpgjgppaaPlVec
set_option linter.all false
namespace Go.VG
theorem dimVec_eq (T : List (List (List Int))) (d : List Int) : ∃ x, p_spec_DimensionOfVector T d = some x ∧ p_impl_DimensionOfVector T d = some x := by
  unfold p_spec_DimensionOfVector p_impl_DimensionOfVector
  obtain ⟨b, e1, hb⟩ := specIs (T := T)
  have e2 : p_impl_IsRing T = some b := by rw [← e1]; exact (implIs.eq specIs)
  rw [e1, e2]
  cases b
  · exact ⟨_, rfl, rfl⟩
  · have hr := hb.1 rfl
    obtain ⟨b, e1, hb⟩ := specVector (T := T) (d := d)
    have e2 : p_impl_Ring_isVector T d = some b := by rw [← e1]; exact (implVector.eq specVector)
    simp only [Option.bind_some, Bool.not_true, Bool.false_eq_true, if_false, e1, e2]
    cases b
    · exact ⟨_, rfl, rfl⟩
    · have hv := hb.1 rfl
      simp only [Bool.not_true, Bool.false_eq_true, if_false]
      rcases ints_eq hr with ⟨l, g, g1, g2, g3⟩ | ⟨l, g1, g2⟩
      · have hl := g.len
        have hd := hv.1
        have e : forN (R := Unit) (fun k s => p_spec_DimensionOfVector_L1 (l, true) d k s) l.length 0 (0 : Int) = some (.fin (sumW (prS d l) l.length)) := forN_det (R := Unit) (fun k => sumW (prS d l) k) (fun k hk => by
          simp only [p_spec_DimensionOfVector_L1, idx_getD l 0 hk, idx_getD d 0 (by omega : k < d.length), Option.bind_some, sumW, prS]
          rw [Int.mul_comm])
        rw [g1, g2]
        simp only [Option.bind_some, g3, Bool.not_true, Bool.false_eq_true, if_false, sumOfProducts_eq (by omega : d.length ≤ l.length), e, onRes]
        rw [show d.length = l.length by omega]
        exact ⟨_, rfl, rfl⟩
      · rw [g1, g2]
        exact ⟨_, rfl, rfl⟩
theorem plain_FnExactDimensionOfVector (aR_Table : (List (List (List Int)))) (aX : (List Int)) (h0 : Good3 .i64 aR_Table) (h1 : Good1 .i64 aX) : p_laws_FnExactDimensionOfVector aR_Table aX = some true := by
  unfold p_laws_FnExactDimensionOfVector
  by_cases hl : (aX.length : Int) > 1048576
  · simp [hl]
  · simp only [hl, decide_false, Bool.false_eq_true, if_false]
    obtain ⟨r, e, hr, hs⟩ := szRing_spec aR_Table 1048576 (by decide) (by decide) h0
    rw [e]
    simp only [Option.bind_some]
    by_cases hr0 : r < 0
    · simp [hr0]
    · simp only [hr0, decide_false, Bool.false_eq_true, if_false]
      obtain ⟨x, e1, e2⟩ := dimVec_eq aR_Table aX
      simp only [toRing_eq aR_Table hs (by omega), toInt64S_eq aX (by omega), Option.bind_some, e1, e2, eqRing_self, eqS_self]
      simp
end Go.VG
