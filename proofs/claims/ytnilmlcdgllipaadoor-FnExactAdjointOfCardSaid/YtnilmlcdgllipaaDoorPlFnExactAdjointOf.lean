/- The plain law of FnExactAdjointOf: the code's answer is the model's. No condition but the readings'. -/
import Derived.Test.YtnilmlcdgllipaaDoorPlAdj
set_option linter.all false
namespace Go.VG
theorem adjOf_eq (T : List (List (List Int))) : ∃ r, p_spec_AdjointOf T = some r ∧ p_impl_AdjointOf T = some r := by
  unfold p_spec_AdjointOf p_impl_AdjointOf
  obtain ⟨b, e, hb⟩ := specIs (T := T)
  obtain ⟨b', e', hb'⟩ := implIs (T := T)
  have : b = b' := by rw [Bool.eq_iff_iff, hb, hb']
  subst this
  rw [e, e']
  simp only [Option.bind_some]
  cases b
  · simp
  · have h := hb.1 rfl
    simp only [Bool.not_true, Bool.false_eq_true, if_false, specAdj h, implAdj h, Option.bind_some]
    exact ⟨_, rfl, rfl⟩
theorem plain_FnExactAdjointOf (aR_Table : (List (List (List Int)))) (h0 : Good3 .i64 aR_Table) : p_laws_FnExactAdjointOf aR_Table = some true := by
  unfold p_laws_FnExactAdjointOf
  obtain ⟨r, e, hr, hs⟩ := szRing_spec aR_Table 1048576 (by decide) (by decide) h0
  rw [e]
  simp only [Option.bind_some]
  by_cases hr0 : r < 0
  · simp [hr0]
  · simp only [hr0, decide_false, Bool.false_eq_true, if_false]
    obtain ⟨x, e1, e2⟩ := adjOf_eq aR_Table
    simp only [toRing_eq aR_Table hs (by omega), Option.bind_some, e1, e2, eqRing_self]
    simp
end Go.VG
