/- The plain law of FnExactIsSimpleRing: the code's answer is the model's. No condition but the readings'. -/
import Derived.Test.YtnilmlcdgllipaaDoorPlSubs
set_option linter.all false
namespace Go.VG
theorem isSimple_eq (T : List (List (List Int))) : ∃ r, p_spec_IsSimpleRing T = some r ∧ p_impl_IsSimpleRing T = some r := by
  unfold p_spec_IsSimpleRing p_impl_IsSimpleRing
  obtain ⟨b, e, hb⟩ := specIs (T := T)
  have e' : p_impl_IsRing T = some b := by rw [← e]; exact (implIs.eq specIs)
  rw [e, e']
  simp only [Option.bind_some]
  cases b
  · simp
  · obtain ⟨l, e1, e2, _⟩ := subs_both (hb.1 rfl)
    simp only [Bool.not_true, Bool.false_eq_true, if_false, e1, e2, Option.bind_some]
    exact ⟨_, rfl, rfl⟩
theorem plain_FnExactIsSimpleRing (aR_Table : (List (List (List Int)))) (h0 : Good3 .i64 aR_Table) : p_laws_FnExactIsSimpleRing aR_Table = some true := by
  unfold p_laws_FnExactIsSimpleRing
  obtain ⟨r, e, hr, hs⟩ := szRing_spec aR_Table 1048576 (by decide) (by decide) h0
  rw [e]
  simp only [Option.bind_some]
  by_cases hr0 : r < 0
  · simp [hr0]
  · simp only [hr0, decide_false, Bool.false_eq_true, if_false]
    obtain ⟨x, e1, e2⟩ := isSimple_eq aR_Table
    simp only [toRing_eq aR_Table hs (by omega), Option.bind_some, e1, e2, eqRing_self]
    simp
end Go.VG
