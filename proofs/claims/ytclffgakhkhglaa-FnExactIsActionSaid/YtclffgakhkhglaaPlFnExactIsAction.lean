/- The plain law of FnExactIsAction: the code's answer is the model's. No condition but the readings'. -/
import Derived.Test.YtclffgakhkhglaaPlAct
set_option linter.all false
namespace Go.VG
theorem plain_FnExactIsAction (aR_Table : (List (List (List Int)))) (aA_Matrices : (List (List (List Int)))) (h0 : Good3 .i64 aR_Table) (h1 : Good3 .i64 aA_Matrices) : p_laws_FnExactIsAction aR_Table aA_Matrices = some true := by
  unfold p_laws_FnExactIsAction
  obtain ⟨r, e, hr, hs⟩ := szRing_spec aR_Table 1048576 (by decide) (by decide) h0
  rw [e]
  simp only [Option.bind_some]
  by_cases hr0 : r < 0
  · simp [hr0]
  · have hr1 := hs.1
    obtain ⟨r2, e2, hr2, hs2⟩ := szAction_spec aA_Matrices r (by omega) (by omega) h1
    simp only [hr0, decide_false, Bool.false_eq_true, if_false, e2, Option.bind_some]
    by_cases hr20 : r2 < 0
    · simp [hr20]
    · simp only [hr20, decide_false, Bool.false_eq_true, if_false]
      obtain ⟨b, e3, hb⟩ := specAct (T := aR_Table) (A := aA_Matrices)
      have e4 : p_impl_IsAction aR_Table aA_Matrices = some b := by rw [← e3]; exact implAct.eq specAct
      have e5 : p_spec_IsAction aR_Table aA_Matrices = some b := by unfold p_spec_IsAction; rw [e3]; rfl
      simp only [toRing_eq aR_Table hs (by omega), toAction_eq aA_Matrices hs2 (by omega) (by omega), Option.bind_some, e4, e5, eqRing_self, eqAction_self]
      simp
end Go.VG
