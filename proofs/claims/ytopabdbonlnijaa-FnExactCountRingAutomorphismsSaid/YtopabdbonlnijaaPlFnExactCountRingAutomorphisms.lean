/- The plain law of FnExactCountRingAutomorphisms: the code's answer is the model's. No condition but the readings'. -/
import Derived.Test.YtopabdbonlnijaaPlIsoMaps
import Derived.Test.YtopabdbonlnijaaPlCom
set_option linter.all false
namespace Go.VG
theorem plain_FnExactCountRingAutomorphisms (aR_Table : (List (List (List Int)))) (h0 : Good3 .i64 aR_Table) : p_laws_FnExactCountRingAutomorphisms aR_Table = some true := by
  unfold p_laws_FnExactCountRingAutomorphisms
  obtain ⟨r, e, hr, hs⟩ := szRing_spec aR_Table 1048576 (by decide) (by decide) h0
  rw [e]
  simp only [Option.bind_some]
  by_cases hr0 : r < 0
  · simp [hr0]
  · simp only [hr0, decide_false, Bool.false_eq_true, if_false]
    obtain ⟨x, e1, e2⟩ := count_eq aR_Table
    simp only [toRing_eq aR_Table hs (by omega), Option.bind_some, e1, e2, eqRing_self]
    simp
end Go.VG
