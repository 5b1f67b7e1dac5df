/- The plain law of FnExactIntegerDimensions. No condition but the readings'. -/
import Derived.Test.YtfbjoncpgjgppaaPlIntDims
import Derived.Test.YtfbjoncpgjgppaaPlMark
set_option linter.all false
namespace Go.VG
theorem plain_FnExactIntegerDimensions (aR_Table : (List (List (List Int)))) (h0 : Good3 .i64 aR_Table) : p_laws_FnExactIntegerDimensions aR_Table = some true := by
  unfold p_laws_FnExactIntegerDimensions
  obtain ⟨r, e, hr, hs⟩ := szRing_spec aR_Table 1048576 (by decide) (by decide) h0
  rw [e]
  simp only [Option.bind_some]
  by_cases hr0 : r < 0
  · simp [hr0]
  · simp only [hr0, decide_false, Bool.false_eq_true, if_false]
    obtain ⟨x, e1, e2, e3, _⟩ := intDims_eq aR_Table
    obtain ⟨m, q, e4, e5, e6⟩ := markRing_ok aR_Table 1 hs (by omega) (by decide) (by decide)
    obtain ⟨l, e7, e8, e9⟩ := markS_held x.1 1 (by decide) (by omega)
    have hq : ¬ q < 0 := by omega
    have hp : ¬ (1 + (x.1.length : Int)) < 0 := by omega
    simp only [toRing_eq aR_Table hs (by omega), Option.bind_some, e1, e2, eqRing_self, eqS_self, e4, e7, e9]
    simp [hq, hp]
end Go.VG
