/- The library's clone. No condition but lengths. -/
import Derived.Test.YtbgebkgpodgjdaaPlGrid
set_option linter.all false
namespace Go.VG
theorem clone1_eq (r : List Int) (h : r.length ≤ 1048576) : p_slices_Clone_Lint64_int64 r = some r := by
  simp [p_slices_Clone_Lint64_int64, appL]; omega
end Go.VG
