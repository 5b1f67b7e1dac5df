/- The model's list of duals. No condition. -/
import Derived.Test.YtbgebkgpodgjdaaPlComm0
import Derived.Test.YtbgebkgpodgjdaaPlGrid
set_option linter.all false
namespace Go.VG
theorem specDuals {T : List (List (List Int))} (h : Cube T) : p_spec_l03Duals T = some (duL T) := by
  unfold p_spec_l03Duals
  rw [forN_app (R := Unit) (du T) (fun j hj => by
    simp only [p_spec_l03Duals_L1, (dual_spec h hj).1, Option.bind_some, app_range (du T) (by have := h.1.2; omega : j ≤ 1048576)])]
  rfl
end Go.VG
