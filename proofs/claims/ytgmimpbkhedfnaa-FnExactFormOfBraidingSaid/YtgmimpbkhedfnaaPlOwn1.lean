/- Copies: the model's own. No condition but lengths. -/
import Derived.Test.YtgmimpbkhedfnaaPlGrid
set_option linter.all false
namespace Go.VG
theorem own1_eq (l : List Int) (h : l.length ≤ 1048576) : p_spec_l01Own l = some l := by
  unfold p_spec_l01Own
  simp [appL]; omega
theorem own2_eq (l : List (List Int)) (h : l.length ≤ 1048576) (hx : ∀ x ∈ l, x.length ≤ 1048576) : p_spec_l01Own2 l = some l := by
  unfold p_spec_l01Own2
  rw [forN_app (R := Unit) (fun i => l.getD i []) (fun j hj => by
    simp only [p_spec_l01Own2_L1, idx_getD l [] hj, Option.bind_some, own1_eq _ (hx _ (getD_mem hj)), appL_range (fun i => l.getD i []) (by omega : j ≤ 1048576)])]
  show some _ = some l
  rw [map_range_getD]
end Go.VG
