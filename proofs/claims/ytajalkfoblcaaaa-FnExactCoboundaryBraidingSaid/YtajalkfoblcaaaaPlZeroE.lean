/- The model's empty cube. No condition. -/
import Derived.Test.YtajalkfoblcaaaaPlZero
set_option linter.all false
namespace Go.VG
theorem specEmptyC {n : Nat} (h : n ≤ 1048576) : p_spec_l06Empty (n : Int) = some (zeroC n) := by
  unfold p_spec_l06Empty
  rw [Int.toNat_natCast, forN_app (R := Unit) (fun _ => grid (fun _ _ => (0 : Int)) n n) (fun j hj => by
    simp only [p_spec_l06Empty_L1]
    rw [Int.toNat_natCast, zeros_eq h (by omega) (body := fun k s => p_spec_l06Empty_L2 (n : Int) k s) (fun _ _ => rfl)]
    simp only [Option.bind_some, onRes]
    rw [appL_range (fun _ => grid (fun _ _ => (0 : Int)) n n) (by omega : j ≤ 1048576)]
    rfl)]
  rfl
end Go.VG
