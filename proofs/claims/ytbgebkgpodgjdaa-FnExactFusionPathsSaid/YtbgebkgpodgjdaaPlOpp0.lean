/- The opposite ring. No condition. -/
import Derived.Test.YtbgebkgpodgjdaaPlBase
set_option linter.all false
namespace Go.VG
section
variable {T : List (List (List Int))}
theorem clone_eq (r : List Int) (h : r.length ≤ 1048576) : p_slices_Clone_Lint64_int64 r = some r := by
  unfold p_slices_Clone_Lint64_int64
  simp [appL]; omega
theorem opposite_eq (h : Cube T) : p_impl_Ring_opposite T = some (oppT T) := by
  have hn := h.1.2
  unfold p_impl_Ring_opposite
  rw [forN_app (oppR T) (fun i hi => by
    simp only [p_impl_Ring_opposite_L1]
    rw [forN_app (R := Unit) (fun j => rowOf T j i) (fun j hj => by
      simp only [p_impl_Ring_opposite_L2, h.i1 hj, h.i2 hj hi, Option.bind_some, clone_eq _ (by rw [h.row hj hi]; omega : ((T.getD j []).getD i []).length ≤ 1048576)]
      rw [show (T.getD j []).getD i [] = rowOf T j i from rfl, app_range (fun j => rowOf T j i) (by omega : j ≤ 1048576)]
      rfl)]
    simp only [Option.bind_some, onRes]
    rw [show (List.range T.length).map (fun j => rowOf T j i) = oppR T i from rfl, app_range (oppR T) (by omega : i ≤ 1048576)]
    rfl)]
  rfl
theorem oppT_row {i j : Nat} (hi : i < T.length) (hj : j < T.length) : rowOf (oppT T) i j = rowOf T j i := by
  simp [rowOf, oppT, oppR, List.getD, List.getElem?_range hi, List.getElem?_range hj]
theorem eq_opp (h : Cube T) : T = oppT T ↔ ∀ i, i < T.length → ∀ j, j < T.length → rowOf T i j = rowOf T j i := by
  constructor
  · intro e i hi j hj
    rw [← oppT_row (T := T) (i := j) (j := i) hj hi, ← e]
  · intro hh
    refine (eq_iff_getD [] (by simp [oppT])).2 fun i hi => ?_
    refine (eq_iff_getD [] (by rw [h.mat hi]; simp [oppT, oppR, List.getD, List.getElem?_range hi])).2 fun j hj => ?_
    rw [h.mat hi] at hj
    have := oppT_row (T := T) hi hj
    rw [← hh i hi j hj] at this
    exact this.symm
end
end Go.VG
