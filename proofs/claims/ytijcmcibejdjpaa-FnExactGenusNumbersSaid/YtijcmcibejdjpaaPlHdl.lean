/- The handle: its numbers, in the model and in the code. No condition. -/
import Derived.Test.YtijcmcibejdjpaaPlComm
import Derived.Test.YtijcmcibejdjpaaPlGrid
import Derived.Test.YtijcmcibejdjpaaPlBase
set_option linter.all false
namespace Go.VG
def hdl (T : List (List (List Int))) (m k : Nat) : Int := sumW (fun i => at3 T i (du T i).toNat k) m
theorem specDuals {T : List (List (List Int))} (h : Cube T) : p_spec_l03Duals T = some (duL T) := by
  unfold p_spec_l03Duals
  rw [forN_app (R := Unit) (du T) (fun j hj => by
    simp only [p_spec_l03Duals_L1, (dual_spec h hj).1, Option.bind_some, app_range (du T) (by have := h.1.2; omega : j ≤ 1048576)])]
  rfl
theorem mkVec {n : Nat} (h : n ≤ 1048576) : mkL (n : Int) (0 : Int) = some (vecG (fun _ => 0) n) := by
  rw [mkL_some' _ (by omega)]
  congr 1
  simp only [vecG]
  apply List.ext_getElem <;> simp
theorem specHandle {T : List (List (List Int))} (h : RingOK T) : p_spec_l15Handle T = some (vecG (hdl T T.length) T.length) := by
  have hn := h.cube.1
  unfold p_spec_l15Handle
  rw [specDuals h.cube, mkVec (by omega)]
  simp only [Option.bind_some]
  have e : forN (fun k s => p_spec_l15Handle_L1 T (duL T) k s) T.length 0 (vecG (fun _ => 0) T.length) = some (.fin (vecG (hdl T T.length) T.length)) := by
    refine forN_det (R := Unit) (fun m => vecG (hdl T m) T.length) (fun i hi => ?_)
    simp only [p_spec_l15Handle_L1]
    have ei : forN (fun k s => p_spec_l15Handle_L2 T i (duL T) k s) (vecG (hdl T i) T.length).length 0 (vecG (hdl T i) T.length) = some (.fin (vecG (fun k => if k < T.length then hdl T (i + 1) k else hdl T i k) T.length)) := by
      rw [vecG_len]
      have := forN_det (R := Unit) (N := T.length) (body := fun k s => p_spec_l15Handle_L2 T i (duL T) k s) (fun q => vecG (fun k => if k < q then hdl T (i + 1) k else hdl T i k) T.length) (fun q hq => by
        have li := h.duN hi
        have q1 : idx (T.getD i []) (du T i) = some ((T.getD i []).getD (du T i).toNat []) := idx_toNat _ _ (h.du0 hi) (by rw [h.cube.mat hi]; have := du_lt h.cube hi; omega)
        simp only [p_spec_l15Handle_L2, vecG_idx hq, h.cube.i1 hi, duL_idx hi, q1, h.cube.i3 hi li hq, Option.bind_some, Int.toNat_natCast]
        rw [vecG_set hq]
        congr 2
        refine vecG_congr fun k hk => ?_
        simp only [up1]
        by_cases hkq : k = q
        · subst hkq; simp [hdl, sumW]
        · have : k < q + 1 ↔ k < q := by omega
          simp only [hkq, if_false, this])
      simpa using this
    rw [ei]
    simp only [Option.bind_some, onRes]
    congr 2
    exact vecG_congr fun k hk => by simp [hk]
  rw [e]; rfl
theorem implHandle {T : List (List (List Int))} (h : RingOK T) : p_impl_Ring_handle T = some (vecG (hdl T T.length) T.length) := by
  have hn := h.cube.1
  unfold p_impl_Ring_handle
  rw [duals_eq h.cube, mkVec (by omega)]
  simp only [Option.bind_some]
  rw [duL_len]
  have e : forN (fun k s => p_impl_Ring_handle_L1 (duL T) T k s) T.length 0 (vecG (fun _ => 0) T.length) = some (.fin (vecG (hdl T T.length) T.length)) := by
    refine forN_det (R := Unit) (fun m => vecG (hdl T m) T.length) (fun i hi => ?_)
    have li := h.duN hi
    have q1 : idx (T.getD i []) (du T i) = some ((T.getD i []).getD (du T i).toNat []) := idx_toNat _ _ (h.du0 hi) (by rw [h.cube.mat hi]; have := du_lt h.cube hi; omega)
    simp only [p_impl_Ring_handle_L1, duL_idx hi, h.cube.i1 hi, q1, Option.bind_some]
    unfold p_impl_addTo
    rw [h.cube.row hi li]
    have ei : forN (fun k s => p_impl_addTo_L1 ((T.getD i []).getD (du T i).toNat []) k s) T.length 0 (vecG (hdl T i) T.length) = some (.fin (vecG (fun k => if k < T.length then hdl T (i + 1) k else hdl T i k) T.length)) := by
      have := forN_det (R := Unit) (N := T.length) (body := fun k s => p_impl_addTo_L1 ((T.getD i []).getD (du T i).toNat []) k s) (fun q => vecG (fun k => if k < q then hdl T (i + 1) k else hdl T i k) T.length) (fun q hq => by
        simp only [p_impl_addTo_L1, h.cube.i3 hi li hq, vecG_idx hq, Option.bind_some, Int.toNat_natCast]
        rw [vecG_set hq]
        congr 2
        refine vecG_congr fun k hk => ?_
        simp only [up1]
        by_cases hkq : k = q
        · subst hkq; simp [hdl, sumW]
        · have : k < q + 1 ↔ k < q := by omega
          simp only [hkq, if_false, this])
      simpa using this
    rw [ei]
    simp only [Option.bind_some, onRes]
    congr 2
    exact vecG_congr fun k hk => by simp [hk]
  rw [e]; rfl
end Go.VG
