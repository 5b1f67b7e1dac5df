/- The plain law of FnExactHandleOf: the code's answer is the model's. No condition but the readings'. -/
import Derived.Test.YtclffgakhkhglaaPlComm
import Derived.Test.YtclffgakhkhglaaPlGrid
set_option linter.all false
namespace Go.VG
def hdl (T : List (List (List Int))) (m k : Nat) : Int := sumW (fun i => at3 T i (du T i).toNat k) m
theorem specDuals {T : List (List (List Int))} (h : Cube T) : p_spec_l03Duals T = some (duL T) := by
  unfold p_spec_l03Duals
  rw [forN_app (R := Unit) (du T) (fun j hj => by
    simp only [p_spec_l03Duals_L1, (dual_spec h hj).1, Option.bind_some, app_range (du T) (by have := h.1.2; omega : j ≤ 1048576)])]
  rfl
theorem mkVec {n : Nat} (h : n ≤ 1048576) : mkL (n : Int) (0 : Int) = some (vecG (fun _ => 0) n) := by
  rw [mkL_some' _ (by omega)]
  congr 1
  simp only [vecG]
  apply List.ext_getElem <;> simp
theorem specHandle {T : List (List (List Int))} (h : RingOK T) : p_spec_l15Handle T = some (vecG (hdl T T.length) T.length) := by
  have hn := h.cube.1
  unfold p_spec_l15Handle
  rw [specDuals h.cube, mkVec (by omega)]
  simp only [Option.bind_some]
  have e : forN (fun k s => p_spec_l15Handle_L1 T (duL T) k s) T.length 0 (vecG (fun _ => 0) T.length) = some (.fin (vecG (hdl T T.length) T.length)) := by
    refine forN_det (R := Unit) (fun m => vecG (hdl T m) T.length) (fun i hi => ?_)
    simp only [p_spec_l15Handle_L1]
    have ei : forN (fun k s => p_spec_l15Handle_L2 T i (duL T) k s) (vecG (hdl T i) T.length).length 0 (vecG (hdl T i) T.length) = some (.fin (vecG (fun k => if k < T.length then hdl T (i + 1) k else hdl T i k) T.length)) := by
      rw [vecG_len]
      have := forN_det (R := Unit) (N := T.length) (body := fun k s => p_spec_l15Handle_L2 T i (duL T) k s) (fun q => vecG (fun k => if k < q then hdl T (i + 1) k else hdl T i k) T.length) (fun q hq => by
        have li := h.duN hi
        have q1 : idx (T.getD i []) (du T i) = some ((T.getD i []).getD (du T i).toNat []) := idx_toNat _ _ (h.du0 hi) (by rw [h.cube.mat hi]; have := du_lt h.cube hi; omega)
        simp only [p_spec_l15Handle_L2, vecG_idx hq, h.cube.i1 hi, duL_idx hi, q1, h.cube.i3 hi li hq, Option.bind_some, Int.toNat_natCast]
        rw [vecG_set hq]
        congr 2
        refine vecG_congr fun k hk => ?_
        simp only [up1]
        by_cases hkq : k = q
        · subst hkq; simp [hdl, sumW]
        · have : k < q + 1 ↔ k < q := by omega
          simp only [hkq, if_false, this])
      simpa using this
    rw [ei]
    simp only [Option.bind_some, onRes]
    congr 2
    exact vecG_congr fun k hk => by simp [hk]
  rw [e]; rfl
theorem implHandle {T : List (List (List Int))} (h : RingOK T) : p_impl_Ring_handle T = some (vecG (hdl T T.length) T.length) := by
  have hn := h.cube.1
  unfold p_impl_Ring_handle
  rw [duals_eq h.cube, mkVec (by omega)]
  simp only [Option.bind_some]
  rw [duL_len]
  have e : forN (fun k s => p_impl_Ring_handle_L1 (duL T) T k s) T.length 0 (vecG (fun _ => 0) T.length) = some (.fin (vecG (hdl T T.length) T.length)) := by
    refine forN_det (R := Unit) (fun m => vecG (hdl T m) T.length) (fun i hi => ?_)
    have li := h.duN hi
    have q1 : idx (T.getD i []) (du T i) = some ((T.getD i []).getD (du T i).toNat []) := idx_toNat _ _ (h.du0 hi) (by rw [h.cube.mat hi]; have := du_lt h.cube hi; omega)
    simp only [p_impl_Ring_handle_L1, duL_idx hi, h.cube.i1 hi, q1, Option.bind_some]
    unfold p_impl_addTo
    rw [h.cube.row hi li]
    have ei : forN (fun k s => p_impl_addTo_L1 ((T.getD i []).getD (du T i).toNat []) k s) T.length 0 (vecG (hdl T i) T.length) = some (.fin (vecG (fun k => if k < T.length then hdl T (i + 1) k else hdl T i k) T.length)) := by
      have := forN_det (R := Unit) (N := T.length) (body := fun k s => p_impl_addTo_L1 ((T.getD i []).getD (du T i).toNat []) k s) (fun q => vecG (fun k => if k < q then hdl T (i + 1) k else hdl T i k) T.length) (fun q hq => by
        simp only [p_impl_addTo_L1, h.cube.i3 hi li hq, vecG_idx hq, Option.bind_some, Int.toNat_natCast]
        rw [vecG_set hq]
        congr 2
        refine vecG_congr fun k hk => ?_
        simp only [up1]
        by_cases hkq : k = q
        · subst hkq; simp [hdl, sumW]
        · have : k < q + 1 ↔ k < q := by omega
          simp only [hkq, if_false, this])
      simpa using this
    rw [ei]
    simp only [Option.bind_some, onRes]
    congr 2
    exact vecG_congr fun k hk => by simp [hk]
  rw [e]; rfl
theorem handle_eq (T : List (List (List Int))) : ∃ r, p_spec_HandleOf T = some r ∧ p_impl_HandleOf T = some r ∧ (r.1.length : Int) ≤ 16 := by
  unfold p_spec_HandleOf p_impl_HandleOf
  obtain ⟨c, e1, e2, hc⟩ := code_eq T
  rw [e1, e2]
  simp only [Option.bind_some]
  by_cases h0 : c = 0
  · subst h0
    obtain ⟨hr, _⟩ := hc.1 rfl
    simp only [bne_self_eq_false, Bool.false_eq_true, if_false, specHandle hr, implHandle hr, Option.bind_some]
    exact ⟨_, rfl, rfl, by simp only [vecG_len]; have := hr.cube.1; omega⟩
  · have h2 : (c != 0) = true := by simpa using h0
    simp only [h2, if_true]
    exact ⟨_, rfl, rfl, by simp⟩
theorem plain_FnExactHandleOf (aR_Table : (List (List (List Int)))) (h0 : Good3 .i64 aR_Table) : p_laws_FnExactHandleOf aR_Table = some true := by
  unfold p_laws_FnExactHandleOf
  obtain ⟨r, e, hr, hs⟩ := szRing_spec aR_Table 1048576 (by decide) (by decide) h0
  rw [e]
  simp only [Option.bind_some]
  by_cases hr0 : r < 0
  · simp [hr0]
  · simp only [hr0, decide_false, Bool.false_eq_true, if_false]
    obtain ⟨x, e1, e2, e3⟩ := handle_eq aR_Table
    obtain ⟨m, q, e4, e5, e6⟩ := markRing_ok aR_Table 1 hs (by omega) (by decide) (by decide)
    obtain ⟨l, e7, e8, e9⟩ := markS_held x.1 1 (by decide) (by omega)
    have hq : ¬ q < 0 := by omega
    have hp : ¬ (1 + (x.1.length : Int)) < 0 := by omega
    simp only [toRing_eq aR_Table hs (by omega), Option.bind_some, e1, e2, eqRing_self, eqS_self, e4, e7, e9]
    simp [hq, hp]
end Go.VG
