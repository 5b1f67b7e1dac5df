/- The plain law of FnExactRegularAction: the code's answer is the model's. No condition but the readings'. -/
import Derived.Test.YtclffgakhkhglaaPlTurn
import Derived.Test.YtclffgakhkhglaaPlHeld3
set_option linter.all false
namespace Go.VG
theorem Cube.sq {T : List (List (List Int))} (h : Cube T) {i : Nat} (hi : i < T.length) : Sq T.length (T.getD i []) := ⟨h.mat hi, fun _ hj => h.row hi hj⟩
theorem regular_eq (T : List (List (List Int))) : ∃ r, p_spec_RegularAction T = some r ∧ p_impl_RegularAction T = some r ∧ r.1.length ≤ 16 ∧ ∀ x ∈ r.1, x.length ≤ 1048576 ∧ ∀ y ∈ x, y.length ≤ 1048576 := by
  unfold p_spec_RegularAction p_impl_RegularAction
  obtain ⟨b, e1, hb⟩ := specIs (T := T)
  have e2 : p_impl_IsRing T = some b := by rw [← e1]; exact implIs.eq specIs
  rw [e1, e2]
  simp only [Option.bind_some]
  cases b
  · exact ⟨([], 1), rfl, rfl, by simp, by simp⟩
  · have hr := hb.1 rfl
    have hn := hr.cube.1
    simp only [Bool.not_true, Bool.false_eq_true, if_false]
    unfold p_spec_l09Regular
    rw [forN_app (R := Unit) (fun i => turnM T.length (T.getD i [])) (fun i hi => by
      simp only [p_spec_l09Regular_L1, hr.cube.i1 hi, specTurn (hr.cube.sq hi) hn.1 (by omega), Option.bind_some, appL_range (fun i => turnM T.length (T.getD i [])) (by omega : i ≤ 1048576)])]
    rw [forN_app (R := Unit) (fun i => turnM T.length (T.getD i [])) (fun i hi => by
      simp only [p_impl_RegularAction_L1, hr.cube.i1 hi, implTurn (hr.cube.sq hi) hn.1 (by omega), Option.bind_some, appL_range (fun i => turnM T.length (T.getD i [])) (by omega : i ≤ 1048576)])]
    refine ⟨_, rfl, rfl, by simp; omega, fun x hx => ?_⟩
    obtain ⟨i, hi, rfl⟩ := List.mem_map.1 hx
    refine ⟨by rw [(turn_sq _ _).1]; omega, fun y hy => ?_⟩
    obtain ⟨j, hj, rfl⟩ := mem_getD [] hy
    rw [(turn_sq _ _).1] at hj
    rw [(turn_sq _ _).2 j hj]; omega
theorem eqAction_self (a : List (List (List Int))) : p_laws_eqAction a a = some true := by
  unfold p_laws_eqAction; rw [eqSSS_self]; rfl
theorem plain_FnExactRegularAction (aR_Table : (List (List (List Int)))) (h0 : Good3 .i64 aR_Table) : p_laws_FnExactRegularAction aR_Table = some true := by
  unfold p_laws_FnExactRegularAction
  obtain ⟨r, e, hr, hs⟩ := szRing_spec aR_Table 1048576 (by decide) (by decide) h0
  rw [e]
  simp only [Option.bind_some]
  by_cases hr0 : r < 0
  · simp [hr0]
  · simp only [hr0, decide_false, Bool.false_eq_true, if_false]
    obtain ⟨x, e1, e2, e3, e3'⟩ := regular_eq aR_Table
    obtain ⟨m, q, e4, e5, e6⟩ := markRing_ok aR_Table 1 hs (by omega) (by decide) (by decide)
    obtain ⟨y, l, e7, e8, e9, e10⟩ := markSSS_held x.1 1 (by decide) (by omega) e3' (by decide)
    have e11 : p_laws_markAction x.1 1 = some (y, l) := by unfold p_laws_markAction; rw [e7]; rfl
    have hy : ¬ y < 0 := by omega
    have e12 : p_laws_heldAction l 1 = some y := by unfold p_laws_heldAction; rw [e10]; simp [hy]
    have hq : ¬ q < 0 := by omega
    simp only [toRing_eq aR_Table hs (by omega), Option.bind_some, e1, e2, eqRing_self, eqAction_self, e4, e11, e12]
    simp [hq, hy]
end Go.VG
