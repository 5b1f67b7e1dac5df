/- The plain law of FnExactCountFixedPoints: the code's answer is the model's. No condition but the readings'. -/
import Derived.Test.YtclffgakhkhglaaPlAct
set_option linter.all false
namespace Go.VG
theorem fixed_eq (T A : List (List (List Int))) (i : Int) : ∃ r, p_spec_CountFixedPoints T A i = some r ∧ p_impl_CountFixedPoints T A i = some r := by
  unfold p_spec_CountFixedPoints p_impl_CountFixedPoints
  obtain ⟨b, e1, hb⟩ := specAct (T := T) (A := A)
  have e2 : p_impl_IsAction T A = some b := by rw [← e1]; exact implAct.eq specAct
  rw [e1, e2]
  simp only [Option.bind_some]
  cases b
  · exact ⟨(0, 1), rfl, rfl⟩
  · obtain ⟨hR, hF, _⟩ := hb.1 rfl
    have hn := hR.cube.1
    have hm := hF.2.1
    simp only [Bool.not_true, Bool.false_eq_true, if_false]
    have w1 : w64 ((T.length : Int) - 1) = (T.length : Int) - 1 := w64_small (by omega) (by omega)
    simp only [p_spec_l03Label, p_impl_Ring_isLabel, p_spec_l01In, p_impl_within, w1, Option.bind_some]
    by_cases hl : 0 ≤ i ∧ i ≤ (T.length : Int) - 1
    · obtain ⟨k, rfl⟩ : ∃ k : Nat, i = k := ⟨i.toNat, by omega⟩
      have hk : k < T.length := by omega
      have e3 : (decide ((0 : Int) ≤ (k : Int)) && decide ((k : Int) ≤ (T.length : Int) - 1)) = true := by simp; omega
      have e3' : (decide ((k : Int) ≥ 0) && decide ((k : Int) ≤ (T.length : Int) - 1)) = true := by simp; omega
      simp only [e3, e3', Bool.not_true, Bool.false_eq_true, if_false, p_spec_l09Size, p_impl_Action_points, idx_zero A [] (by rw [hF.1]; omega : 0 < A.length), Option.bind_some, ptsA_def]
      rw [specUnit (by omega), implUnit (by omega)]
      simp only [Option.bind_some, hF.i1 hk, specTurn (hF.mat hk) hm.1 (by omega), implTurn (hF.mat hk) hm.1 (by omega)]
      have ec : forN (fun k_1 s => p_impl_CountFixedPoints_L1 (turnM (ptsA A) (A.getD k [])) (unitM (ptsA A)) k_1 s) (turnM (ptsA A) (A.getD k [])).length 0 (0 : Int) = forN (fun k_1 s => p_spec_CountFixedPoints_L1 (turnM (ptsA A) (A.getD k [])) (unitM (ptsA A)) k_1 s) (turnM (ptsA A) (A.getD k [])).length 0 (0 : Int) := rfl
      rw [ec]
      obtain ⟨s, e4, _⟩ := forN_inv (R := Unit) (N := (turnM (ptsA A) (A.getD k [])).length) (s := (0 : Int)) (body := fun k_1 s => p_spec_CountFixedPoints_L1 (turnM (ptsA A) (A.getD k [])) (unitM (ptsA A)) k_1 s) (fun _ _ => True) trivial (fun j s hj _ => by
        have hj' : j < ptsA A := by rw [(turn_sq _ _).1] at hj; exact hj
        simp only [p_spec_CountFixedPoints_L1, (turn_sq (ptsA A) (A.getD k [])).i1 hj', (grid_sq _ _).i1 hj', unitM, Option.bind_some]
        obtain ⟨b, e5, _⟩ := sameS_says ((turnM (ptsA A) (A.getD k [])).getD j []) ((grid (fun i j => if i = j then (1 : Int) else 0) (ptsA A) (ptsA A)).getD j [])
        rw [e5]
        cases b
        · exact ⟨_, rfl, trivial⟩
        · exact ⟨_, rfl, trivial⟩)
      rw [e4]
      exact ⟨_, rfl, rfl⟩
    · have e3 : (decide ((0 : Int) ≤ i) && decide (i ≤ (T.length : Int) - 1)) = false := by simp; omega
      have e3' : (decide (i ≥ 0) && decide (i ≤ (T.length : Int) - 1)) = false := by simp; omega
      simp only [e3, e3', Bool.not_false, if_true]
      exact ⟨_, rfl, rfl⟩
theorem plain_FnExactCountFixedPoints (aR_Table : (List (List (List Int)))) (aA_Matrices : (List (List (List Int)))) (aI : Int) (h0 : Good3 .i64 aR_Table) (h1 : Good3 .i64 aA_Matrices) (h2 : InR .i64 aI) : p_laws_FnExactCountFixedPoints aR_Table aA_Matrices aI = some true := by
  unfold p_laws_FnExactCountFixedPoints
  obtain ⟨r, e, hr, hs⟩ := szRing_spec aR_Table 1048576 (by decide) (by decide) h0
  rw [e]
  simp only [Option.bind_some]
  by_cases hr0 : r < 0
  · simp [hr0]
  · have hr1 := hs.1
    obtain ⟨r2, e2, hr2, hs2⟩ := szAction_spec aA_Matrices r (by omega) (by omega) h1
    simp only [hr0, decide_false, Bool.false_eq_true, if_false, e2, Option.bind_some]
    by_cases hr20 : r2 < 0
    · simp [hr20]
    · simp only [hr20, decide_false, Bool.false_eq_true, if_false]
      obtain ⟨x, e3, e4⟩ := fixed_eq aR_Table aA_Matrices aI
      simp only [toRing_eq aR_Table hs (by omega), toAction_eq aA_Matrices hs2 (by omega) (by omega), Option.bind_some, e3, e4, eqRing_self, eqAction_self]
      simp
end Go.VG
