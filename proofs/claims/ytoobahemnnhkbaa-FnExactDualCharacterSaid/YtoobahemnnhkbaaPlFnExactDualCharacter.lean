/- The plain law of FnExactDualCharacter: the code's answer is the model's. No condition but the readings'. -/
import Derived.Test.YtoobahemnnhkbaaPlPair2
import Derived.Test.YtoobahemnnhkbaaPlMark
set_option linter.all false
namespace Go.VG
theorem dualChr_eq (T : List (List (List Int))) (x : List Int) : ∃ r, p_spec_DualCharacter T x = some r ∧ p_impl_DualCharacter T x = some r ∧ (r.1.length : Int) ≤ 16 := by
  classical
  unfold p_spec_DualCharacter p_impl_DualCharacter
  obtain ⟨c, e1, e2, hc⟩ := code_eq T
  by_cases h0 : c = 0
  · subst h0
    obtain ⟨h, _⟩ := hc.1 rfl
    have hn := h.cube.1.2
    rw [list_one h.cube x e1, chr_codes1 h.cube x e2]
    by_cases hh : GoodL T x ∧ ChrOK T x
    · rw [if_pos hh]
      have hs : p_spec_l08Turn x (duL T) = some (tuL T x) := by
        unfold p_spec_l08Turn
        rw [hh.1.1, forN_app (R := Unit) (N := T.length) (body := fun k s => p_spec_l08Turn_L1 (duL T) x k s) (fun i => x.getD (du T i).toNat 0) (fun i hi => by
          simp only [p_spec_l08Turn_L1, duL_idx hi, tu_idx h hh.1.1 hi, Option.bind_some, app_range (fun i => x.getD (du T i).toNat 0) (by omega : i ≤ 1048576)])]
        rfl
      simp only [Option.bind_some, (by decide : ((0 : Int) != 0) = false), Bool.false_eq_true, if_false, specDuals h, duals_eq h.cube, hs, implTurn h hh.1.1]
      exact ⟨_, rfl, rfl, by simp only [tuL_len]; omega⟩
    · rw [if_neg hh]
      exact ⟨([], 2), rfl, rfl, by simp⟩
  · rw [list_off true [x] e1 h0, chrCode_off [x] [] e2 h0]
    exact ⟨([], c), by simp [h0], by simp [h0], by simp⟩
theorem plain_FnExactDualCharacter (aR_Table : (List (List (List Int)))) (aX : (List Int)) (h0 : Good3 .i64 aR_Table) (h1 : Good1 .i64 aX) : p_laws_FnExactDualCharacter aR_Table aX = some true := by
  unfold p_laws_FnExactDualCharacter
  by_cases hl : (aX.length : Int) > 1048576
  · simp [hl]
  · simp only [hl, decide_false, Bool.false_eq_true, if_false]
    obtain ⟨r, e, hr, hs⟩ := szRing_spec aR_Table 1048576 (by decide) (by decide) h0
    rw [e]
    simp only [Option.bind_some]
    by_cases hr0 : r < 0
    · simp [hr0]
    · simp only [hr0, decide_false, Bool.false_eq_true, if_false]
      obtain ⟨x, e1, e2, e3⟩ := dualChr_eq aR_Table aX
      obtain ⟨m, q, e4, e5, e6⟩ := markRing_ok aR_Table 1 hs (by omega) (by decide) (by decide)
      obtain ⟨la, m1, m2, m3⟩ := markS_held aX q (by omega) (by omega)
      obtain ⟨l, e7, e8, e9⟩ := markS_held x.1 1 (by decide) (by omega)
      have hq : ¬ q < 0 := by omega
      have hq2 : ¬ (q + (aX.length : Int)) < 0 := by omega
      have hp : ¬ (1 + (x.1.length : Int)) < 0 := by omega
      simp only [toRing_eq aR_Table hs (by omega), toInt64S_eq aX (by omega), Option.bind_some, e1, e2, eqRing_self, eqS_self, e4, e7, e9, m1]
      simp [hq, hp, hq2]
end Go.VG
