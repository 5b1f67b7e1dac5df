/- The plain law of FnExactPairingOf: the code's answer is the model's. No condition but the readings'. -/
import Derived.Test.YtoobahemnnhkbaaPlPair2
set_option linter.all false
namespace Go.VG
theorem pairingOf_eq (T : List (List (List Int))) (x y : List Int) : ∃ r, p_spec_PairingOf T x y = some r ∧ p_impl_PairingOf T x y = some r := by
  classical
  obtain ⟨r, e, h1, h2⟩ := implPairOf T x y
  refine ⟨r, ?_, e⟩
  unfold p_spec_PairingOf
  obtain ⟨c, e1, e2, hc⟩ := code_eq T
  by_cases h0 : c = 0
  · subst h0
    obtain ⟨h, _⟩ := hc.1 rfl
    rw [list_two h.cube x y e1]
    by_cases hh : TwoC T x y
    · rw [if_pos hh, (h2 e1 h).1 hh]
      simp only [Option.bind_some, (by decide : ((0 : Int) != 0) = false), Bool.false_eq_true, if_false]
      exact specPairTail h hh.1.1 hh.2.1
    · rw [if_neg hh, (h2 e1 h).2 hh]
      rfl
  · rw [list_off true [x, y] e1 h0, h1 c e1 h0]
    simp [h0]
theorem plain_FnExactPairingOf (aR_Table : (List (List (List Int)))) (aX : (List Int)) (aY : (List Int)) (h0 : Good3 .i64 aR_Table) (h1 : Good1 .i64 aX) (h2 : Good1 .i64 aY) : p_laws_FnExactPairingOf aR_Table aX aY = some true := by
  unfold p_laws_FnExactPairingOf
  by_cases hl : (aX.length : Int) > 1048576
  · simp [hl]
  · by_cases hl2 : (aY.length : Int) > 1048576
    · simp [hl, hl2]
    · simp only [hl, hl2, decide_false, Bool.false_eq_true, if_false]
      obtain ⟨r, e, hr, hs⟩ := szRing_spec aR_Table 1048576 (by decide) (by decide) h0
      rw [e]
      simp only [Option.bind_some]
      by_cases hr0 : r < 0
      · simp [hr0]
      · simp only [hr0, decide_false, Bool.false_eq_true, if_false]
        obtain ⟨x, e1, e2⟩ := pairingOf_eq aR_Table aX aY
        simp only [toRing_eq aR_Table hs (by omega), toInt64S_eq aX (by omega), toInt64S_eq aY (by omega), Option.bind_some, e1, e2, eqRing_self, eqS_self]
        simp
end Go.VG
