/- The plain law of FnExactCodegreeOf: the code's answer is the model's. No condition but the readings'. -/
import Derived.Test.YtoobahemnnhkbaaPlPair2
set_option linter.all false
namespace Go.VG
theorem codegOf_eq (T : List (List (List Int))) (x : List Int) : ∃ r, p_spec_CodegreeOf T x = some r ∧ p_impl_CodegreeOf T x = some r := by
  classical
  obtain ⟨r, e, h1, h2⟩ := implPairOf T x x
  refine ⟨r, ?_, by unfold p_impl_CodegreeOf; rw [e]; rfl⟩
  unfold p_spec_CodegreeOf
  obtain ⟨c, e1, e2, hc⟩ := code_eq T
  by_cases h0 : c = 0
  · subst h0
    obtain ⟨h, _⟩ := hc.1 rfl
    rw [list_one h.cube x e1]
    by_cases hh : GoodL T x ∧ ChrOK T x
    · rw [if_pos hh, (h2 e1 h).1 ⟨hh, hh⟩]
      simp only [Option.bind_some, (by decide : ((0 : Int) != 0) = false), Bool.false_eq_true, if_false]
      exact specPairTail h hh.1 hh.1
    · rw [if_neg hh, (h2 e1 h).2 (fun g => hh g.1)]
      rfl
  · rw [list_off true [x] e1 h0, h1 c e1 h0]
    simp [h0]
theorem plain_FnExactCodegreeOf (aR_Table : (List (List (List Int)))) (aX : (List Int)) (h0 : Good3 .i64 aR_Table) (h1 : Good1 .i64 aX) : p_laws_FnExactCodegreeOf aR_Table aX = some true := by
  unfold p_laws_FnExactCodegreeOf
  by_cases hl : (aX.length : Int) > 1048576
  · simp [hl]
  · simp only [hl, decide_false, Bool.false_eq_true, if_false]
    obtain ⟨r, e, hr, hs⟩ := szRing_spec aR_Table 1048576 (by decide) (by decide) h0
    rw [e]
    simp only [Option.bind_some]
    by_cases hr0 : r < 0
    · simp [hr0]
    · simp only [hr0, decide_false, Bool.false_eq_true, if_false]
      obtain ⟨x, e1, e2⟩ := codegOf_eq aR_Table aX
      simp only [toRing_eq aR_Table hs (by omega), toInt64S_eq aX (by omega), Option.bind_some, e1, e2, eqRing_self, eqS_self]
      simp
end Go.VG
