/- The plain law of FnExactIsSubring: the code's answer is the model's. No condition but the readings'. -/
import Derived.Test.YtnilmlcdgllipaaDoorPlSub
set_option linter.all false
namespace Go.VG
theorem isSub_eq (T : List (List (List Int))) (s : Int) : ∃ r, p_spec_IsSubring T s = some r ∧ p_impl_IsSubring T s = some r := by
  unfold p_spec_IsSubring p_impl_IsSubring
  rw [specCode, implCode]
  simp only [Option.bind_some]
  cases hc : (codeS T s != 0)
  · obtain ⟨h, m, rfl, hm⟩ := codeS_ok hc
    simp only [Bool.false_eq_true, if_false, specIsSub h hm, closed_eq h hm, Option.bind_some]
    refine ⟨_, rfl, ?_⟩
    have : (((cl T (m ||| 1) : Nat) : Int) == (m : Int)) = decide (spr T m = m) := by
      rw [Bool.eq_iff_iff, decide_eq_true_iff, ← cl_is h hm, beq_iff_eq]
      omega
    rw [this]
  · simp
theorem plain_FnExactIsSubring (aR_Table : (List (List (List Int)))) (aSet : Int) (h0 : Good3 .i64 aR_Table) (h1 : InR .i64 aSet) : p_laws_FnExactIsSubring aR_Table aSet = some true := by
  unfold p_laws_FnExactIsSubring
  obtain ⟨r, e, hr, hs⟩ := szRing_spec aR_Table 1048576 (by decide) (by decide) h0
  rw [e]
  simp only [Option.bind_some]
  by_cases hr0 : r < 0
  · simp [hr0]
  · simp only [hr0, decide_false, Bool.false_eq_true, if_false]
    obtain ⟨x, e1, e2⟩ := isSub_eq aR_Table aSet
    simp only [toRing_eq aR_Table hs (by omega), Option.bind_some, e1, e2, eqRing_self]
    simp
end Go.VG
