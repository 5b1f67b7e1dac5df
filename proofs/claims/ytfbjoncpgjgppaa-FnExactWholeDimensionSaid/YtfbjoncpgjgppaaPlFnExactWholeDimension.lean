/- The plain law of FnExactWholeDimension. No condition but the readings'. -/
import Derived.Test.YtfbjoncpgjgppaaPlIntDims
import Derived.Test.YtfbjoncpgjgppaaPlSumP
set_option linter.all false
namespace Go.VG
theorem wholeDim_eq (T : List (List (List Int))) : ∃ x, p_spec_WholeDimension T = some x ∧ p_impl_WholeDimension T = some x := by
  unfold p_spec_WholeDimension p_impl_WholeDimension
  obtain ⟨x, e1, e2, _, hx⟩ := intDims_eq T
  rw [e1, e2]
  simp only [Option.bind_some, sumOfProducts_eq (Nat.le_refl x.1.length)]
  by_cases h : x.2 = 0
  · have e : forN (R := Unit) (fun k s => p_spec_WholeDimension_L1 x k s) x.1.length 0 (0 : Int) = some (.fin (sumW (prS x.1 x.1) x.1.length)) := forN_det (R := Unit) (fun k => sumW (prS x.1 x.1) k) (fun k hk => by
      simp only [p_spec_WholeDimension_L1, idx_getD x.1 0 hk, Option.bind_some, sumW, prS])
    have hc : (x.2 != 0) = false := by simp [h]
    rw [hc, e]
    simp only [Bool.false_eq_true, if_false, Option.bind_some, onRes]
    rw [h]
    exact ⟨_, rfl, rfl⟩
  · have hc : (x.2 != 0) = true := by simp [h]
    rw [hc, hx h]
    exact ⟨_, rfl, rfl⟩
theorem plain_FnExactWholeDimension (aR_Table : (List (List (List Int)))) (h0 : Good3 .i64 aR_Table) : p_laws_FnExactWholeDimension aR_Table = some true := by
  unfold p_laws_FnExactWholeDimension
  obtain ⟨r, e, hr, hs⟩ := szRing_spec aR_Table 1048576 (by decide) (by decide) h0
  rw [e]
  simp only [Option.bind_some]
  by_cases hr0 : r < 0
  · simp [hr0]
  · simp only [hr0, decide_false, Bool.false_eq_true, if_false]
    obtain ⟨x, e1, e2⟩ := wholeDim_eq aR_Table
    simp only [toRing_eq aR_Table hs (by omega), Option.bind_some, e1, e2, eqRing_self]
    simp
end Go.VG
