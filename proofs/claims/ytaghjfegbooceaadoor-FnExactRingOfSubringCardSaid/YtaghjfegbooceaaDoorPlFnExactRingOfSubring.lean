/- The plain law of FnExactRingOfSubring: the code's answer is the model's. No condition but the readings'. -/
import Derived.Test.YtaghjfegbooceaaDoorPlSubR
import Derived.Test.YtaghjfegbooceaaDoorPlHeld3
import Derived.Test.YtaghjfegbooceaaDoorPlMark
set_option linter.all false
namespace Go.VG
theorem cubeG_sz {f : Nat → Nat → Nat → Int} {k : Nat} (hk : k ≤ 16) : (cubeG f k k k).length ≤ 1048576 ∧ ∀ x ∈ cubeG f k k k, x.length ≤ 1048576 ∧ ∀ y ∈ x, y.length ≤ 1048576 := by
  refine ⟨by rw [cubeG_len]; omega, fun x hx => ?_⟩
  unfold cubeG at hx
  obtain ⟨i, hi, rfl⟩ := List.mem_map.1 hx
  refine ⟨by rw [grid_len]; omega, fun y hy => ?_⟩
  unfold grid at hy
  obtain ⟨j, hj, rfl⟩ := List.mem_map.1 hy
  rw [rowG_len]; omega
theorem ringSub_eq (T : List (List (List Int))) (s : Int) : ∃ r, p_spec_RingOfSubring T s = some r ∧ p_impl_RingOfSubring T s = some r ∧ r.1.length ≤ 1048576 ∧ ∀ x ∈ r.1, x.length ≤ 1048576 ∧ ∀ y ∈ x, y.length ≤ 1048576 := by
  unfold p_spec_RingOfSubring p_impl_RingOfSubring
  rw [specCode, implCode]
  simp only [Option.bind_some]
  cases hc : (codeS T s != 0)
  · obtain ⟨h, m, rfl, hm⟩ := codeS_ok hc
    have hn := h.n16
    simp only [Bool.false_eq_true, if_false, specIsSub h hm, closed_eq h hm, Option.bind_some]
    by_cases hf : spr T m = m
    · have e1 : (((cl T (m ||| 1) : Nat) : Int) != (m : Int)) = false := by
        have := (cl_is h hm).2 hf
        simp; omega
      simp only [e1, hf, decide_true, Bool.not_true, Bool.false_eq_true, if_false, specRing h.cube hm, ringOf_eq h.cube hm, Option.bind_some]
      exact ⟨_, rfl, rfl, cubeG_sz (by have := kn_le m T.length; omega)⟩
    · have e1 : (((cl T (m ||| 1) : Nat) : Int) != (m : Int)) = true := by
        have : ¬ cl T (m ||| 1) = m := fun e => hf ((cl_is h hm).1 e)
        simp; omega
      simp only [e1, hf, decide_false, Bool.not_false, if_true]
      exact ⟨_, rfl, rfl, by simp⟩
  · simp
theorem plain_FnExactRingOfSubring (aR_Table : (List (List (List Int)))) (aSet : Int) (h0 : Good3 .i64 aR_Table) (h1 : InR .i64 aSet) : p_laws_FnExactRingOfSubring aR_Table aSet = some true := by
  unfold p_laws_FnExactRingOfSubring
  obtain ⟨r, e, hr, hs⟩ := szRing_spec aR_Table 1048576 (by decide) (by decide) h0
  rw [e]
  simp only [Option.bind_some]
  by_cases hr0 : r < 0
  · simp [hr0]
  · simp only [hr0, decide_false, Bool.false_eq_true, if_false]
    obtain ⟨x, e1, e2, e3, e3'⟩ := ringSub_eq aR_Table aSet
    obtain ⟨m, q, e4, e5, e6⟩ := markRing_ok aR_Table 1 hs (by omega) (by decide) (by decide)
    obtain ⟨y, l, e7, e8, e9, e10⟩ := markSSS_held x.1 1 (by decide) e3 e3' (by decide)
    have e11 : p_laws_markRing x.1 1 = some (y, l) := by unfold p_laws_markRing; rw [e7]; rfl
    have hy : ¬ y < 0 := by omega
    have e12 : p_laws_heldRing l 1 = some y := by unfold p_laws_heldRing; rw [e10]; simp [hy]
    have hq : ¬ q < 0 := by omega
    simp only [toRing_eq aR_Table hs (by omega), Option.bind_some, e1, e2, eqRing_self, e4, e11, e12]
    simp [hq, hy]
end Go.VG
