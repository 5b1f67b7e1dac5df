/- The plain law of FnExactSurfaceDimension. No condition but the readings'. -/
import Derived.Test.YtijcmcibejdjpaaPlSurf
set_option linter.all false
namespace Go.VG
theorem surface_eq (T : List (List (List Int))) (g : Int) (labels : List Int) : ∃ x, p_spec_SurfaceDimension T g labels = some x ∧ p_impl_SurfaceDimension T g labels = some x := by
  unfold p_spec_SurfaceDimension p_impl_SurfaceDimension
  obtain ⟨c, e1, e2, hc⟩ := code_eq T
  rw [e1, e2]
  simp only [Option.bind_some]
  by_cases h0 : c = 0
  · subst h0
    obtain ⟨hr, _⟩ := hc.1 rfl
    have hn := hr.cube.1
    simp only [bne_self_eq_false, beq_self_eq_true, if_true, Bool.false_eq_true, if_false, p_spec_l01In, p_impl_within, Option.bind_some]
    by_cases hg : 0 ≤ g ∧ g ≤ 20
    · have ec : (decide (g ≥ 0) && decide (g ≤ 20)) = true := by simpa using hg
      obtain ⟨b, f1, f2⟩ := specLabs hn labels
      obtain ⟨b', f3, f4⟩ := implLabs hr.cube labels
      by_cases hl : labels.length ≤ 8
      · have el : decide ((labels.length : Int) > 8) = false := decide_eq_false (by omega)
        have ebb : b = b' := by
          cases b <;> cases b' <;> simp [hl] at f2 f4 ⊢
          · exact f2 f4
          · exact f4 f2
        subst ebb
        simp only [ec, Bool.not_true, Bool.false_eq_true, if_false, f1, f3, Option.bind_some, el, Bool.or_false]
        cases b
        · exact ⟨(0, 2), rfl, rfl⟩
        · simp only [Bool.not_true, Bool.false_eq_true, if_false, bne_self_eq_false]
          obtain ⟨q, rfl⟩ : ∃ q : Nat, g = (q : Int) := ⟨g.toNat, by omega⟩
          rcases number_rel hr (f4.1 rfl) (g := q) (by omega) with ⟨e, e'⟩ | ⟨v, hv, e, e'⟩
          · rw [e, e']; exact ⟨(0, 3), rfl, rfl⟩
          · rw [e, e']
            have en : decide (v < 0) = false := decide_eq_false (by omega)
            simp only [Option.bind_some, Bool.not_true, Bool.false_eq_true, if_false, en]
            exact ⟨_, rfl, rfl⟩
      · have el : decide ((labels.length : Int) > 8) = true := decide_eq_true (by omega)
        have eb : b = false := by cases b with | false => rfl | true => exact absurd (f2.1 rfl).2 hl
        subst eb
        simp only [ec, Bool.not_true, Bool.false_eq_true, if_false, f1, Option.bind_some, el, Bool.or_true, if_true, Bool.not_false]
        exact ⟨(0, 2), rfl, rfl⟩
    · have ec : (decide (g ≥ 0) && decide (g ≤ 20)) = false := by
        cases hh : (decide (g ≥ 0) && decide (g ≤ 20)) with
        | false => rfl
        | true => exact absurd (by simpa using hh) hg
      simp only [ec, Bool.not_false, if_true, Bool.true_or, Option.bind_some]
      exact ⟨(0, 2), rfl, rfl⟩
  · have h1 : (c == 0) = false := by simpa using h0
    have h2 : (c != 0) = true := by simpa using h0
    simp only [h1, h2, Bool.false_eq_true, if_false, if_true, Option.bind_some]
    exact ⟨_, rfl, rfl⟩
theorem plain_FnExactSurfaceDimension (aR_Table : (List (List (List Int)))) (aGenus : Int) (aLabels : (List Int)) (h0 : Good3 .i64 aR_Table) (h1 : InR .i64 aGenus) (h2 : Good1 .i64 aLabels) : p_laws_FnExactSurfaceDimension aR_Table aGenus aLabels = some true := by
  unfold p_laws_FnExactSurfaceDimension
  by_cases hl : (aLabels.length : Int) > 1048576
  · simp [hl]
  simp only [hl, decide_false, Bool.false_eq_true, if_false]
  obtain ⟨r, e, hr, hs⟩ := szRing_spec aR_Table 1048576 (by decide) (by decide) h0
  rw [e]
  simp only [Option.bind_some]
  by_cases hr0 : r < 0
  · simp [hr0]
  · simp only [hr0, decide_false, Bool.false_eq_true, if_false]
    obtain ⟨x, e1, e2⟩ := surface_eq aR_Table aGenus aLabels
    simp only [toRing_eq aR_Table hs (by omega), toInt64S_eq aLabels (by omega), Option.bind_some, e1, e2, eqRing_self, eqS_self]
    simp
end Go.VG
