/- Lists of labels for a commutative ring: their code. No condition. -/
import Derived.Test.YtclffgakhkhglaaPlComm
set_option linter.all false
namespace Go.VG
open Classical in
/-- The code of a commutative ring and a list of one to eight labels. -/
theorem list_code (T : List (List (List Int))) (labels : List Int) : ∃ c, p_spec_l15List T labels = some c ∧ p_impl_pathCode T labels = some c ∧ (c = 0 ↔ (RingOK T ∧ CommOK T) ∧ 1 ≤ labels.length ∧ labels.length ≤ 8 ∧ LabOK T.length labels) := by
  obtain ⟨c, e1, e2, hc⟩ := code_eq T
  unfold p_spec_l15List p_impl_pathCode
  rw [e1, e2]
  simp only [Option.bind_some]
  by_cases h0 : c = 0
  · subst h0
    obtain ⟨hr, hcm⟩ := hc.1 rfl
    have hn := hr.cube.1
    simp only [beq_self_eq_true, if_true, bne_self_eq_false, Bool.false_eq_true, if_false]
    obtain ⟨b, e3, hb⟩ := specLabs hn labels
    obtain ⟨b', e4, hb'⟩ := implLabs hr.cube labels
    by_cases hl : labels.length = 0
    · refine ⟨2, ?_, ?_, ⟨fun h => (by cases h), fun h => by have := h.2.1; omega⟩⟩
      · simp [hl]
      · have : decide ((labels.length : Int) < 1) = true := by simp; omega
        simp [this]
    · have el : ((labels.length : Int) == 0) = false := by simp only [beq_eq_false_iff_ne, ne_eq]; omega
      have e5 : decide ((labels.length : Int) < 1) = false := by simp; omega
      simp only [el, Bool.false_eq_true, if_false, e3, Option.bind_some, e4, e5, Bool.false_or]
      by_cases h8 : labels.length ≤ 8
      · have e6 : decide ((labels.length : Int) > 8) = false := by simp; omega
        simp only [e6, Bool.false_eq_true, if_false]
        by_cases hL : LabOK T.length labels
        · rw [hb.2 ⟨hL, h8⟩, hb'.2 hL]
          exact ⟨0, rfl, rfl, ⟨fun _ => ⟨⟨hr, hcm⟩, by omega, h8, hL⟩, fun _ => rfl⟩⟩
        · have q1 : b = false := by cases b with | false => rfl | true => exact absurd (hb.1 rfl).1 hL
          have q2 : b' = false := by cases b' with | false => rfl | true => exact absurd (hb'.1 rfl) hL
          rw [q1, q2]
          exact ⟨2, rfl, rfl, ⟨fun h => (by cases h), fun h => absurd h.2.2.2 hL⟩⟩
      · have e6 : decide ((labels.length : Int) > 8) = true := by simp; omega
        have q1 : b = false := by cases b with | false => rfl | true => exact absurd (hb.1 rfl).2 h8
        rw [q1]
        exact ⟨2, rfl, by simp [e6], ⟨fun h => (by cases h), fun h => absurd h.2.2.1 h8⟩⟩
  · have h1 : (c == 0) = false := by simpa using h0
    have h2 : (c != 0) = true := by simpa using h0
    simp only [h1, h2, Bool.false_eq_true, if_false, if_true, Option.bind_some]
    exact ⟨c, rfl, rfl, ⟨fun h => absurd h h0, fun h => absurd (hc.2 h.1) h0⟩⟩
theorem prod_pos_bound {x y : Int} (h0 : 0 ≤ x) (h1 : x ≤ 1000000000000000) (h2 : 0 ≤ y) (h3 : y ≤ 1000) : 0 ≤ x * y ∧ x * y ≤ 1000000000000000000 := by
  have h4 := Int.mul_nonneg h0 h2
  have h5 : x * y ≤ 1000000000000000 * 1000 := Int.mul_le_mul h1 h3 h2 (by decide)
  exact ⟨h4, by omega⟩
end Go.VG
