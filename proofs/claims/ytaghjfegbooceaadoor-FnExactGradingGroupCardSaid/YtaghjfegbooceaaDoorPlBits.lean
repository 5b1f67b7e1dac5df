/- A word's bits, lowest first. Plain. -/
import Derived.Test.YtaghjfegbooceaaDoorVgPl
import Derived.Lib.TrailingZeros
set_option linter.all false
namespace Go.VG

theorem and_pred (k q : Nat) : (2 ^ k * (2 * q + 1)) &&& (2 ^ k * (2 * q + 1) - 1) = 2 ^ (k + 1) * q := by
  have hp : 0 < 2 ^ k := Nat.two_pow_pos k
  have e1 : 2 ^ k * (2 * q + 1) = 2 ^ (k + 1) * q + 2 ^ k := by rw [Nat.pow_succ]; simp [Nat.mul_add, Nat.mul_assoc]
  have e2 : 2 ^ k * (2 * q + 1) - 1 = 2 ^ (k + 1) * q + (2 ^ k - 1) := by omega
  have e3 : 2 ^ (k + 1) * q = 2 ^ (k + 1) * q + 0 := rfl
  rw [e1, show 2 ^ (k + 1) * q + 2 ^ k - 1 = 2 ^ (k + 1) * q + (2 ^ k - 1) by omega]
  apply Nat.eq_of_testBit_eq
  intro i
  have l1 : 2 ^ k < 2 ^ (k + 1) := by rw [Nat.pow_succ]; omega
  rw [Nat.testBit_and, Nat.testBit_two_pow_mul_add q l1, Nat.testBit_two_pow_mul_add q (by omega : 2 ^ k - 1 < 2 ^ (k + 1)), Nat.testBit_two_pow_mul, Nat.testBit_two_pow, Nat.testBit_two_pow_sub_one]
  by_cases h : i < k + 1
  · have h2 : ¬ k + 1 ≤ i := by omega
    by_cases e : k = i <;> simp [h, h2, e] <;> (try omega)
  · have h2 : k + 1 ≤ i := by omega
    simp [h, h2]; try omega

theorem ctz_is {m s : Nat} (hm : m < 2 ^ 64) (h : m.testBit s = true) (hl : ∀ i, i < s → m.testBit i = false) : Go.Lib.ctz 64 m = s ∧ ∃ q, m = 2 ^ s * (2 * q + 1) := by
  have h0 : m ≠ 0 := by intro e; subst e; simp at h
  obtain ⟨q, hq, hk⟩ := Go.Lib.ctzFrom_spec 64 m (by omega) hm
  have hc : Go.Lib.ctz 64 m = Go.Lib.ctzFrom 64 m := by unfold Go.Lib.ctz; rw [if_neg h0]
  rw [hc]
  generalize Go.Lib.ctzFrom 64 m = k at hq hk
  have hks : k = s := by
    have a1 : m.testBit k = true := by
      rw [hq, Nat.testBit_two_pow_mul]
      simp [Nat.testBit_zero]
    have a2 : ¬ k < s := by intro hlt; rw [hl k hlt] at a1; cases a1
    have a3 : ¬ s < k := by
      intro hlt
      rw [hq, Nat.testBit_two_pow_mul] at h
      simp at h; omega
    omega
  subst hks
  exact ⟨rfl, q, hq⟩

theorem no_bits {m s : Nat} (h : m < 2 ^ s) (hl : ∀ i, i < s → m.testBit i = false) : m = 0 := by
  apply Nat.eq_of_testBit_eq
  intro i
  rw [Nat.zero_testBit]
  by_cases hi : i < s
  · exact hl i hi
  · exact Nat.testBit_lt_two_pow (Nat.lt_of_lt_of_le h (Nat.pow_le_pow_right (by decide) (by omega)))

theorem clear_low {m s : Nat} (hm : m < 2 ^ 64) (h : m.testBit s = true) (hl : ∀ i, i < s → m.testBit i = false) : (m &&& (m - 1)) ≤ m ∧ ∀ i, (m &&& (m - 1)).testBit i = (m.testBit i && decide (i ≠ s)) := by
  obtain ⟨_, q, rfl⟩ := ctz_is hm h hl
  rw [and_pred]
  have hp : 0 < 2 ^ s := Nat.two_pow_pos s
  refine ⟨by rw [Nat.pow_succ, Nat.mul_assoc]; exact Nat.mul_le_mul_left _ (by omega), fun i => ?_⟩
  have l1 : 2 ^ s < 2 ^ (s + 1) := by rw [Nat.pow_succ]; omega
  have e1 : 2 ^ s * (2 * q + 1) = 2 ^ (s + 1) * q + 2 ^ s := by rw [Nat.pow_succ]; simp [Nat.mul_add, Nat.mul_assoc]
  rw [e1, Nat.testBit_two_pow_mul_add q l1, Nat.testBit_two_pow_mul, Nat.testBit_two_pow]
  by_cases hi : i < s + 1
  · have h2 : ¬ s + 1 ≤ i := by omega
    have h3 : ¬ s < i := by omega
    by_cases e : s = i
    · subst e; simp [h2, h3]
    · simp [hi, h2, h3, e]
  · have h2 : s + 1 ≤ i := by omega
    have h3 : s < i := by omega
    have e : i ≠ s := by omega
    simp [hi, h2, h3, e]; try omega

end Go.VG
