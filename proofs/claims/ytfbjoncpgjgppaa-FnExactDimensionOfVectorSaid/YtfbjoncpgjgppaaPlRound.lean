/- Rounding a double to a whole number, and reading it as one. Plain. -/
import Derived.Test.YtfbjoncpgjgppaaGPure
import Derived.Test.YtfbjoncpgjgppaaPlFlt4
set_option linter.all false
namespace Go.VG
open Ieee
attribute [local irreducible] uU uUS
theorem whole_gen (S : Nat) (hS : S = 1074) {r R : Nat} (hr : Fin0 r) (h : fv r = R * uU) : (FloatKind.f64.decode r).toInt .zero = some (R : Int) := by
  have e0 : FloatKind.f64.decode r = double.read r := rfl
  rw [e0, read_fin hr]
  unfold Datum.toInt Datum.integral
  simp only [signed, Bool.false_eq_true, if_false, Nat.shiftLeft_zero]
  congr 1
  rw [fv_eq, ← uU_gen S hS] at h
  generalize sg r = m at h ⊢
  generalize pl r = p at h ⊢
  unfold Toward.cut
  simp only [Nat.one_shiftLeft, Bool.toNat_false, Nat.add_zero]
  by_cases hp : S ≤ p
  · have a1 : (-(-1074 + (p : Int))).toNat = 0 := by omega
    have a2 : (-1074 + (p : Int)).toNat = p - S := by omega
    rw [a1, a2, Nat.zero_min, Nat.pow_zero, Nat.div_one, Nat.shiftLeft_eq]
    have : m * 2 ^ (p - S) * 2 ^ S = R * 2 ^ S := by rw [Nat.mul_assoc, ← Nat.pow_add, Nat.sub_add_cancel hp]; exact h
    rw [Nat.eq_of_mul_eq_mul_right (Nat.two_pow_pos S) this]
  · have a1 : (-(-1074 + (p : Int))).toNat = S - p := by omega
    have a2 : (-1074 + (p : Int)).toNat = 0 := by omega
    rw [a1, a2, Nat.shiftLeft_zero]
    have hm : m = R * 2 ^ (S - p) := by
      have : m * 2 ^ p = R * 2 ^ (S - p) * 2 ^ p := by rw [Nat.mul_assoc, ← Nat.pow_add, Nat.sub_add_cancel (by omega)]; exact h
      exact Nat.eq_of_mul_eq_mul_right (Nat.two_pow_pos p) this
    by_cases hR : R = 0
    · subst hR
      rw [Nat.zero_mul] at hm
      subst hm
      simp
    · have h1 : 2 ^ (S - p) ≤ m := by rw [hm]; exact Nat.le_mul_of_pos_left _ (by omega)
      have h2 : m < 2 ^ (m.log2 + 1) := Nat.lt_log2_self
      have h3 := pow_lt_exp (Nat.lt_of_le_of_lt h1 h2)
      have h4 : min (S - p) (m.log2 + 2) = S - p := by omega
      rw [h4, hm, Nat.mul_div_cancel _ (Nat.two_pow_pos _)]
theorem fTo_whole {r R : Nat} (hr : Fin0 r) (h : fv r = R * uU) (hR : R ≤ 1000000) : fTo (r : Int) = some (R : Int) := by
  unfold fTo floatToIntVal
  rw [Int.toNat_natCast, whole_gen 1074 rfl hr h]
  have : IntKind.i64.min ≤ (R : Int) ∧ (R : Int) ≤ IntKind.i64.max := inR_i64.2 (by omega)
  simp only [this.1, this.2, and_self, if_true]

/-! ### Words of 64 bits -/
theorem wrapU {q : Nat} (h : q < 18446744073709551616) : IntKind.u64.wrap (q : Int) = q := by
  have e : IntKind.u64.wrap (q : Int) = (q : Int) % 18446744073709551616 := by simp [IntKind.wrap, IntKind.signed, IntKind.bits]
  rw [e]; omega
theorem bvU {a : Nat} (ha : a < 18446744073709551616) : (BitVec.ofInt IntKind.u64.bits (a : Int)).toNat = a := by
  have e : IntKind.u64.bits = 64 := rfl
  have e2 : (2 : Nat) ^ 64 = 18446744073709551616 := by decide
  rw [e, BitVec.ofInt_natCast, BitVec.toNat_ofNat, e2, Nat.mod_eq_of_lt ha]
theorem andU {a b : Nat} (ha : a < 18446744073709551616) (hb : b < 18446744073709551616) : andI .u64 (a : Int) (b : Int) = ((a &&& b : Nat) : Int) := by
  unfold andI
  rw [BitVec.toNat_and, bvU ha, bvU hb]
  have : a &&& b ≤ a := Nat.and_le_left
  exact wrapU (by omega)
theorem orU0 {b : Nat} (hb : b < 18446744073709551616) : orI .u64 (0 : Int) (b : Int) = (b : Int) := by
  unfold orI
  have e0 : (BitVec.ofInt IntKind.u64.bits (0 : Int)).toNat = 0 := by simp
  rw [BitVec.toNat_or, e0, bvU hb, Nat.zero_or]
  exact wrapU hb
theorem andNotU {a b : Nat} (ha : a < 18446744073709551616) (hb : b < 18446744073709551616) : ∃ w : Nat, andNotI .u64 (a : Int) (b : Int) = (w : Int) ∧ ∀ k, w.testBit k = (a.testBit k && !b.testBit k) := by
  refine ⟨(BitVec.ofInt IntKind.u64.bits (a : Int) &&& ~~~ BitVec.ofInt IntKind.u64.bits (b : Int)).toNat, ?_, fun k => ?_⟩
  · unfold andNotI
    have h1 : (BitVec.ofInt IntKind.u64.bits (a : Int) &&& ~~~ BitVec.ofInt IntKind.u64.bits (b : Int)).toNat ≤ a := by
      rw [BitVec.toNat_and, bvU ha]; exact Nat.and_le_left
    exact wrapU (by omega)
  · have e : IntKind.u64.bits = 64 := rfl
    have e2 : (2 : Nat) ^ 64 = 18446744073709551616 := by decide
    rw [e, BitVec.ofInt_natCast, BitVec.ofInt_natCast, BitVec.testBit_toNat, BitVec.getLsbD_and, BitVec.getLsbD_not, BitVec.getLsbD_ofNat, BitVec.getLsbD_ofNat]
    by_cases hk : k < 64
    · simp [hk]
    · have : a.testBit k = false := Nat.testBit_lt_two_pow (Nat.lt_of_lt_of_le (by rw [e2]; exact ha) (Nat.pow_le_pow_right (by decide) (by omega : 64 ≤ k)))
      simp [hk, this]
/-- Low bits cleared. -/
theorem clearU {a g : Nat} (ha : a < 18446744073709551616) (hg : g ≤ 63) : andNotI .u64 (a : Int) ((2 ^ g - 1 : Nat) : Int) = ((a / 2 ^ g * 2 ^ g : Nat) : Int) := by
  have e2 : (2 : Nat) ^ 63 = 9223372036854775808 := by decide
  have hgb : 2 ^ g ≤ 2 ^ 63 := Nat.pow_le_pow_right (by decide) hg
  obtain ⟨w, h1, h2⟩ := andNotU (a := a) (b := 2 ^ g - 1) ha (by omega)
  rw [h1]
  congr 1
  refine Nat.eq_of_testBit_eq fun k => ?_
  rw [h2, Nat.testBit_two_pow_sub_one, Nat.mul_comm, Nat.testBit_two_pow_mul, Nat.testBit_div_two_pow]
  by_cases hk : k < g
  · have : ¬ g ≤ k := by omega
    simp [hk, this]
  · have h3 : g ≤ k := by omega
    simp [hk, h3]
theorem shrU {a b : Nat} (hb : b ≤ 64) : shrI .u64 (a : Int) (b : Int) = some ((a / 2 ^ b : Nat) : Int) := by
  unfold shrI
  have e : min (b : Int).toNat IntKind.u64.bits = b := by
    have : IntKind.u64.bits = 64 := rfl
    rw [this, Int.toNat_natCast]; omega
  rw [if_pos (by omega), e]
  have e5 : ((2 : Int) ^ b) = ((2 ^ b : Nat) : Int) := by simp
  rw [e5, Int.fdiv_eq_ediv_of_nonneg _ (Int.natCast_nonneg _)]
  rfl

/-! ### math.Round -/
theorem half_core {m g Z : Nat} (hg : 1 ≤ g) (hZ : 0 < Z) : (2 * (m * Z) + Z * 2 ^ g) / (2 * (Z * 2 ^ g)) = (m + 2 ^ (g - 1)) / 2 ^ g := by
  obtain ⟨k, rfl⟩ : ∃ k, g = k + 1 := ⟨g - 1, by omega⟩
  have e1 : 2 * (m * Z) + Z * 2 ^ (k + 1) = (m + 2 ^ k) * (2 * Z) := by
    rw [Nat.pow_succ, Nat.add_mul]
    have a : m * (2 * Z) = 2 * (m * Z) := Nat.mul_left_comm ..
    have b : 2 ^ k * (2 * Z) = Z * (2 ^ k * 2) := by rw [← Nat.mul_assoc, Nat.mul_comm]
    omega
  have e2 : 2 * (Z * 2 ^ (k + 1)) = 2 ^ (k + 1) * (2 * Z) := by rw [← Nat.mul_assoc, Nat.mul_comm]
  rw [e1, e2, Nat.mul_div_mul_right _ _ (by omega), Nat.add_sub_cancel]
theorem pow_split {S a b U : Nat} (h : 2 ^ S = U) (e : S = a + b) : U = 2 ^ a * 2 ^ b := by
  subst e
  rw [← h]
  exact Nat.pow_add ..
theorem round_gen (S : Nat) (hS : S = 1074) {x : Nat} (hx : Fin0 x) (hb : fv x ≤ 20000 * uU) : ∃ r : Nat, p_math_Round (x : Int) = some (r : Int) ∧ Fin0 r ∧ fv r = (2 * fv x + uU) / (2 * uU) * uU := by
  have hU := uU_pos
  unfold Fin0 at hx
  have e52 : (2 : Nat) ^ 52 = 4503599627370496 := by decide
  have hE : (x : Int).fdiv (2 ^ 52) = ((x / 4503599627370496 : Nat) : Int) := by
    have : ((2 : Int) ^ 52) = ((4503599627370496 : Nat) : Int) := by decide
    rw [this, Int.fdiv_eq_ediv_of_nonneg _ (Int.natCast_nonneg _)]
    rfl
  have hdm := Nat.div_add_mod x 4503599627370496
  have hml := Nat.mod_lt x (show 0 < 4503599627370496 by decide)
  obtain ⟨E, hEd⟩ : ∃ E, x / 4503599627370496 = E := ⟨_, rfl⟩
  obtain ⟨F, hFd⟩ : ∃ F, x % 4503599627370496 = F := ⟨_, rfl⟩
  rw [hEd, hFd] at hdm
  rw [hFd] at hml
  have hE2 : E < 2047 := by omega
  have hand : andI .u64 ((x : Int).fdiv (2 ^ 52)) 2047 = (E : Int) := by
    rw [hE, hEd]
    have := andU (a := E) (b := 2047) (by omega) (by decide)
    have h2 : E &&& 2047 = E := by
      have := Nat.and_two_pow_sub_one_eq_mod E 11
      rw [show (2 : Nat) ^ 11 - 1 = 2047 by decide, show (2 : Nat) ^ 11 = 2048 by decide, Nat.mod_eq_of_lt (by omega)] at this
      exact this
    rw [h2] at this
    exact this
  have hsign : andI .u64 (x : Int) 9223372036854775808 = 0 := by
    have := andU (a := x) (b := 9223372036854775808) (by omega) (by decide)
    have h2 : x &&& 9223372036854775808 = 0 := by
      refine Nat.eq_of_testBit_eq fun k => ?_
      rw [Nat.testBit_and, Nat.zero_testBit, show (9223372036854775808 : Nat) = 2 ^ 63 by decide, Nat.testBit_two_pow]
      by_cases hk : 63 = k
      · subst hk
        have : x.testBit 63 = false := Nat.testBit_lt_two_pow (by omega)
        simp [this]
      · simp [hk]
    rw [h2] at this
    exact this
  have hfv : 1 ≤ E → fv x = (4503599627370496 + F) * 2 ^ (E - 1) := fun h1 => by
    unfold fv
    rw [if_neg (by omega), hEd, hFd]
  have hUpow := uU_gen S hS
  unfold p_math_Round
  rw [hand, hsign]
  by_cases h1 : E < 1023
  · have c1 : decide ((E : Int) < 1023) = true := by simp; omega
    rw [c1]
    by_cases h2 : E = 1022
    · have c2 : ((E : Int) == 1022) = true := by simp; omega
      rw [c2]
      simp only [if_true, Option.bind_some]
      have ho : orI .u64 (0 : Int) 4607182418800017408 = ((4607182418800017408 : Nat) : Int) := orU0 (b := 4607182418800017408) (by decide)
      rw [ho]
      refine ⟨4607182418800017408, rfl, by unfold Fin0; decide, ?_⟩
      have f1 : fv 4607182418800017408 = uU := by
        have := fv_word (e := 1022) (k := 4503599627370496) (by decide) (by decide)
        rw [show 1022 * 4503599627370496 + 4503599627370496 = 4607182418800017408 by decide] at this
        have h9 := pow_split (a := 52) (b := 1022) hUpow (by omega)
        rw [e52] at h9
        exact this.trans h9.symm
      have f2 : uU = 2 ^ (E - 1) * 2 ^ 53 := pow_split hUpow (by omega)
      have e53 : (2 : Nat) ^ 53 = 9007199254740992 := by decide
      rw [e53] at f2
      have f3 := hfv (by omega)
      rw [f1]
      have : (2 * fv x + uU) / (2 * uU) = 1 := by
        rw [f3]
        have hp := Nat.two_pow_pos (E - 1)
        generalize 2 ^ (E - 1) = Z at *
        rw [f2]
        have a1 : (4503599627370496 + F) * Z = 4503599627370496 * Z + F * Z := Nat.add_mul ..
        have a2 : F * Z < 4503599627370496 * Z := Nat.mul_lt_mul_of_pos_right hml hp
        rw [a1]
        apply Nat.div_eq_of_lt_le <;> omega
      rw [this, Nat.one_mul]
    · have c2 : ((E : Int) == 1022) = false := by simp; omega
      rw [c2]
      simp only [if_true, Bool.false_eq_true, if_false, Option.bind_some]
      refine ⟨0, rfl, by unfold Fin0; decide, ?_⟩
      have : (2 * fv x + uU) / (2 * uU) = 0 := by
        apply Nat.div_eq_of_lt
        have hlt : 2 * fv x < uU := by
          by_cases h0 : E = 0
          · have hx2 : x < 4503599627370496 := by subst h0; omega
            have : fv x = x := by unfold fv; rw [if_pos hx2]
            have := uU_big
            omega
          · rw [hfv (by omega), ← hUpow]
            have a1 : (4503599627370496 + F) * 2 ^ (E - 1) < 9007199254740992 * 2 ^ (E - 1) := Nat.mul_lt_mul_of_pos_right (by omega) (Nat.two_pow_pos _)
            have a2 : 2 * (9007199254740992 * 2 ^ (E - 1)) = 2 ^ (54 + (E - 1)) := by
              rw [Nat.pow_add, show (2 : Nat) ^ 54 = 2 * 9007199254740992 by decide, Nat.mul_assoc]
            have a3 : 2 ^ (54 + (E - 1)) ≤ 2 ^ S := Nat.pow_le_pow_right (by decide) (by omega)
            omega
        omega
      rw [this, Nat.zero_mul, fv_zero]
  · have c1 : decide ((E : Int) < 1023) = false := by simp; omega
    have hE3 : E < 1075 := by
      apply Decidable.byContradiction
      intro hc
      have f3 := hfv (by omega)
      have a1 : 4503599627370496 * 2 ^ (E - 1) ≤ fv x := by rw [f3]; exact Nat.mul_le_mul_right _ (by omega)
      have a2 : 2 ^ S ≤ 2 ^ (E - 1) := Nat.pow_le_pow_right (by decide) (by omega)
      rw [hUpow] at a2
      omega
    have c3 : decide ((E : Int) < 1075) = true := by simp; omega
    rw [c1, c3]
    simp only [Bool.false_eq_true, if_false, if_true]
    have hw : IntKind.u64.wrap ((E : Int) - 1023) = ((E - 1023 : Nat) : Int) := by
      rw [show (E : Int) - 1023 = ((E - 1023 : Nat) : Int) by omega]
      exact wrapU (by omega)
    obtain ⟨g, hg⟩ : ∃ g, g = 52 - (E - 1023) := ⟨_, rfl⟩
    have hg1 : 1 ≤ g := by omega
    have hg2 : g ≤ 52 := by omega
    have s1 : shrI .u64 (2251799813685248 : Int) ((E - 1023 : Nat) : Int) = some ((2 ^ (g - 1) : Nat) : Int) := by
      have := shrU (a := 2251799813685248) (b := E - 1023) (by omega)
      have e : 2251799813685248 / 2 ^ (E - 1023) = 2 ^ (g - 1) := by
        rw [show (2251799813685248 : Nat) = 2 ^ (g - 1) * 2 ^ (E - 1023) by rw [← Nat.pow_add, show g - 1 + (E - 1023) = 51 by omega], Nat.mul_div_cancel _ (Nat.two_pow_pos _)]
      rw [e] at this
      exact this
    have s2 : shrI .u64 (4503599627370495 : Int) ((E - 1023 : Nat) : Int) = some ((2 ^ g - 1 : Nat) : Int) := by
      have := shrU (a := 4503599627370495) (b := E - 1023) (by omega)
      have e : 4503599627370495 / 2 ^ (E - 1023) = 2 ^ g - 1 := by
        have q : 2 ^ g * 2 ^ (E - 1023) = 4503599627370496 := by rw [← Nat.pow_add, show g + (E - 1023) = 52 by omega, e52]
        have hp := Nat.two_pow_pos (E - 1023)
        have hpg := Nat.two_pow_pos g
        generalize 2 ^ (E - 1023) = Y at *
        generalize 2 ^ g = G at *
        apply Nat.div_eq_of_lt_le
        · rw [Nat.sub_mul]; omega
        · rw [Nat.sub_add_cancel hpg]; omega
      rw [e] at this
      exact this
    rw [hw, s1, s2]
    simp only [Option.bind_some]
    have hgp : 2 ^ (g - 1) ≤ 2 ^ 51 := Nat.pow_le_pow_right (by decide) (by omega)
    have e51 : (2 : Nat) ^ 51 = 2251799813685248 := by decide
    have hsum : IntKind.u64.wrap ((x : Int) + ((2 ^ (g - 1) : Nat) : Int)) = ((x + 2 ^ (g - 1) : Nat) : Int) := by
      rw [← Int.natCast_add]
      exact wrapU (by omega)
    rw [hsum, clearU (by omega) (by omega)]
    -- the cleared word, as exponent and significand
    have hq52 : 4503599627370496 = 2 ^ (52 - g) * 2 ^ g := by rw [← Nat.pow_add, show 52 - g + g = 52 by omega, e52]
    have hR : (x + 2 ^ (g - 1)) / 2 ^ g * 2 ^ g = (E - 1) * 4503599627370496 + (4503599627370496 + F + 2 ^ (g - 1)) / 2 ^ g * 2 ^ g := by
      have e1 : x + 2 ^ (g - 1) = (4503599627370496 + F + 2 ^ (g - 1)) + (E - 1) * (2 ^ (52 - g)) * 2 ^ g := by
        rw [Nat.mul_assoc, ← hq52, Nat.sub_mul]; omega
      rw [e1, Nat.add_mul_div_right _ _ (Nat.two_pow_pos g), Nat.add_mul, Nat.mul_assoc (E - 1), ← hq52]
      omega
    rw [hR]
    have hp := Nat.two_pow_pos g
    have hhalf : 2 ^ (g - 1) * 2 = 2 ^ g := by rw [← Nat.pow_succ, show (g - 1).succ = g by omega]
    have k1 : 4503599627370496 ≤ (4503599627370496 + F + 2 ^ (g - 1)) / 2 ^ g * 2 ^ g := by
      have : 2 ^ (52 - g) ≤ (4503599627370496 + F + 2 ^ (g - 1)) / 2 ^ g := by
        rw [Nat.le_div_iff_mul_le hp, ← hq52]; omega
      have := Nat.mul_le_mul_right (2 ^ g) this
      omega
    have k2 : (4503599627370496 + F + 2 ^ (g - 1)) / 2 ^ g * 2 ^ g ≤ 9007199254740992 := by
      have : (4503599627370496 + F + 2 ^ (g - 1)) / 2 ^ g ≤ 2 * 2 ^ (52 - g) := by
        have : (4503599627370496 + F + 2 ^ (g - 1)) / 2 ^ g < 2 * 2 ^ (52 - g) + 1 := by
          rw [Nat.div_lt_iff_lt_mul hp, Nat.add_mul, Nat.mul_assoc, ← hq52]; omega
        omega
      have := Nat.mul_le_mul_right (2 ^ g) this
      rw [Nat.mul_assoc, ← hq52] at this
      omega
    refine ⟨_, rfl, ?_, ?_⟩
    · exact fin_word (by omega) k2
    · rw [fv_word k1 k2, hfv (by omega)]
      have hUg : uU = 2 ^ (E - 1) * 2 ^ g := pow_split hUpow (by omega)
      rw [hUg, half_core hg1 (Nat.two_pow_pos _)]
      rw [Nat.mul_assoc, Nat.mul_comm (2 ^ g)]
theorem round_ok {x : Nat} (hx : Fin0 x) (hb : fv x ≤ 20000 * uU) : ∃ r : Nat, p_math_Round (x : Int) = some (r : Int) ∧ Fin0 r ∧ fv r = (2 * fv x + uU) / (2 * uU) * uU := round_gen 1074 rfl hx hb
end Go.VG
