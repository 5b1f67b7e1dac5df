/- Doubles: what a positive word stands for, in units of the least one; each operation's error. Plain. -/
import Derived.Test.YtfbjoncpgjgppaaVgPl
import Ieee.Arith
set_option linter.all false
namespace Go.VG
open Ieee
/-- The number of a word without a sign, in units of 2^-1074. -/
def fv (x : Nat) : Nat := if x < 4503599627370496 then x else (4503599627370496 + x % 4503599627370496) * 2 ^ (x / 4503599627370496 - 1)
/-- A finite word without a sign. -/
def Fin0 (x : Nat) : Prop := x < 9218868437227405312
theorem dbl_frac : double.fractionBits = 52 := rfl
theorem dbl_binade : double.binade = 4503599627370496 := by decide
theorem dbl_inf : double.infRung = 9218868437227405312 := by decide
theorem dbl_sign : double.signWeight = 9223372036854775808 := by decide
theorem dbl_least : double.leastPlace = -1074 := by decide
/-- Its significand and its place. -/
def sg (x : Nat) : Nat := if x < 4503599627370496 then x else 4503599627370496 + x % 4503599627370496
def pl (x : Nat) : Nat := if x < 4503599627370496 then 0 else x / 4503599627370496 - 1
theorem fv_eq (x : Nat) : fv x = sg x * 2 ^ pl x := by
  unfold fv sg pl
  split <;> simp
theorem read_fin {x : Nat} (h : Fin0 x) : double.read x = .number false (sg x) (-1074 + (pl x : Int)) := by
  unfold Fin0 at h
  unfold Format.read sg pl
  simp only [dbl_binade, dbl_inf, dbl_sign, dbl_least]
  have e1 : x % 9223372036854775808 = x := Nat.mod_eq_of_lt (by omega)
  have e2 : x / 9223372036854775808 = 0 := Nat.div_eq_of_lt (by omega)
  rw [e1, e2]
  by_cases hx : x < 4503599627370496
  · rw [if_pos hx, if_pos hx, if_pos hx]; rfl
  · rw [if_neg hx, if_pos h, if_neg hx, if_neg hx]; rfl
theorem sg_pos {x : Nat} (h : 0 < x) : 0 < sg x := by unfold sg; split <;> omega
theorem fv_pos {x : Nat} (h : 0 < x) : 0 < fv x := by rw [fv_eq]; exact Nat.mul_pos (sg_pos h) (Nat.two_pow_pos _)
theorem fv_zero : fv 0 = 0 := rfl

/-- Rounding to the nearest: off by half a unit at most. -/
theorem cut_even {n g : Nat} (hg : g ≤ n.log2 + 2) : 2 * (Toward.even.cut false n g * 2 ^ g) ≤ 2 * n + 2 ^ g ∧ 2 * n ≤ 2 * (Toward.even.cut false n g * 2 ^ g) + 2 ^ g := by
  have e0 : min g (n.log2 + 2) = g := by omega
  unfold Toward.cut
  simp only [e0, Nat.one_shiftLeft]
  have hp := Nat.two_pow_pos g
  have hd := Nat.div_add_mod n (2 ^ g)
  have hm := Nat.mod_lt n hp
  generalize hG : 2 ^ g = G at *
  generalize hq : n / G = q at *
  generalize hr : n % G = r at *
  have e1 : ∀ b : Bool, (q + b.toNat) * G = G * q + b.toNat * G := fun b => by rw [Nat.add_mul, Nat.mul_comm q]
  rw [e1]
  by_cases hc : G < 2 * r
  · have : decide (G < 2 * r) = true := by simpa using hc
    simp only [this, Bool.true_or, Bool.toNat_true, Nat.one_mul]
    omega
  · have : decide (G < 2 * r) = false := by simpa using hc
    simp only [this, Bool.false_or]
    by_cases h2 : G = 2 * r
    · have : (G == 2 * r) = true := by simpa using h2
      simp only [this, Bool.true_and]
      cases decide (q % 2 = 1) <;> cases hb : (q % 2 == 1) <;> simp <;> omega
    · have : (G == 2 * r) = false := by simpa using h2
      simp only [this, Bool.false_and, Bool.toNat_false, Nat.zero_mul]
      omega
theorem cut_zero (n : Nat) : Toward.even.cut false n 0 = n := by
  unfold Toward.cut
  simp [Nat.mod_one]

theorem word_div {B e k : Nat} (hB : 0 < B) (k1 : B ≤ k) (k2 : k < 2 * B) : (e * B + k) % B = k - B ∧ (e * B + k) / B = e + 1 := by
  obtain ⟨r, rfl⟩ : ∃ r, k = B + r := ⟨k - B, by omega⟩
  have e1 : e * B + (B + r) = r + (e + 1) * B := by rw [Nat.add_mul]; omega
  rw [e1, Nat.add_mul_mod_self_right, Nat.add_mul_div_right _ _ hB, Nat.mod_eq_of_lt (by omega), Nat.div_eq_of_lt (by omega)]
  omega
theorem fv_word {e k : Nat} (k1 : 4503599627370496 ≤ k) (k2 : k ≤ 9007199254740992) : fv (e * 4503599627370496 + k) = k * 2 ^ e := by
  have hB : 0 < 4503599627370496 := by decide
  unfold fv
  rw [if_neg (Nat.not_lt.2 (Nat.le_trans k1 (Nat.le_add_left _ _)))]
  rcases Nat.lt_or_eq_of_le k2 with h | h
  · obtain ⟨a1, a2⟩ := word_div (e := e) hB k1 (by omega)
    rw [a1, a2, Nat.add_sub_cancel, Nat.add_sub_cancel' k1]
  · subst h
    have e1 : e * 4503599627370496 + 9007199254740992 = (e + 2) * 4503599627370496 := by rw [Nat.add_mul]
    rw [e1, Nat.mul_mod_left, Nat.mul_div_cancel _ hB, show e + 2 - 1 = e + 1 from rfl, Nat.pow_succ, Nat.add_zero, Nat.mul_comm (2 ^ e) 2, ← Nat.mul_assoc]
theorem fin_word {e k : Nat} (he : e ≤ 2022) (k2 : k ≤ 9007199254740992) : e * 4503599627370496 + k < 9218868437227405312 := by
  have := Nat.mul_le_mul_right 4503599627370496 he
  omega

/-- The word nearest to a number: finite; off by one part in 2^53. S is a place below all. -/
theorem nearest_rel {m : Nat} {p : Int} (S : Nat) (hm : 0 < m) (hS : 1074 ≤ S) (hSp : 0 ≤ p + S) (hlo : -1022 ≤ p + m.log2) (hhi : p + m.log2 ≤ 1000) :
    Fin0 (double.nearest false m p) ∧ 4503599627370496 ≤ double.nearest false m p ∧
    fv (double.nearest false m p) * 2 ^ (S - 1074) * 9007199254740992 ≤ m * 2 ^ (p + S).toNat * 9007199254740993 ∧
    m * 2 ^ (p + S).toNat * 9007199254740991 ≤ fv (double.nearest false m p) * 2 ^ (S - 1074) * 9007199254740992 := by
  unfold Format.nearest
  rw [if_neg (by omega)]
  simp only [dbl_frac, dbl_least, dbl_binade, dbl_inf, Format.word, Bool.false_eq_true, if_false]
  generalize hL : m.log2 = L at *
  have hm1 : 2 ^ L ≤ m := by rw [← hL]; exact Nat.log2_self_le (by omega)
  have hm2 : m < 2 ^ (L + 1) := by rw [← hL]; exact Nat.lt_log2_self
  have elast : max (p + (L : Int) - (52 : Nat)) (-1074) = p + L - 52 := by omega
  rw [elast]
  generalize hlast : p + (L : Int) - 52 = last at *
  have hS2 : (last + S).toNat = (last - -1074).toNat + (S - 1074) := by omega
  have hE : (last - -1074).toNat ≤ 2022 := by omega
  have e52 : (2 : Nat) ^ 52 = 4503599627370496 := by decide
  have e53 : (2 : Nat) ^ 53 = 9007199254740992 := by decide
  -- what is kept, and its error
  obtain ⟨kept, hk, k1, k2, k3, k4⟩ : ∃ kept, Toward.even.cut false (m <<< (p - last).toNat) (last - p).toNat = kept ∧ 4503599627370496 ≤ kept ∧ kept ≤ 9007199254740992 ∧
      kept * 2 ^ (last + S).toNat * 9007199254740992 ≤ m * 2 ^ (p + S).toNat * 9007199254740993 ∧ m * 2 ^ (p + S).toNat * 9007199254740991 ≤ kept * 2 ^ (last + S).toNat * 9007199254740992 := by
    refine ⟨_, rfl, ?_⟩
    by_cases hc : L ≤ 52
    · have a1 : (p - last).toNat = 52 - L := by omega
      have a2 : (last - p).toNat = 0 := by omega
      rw [a1, a2, cut_zero, Nat.shiftLeft_eq]
      have a3 : (p + S).toNat = (last + S).toNat + (52 - L) := by omega
      have a4 : m * 2 ^ (p + S).toNat = m * 2 ^ (52 - L) * 2 ^ (last + S).toNat := by rw [a3, Nat.pow_add, Nat.mul_comm (2 ^ (last + S).toNat), Nat.mul_assoc]
      have b1 : 2 ^ L * 2 ^ (52 - L) = 4503599627370496 := by rw [← Nat.pow_add, show L + (52 - L) = 52 by omega, e52]
      have b2 : 2 ^ (L + 1) * 2 ^ (52 - L) = 9007199254740992 := by rw [← Nat.pow_add, show L + 1 + (52 - L) = 53 by omega, e53]
      have c1 : 2 ^ L * 2 ^ (52 - L) ≤ m * 2 ^ (52 - L) := Nat.mul_le_mul_right _ hm1
      have c2 : m * 2 ^ (52 - L) ≤ 2 ^ (L + 1) * 2 ^ (52 - L) := Nat.mul_le_mul_right _ (Nat.le_of_lt hm2)
      rw [a4]
      generalize m * 2 ^ (52 - L) = K at *
      refine ⟨by omega, by omega, by generalize K * 2 ^ (last + S).toNat = z; omega, by generalize K * 2 ^ (last + S).toNat = z; omega⟩
    · have a1 : (p - last).toNat = 0 := by omega
      have a2 : (last - p).toNat = L - 52 := by omega
      rw [a1, a2, Nat.shiftLeft_zero]
      obtain ⟨c1, c2⟩ := cut_even (n := m) (g := L - 52) (by omega)
      generalize Toward.even.cut false m (L - 52) = kept at *
      have a3 : (last + S).toNat = (p + S).toNat + (L - 52) := by omega
      have a4 : kept * 2 ^ (last + S).toNat = kept * 2 ^ (L - 52) * 2 ^ (p + S).toNat := by rw [a3, Nat.pow_add, Nat.mul_comm (2 ^ (p + S).toNat), Nat.mul_assoc]
      have b1 : 2 ^ L = 4503599627370496 * 2 ^ (L - 52) := by rw [← e52, ← Nat.pow_add]; congr 1; omega
      have b2 : 2 ^ (L + 1) = 9007199254740992 * 2 ^ (L - 52) := by rw [← e53, ← Nat.pow_add]; congr 1; omega
      rw [b1] at hm1; rw [b2] at hm2
      have hp := Nat.two_pow_pos (L - 52)
      rw [a4]
      generalize 2 ^ (L - 52) = G at *
      have d1 : 4503599627370496 ≤ kept := by
        apply Decidable.byContradiction; intro hlt
        have : (kept + 1) * G ≤ 4503599627370496 * G := Nat.mul_le_mul_right _ (by omega)
        rw [Nat.add_mul] at this; omega
      have d2 : kept ≤ 9007199254740992 := by
        apply Decidable.byContradiction; intro hlt
        have : 9007199254740993 * G ≤ kept * G := Nat.mul_le_mul_right _ (by omega)
        omega
      refine ⟨d1, d2, ?_, ?_⟩
      · have : kept * G * 9007199254740992 ≤ m * 9007199254740993 := by omega
        have := Nat.mul_le_mul_right (2 ^ (p + S).toNat) this
        generalize 2 ^ (p + S).toNat = Z at *
        rw [Nat.mul_right_comm (kept * G), Nat.mul_right_comm m]; exact this
      · have : m * 9007199254740991 ≤ kept * G * 9007199254740992 := by omega
        have := Nat.mul_le_mul_right (2 ^ (p + S).toNat) this
        generalize 2 ^ (p + S).toNat = Z at *
        rw [Nat.mul_right_comm (kept * G), Nat.mul_right_comm m]; exact this
  rw [hk]
  generalize (last - -1074).toNat = e at *
  have hlt := fin_word hE k2
  have emin : min (e * 4503599627370496 + kept) 9218868437227405312 = e * 4503599627370496 + kept := Nat.min_eq_left (Nat.le_of_lt hlt)
  rw [emin]
  have hfv := fv_word (e := e) k1 k2
  have hf : fv (e * 4503599627370496 + kept) * 2 ^ (S - 1074) = kept * 2 ^ (last + S).toNat := by rw [hfv, hS2, Nat.pow_add, Nat.mul_assoc]
  rw [hf]
  exact ⟨hlt, Nat.le_trans k1 (Nat.le_add_left _ _), k3, k4⟩
end Go.VG
