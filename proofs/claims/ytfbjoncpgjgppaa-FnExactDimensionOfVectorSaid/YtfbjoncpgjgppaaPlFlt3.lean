/- Doubles: quotients, whole numbers, the greater of two. Plain. -/
import Derived.Test.YtfbjoncpgjgppaaPlFlt2
import GoSem.Core.Float
set_option linter.all false
namespace Go.VG
open Ieee
theorem mulpow_congr {n a b : Nat} (h : a = b) : n * 2 ^ a = n * 2 ^ b := by rw [h]
theorem assoc_le {a b c d : Nat} (h : d ≤ a * b * c) : d ≤ a * (b * c) := by rw [← Nat.mul_assoc]; exact h
theorem lo_core {Q K A fy C : Nat} (hlo : fy ≤ A) (h4 : 4503599627370496 * C ≤ (4503599627370496 + 1) * (Q * fy)) (e : C = K * A * 4194304) (hK : 0 < K) (hA : 0 < A) : K ≤ Q := by
  subst e
  apply Decidable.byContradiction
  intro hc
  have h2 : (Q + 1) * fy ≤ K * fy := Nat.mul_le_mul_right _ (Nat.succ_le_of_lt (Nat.lt_of_not_le hc))
  have h3 : K * fy ≤ K * A := Nat.mul_le_mul_left _ hlo
  have hB : 0 < K * A := Nat.mul_pos hK hA
  rw [Nat.add_mul] at h2
  generalize K * A = X at *
  generalize Q * fy = Bq at *
  generalize K * fy = Y at *
  omega
theorem hi_core {Q K F fy C : Nat} (h3 : C ≤ fy * K) (h4 : 4503599627370496 * (Q * fy) ≤ (4503599627370496 + 1) * C) (hK : 0 < K) (hy : 0 < fy) (hF : 2 ≤ F) : Q < K * F := by
  apply Decidable.byContradiction
  intro hc
  have h1 : K * 2 ≤ Q := Nat.le_trans (Nat.mul_le_mul_left _ hF) (Nat.le_of_not_lt hc)
  have h2 : K * 2 * fy ≤ Q * fy := Nat.mul_le_mul_right _ h1
  have e : K * 2 * fy = 2 * (fy * K) := by rw [Nat.mul_comm K 2, Nat.mul_assoc, Nat.mul_comm K]
  have hB : 0 < fy * K := Nat.mul_pos hy hK
  omega
theorem pow_lo {x a b c : Nat} (h : a = b + c + 22) : x * 2 ^ a = 2 ^ c * (x * 2 ^ b) * 4194304 := by
  subst h
  have e : (2 : Nat) ^ 22 = 4194304 := by decide
  simp only [Nat.pow_add, e, Nat.mul_assoc, Nat.mul_comm, Nat.mul_left_comm]
theorem pow_hi {a b c e : Nat} (h : a = b + c + e) : 2 ^ a = 2 ^ b * 2 ^ c * 2 ^ e := by
  subst h
  simp only [Nat.pow_add]
theorem scale_core {g j Z more s i S q : Nat} {D : Nat} (hD : s * 2 ^ more = D) (hp : Z + (j + more + 1) = i + S) (h : Close 4503599627370496 (g * q) (2 * D)) : Close 4503599627370496 (q * 2 ^ Z * (g * 2 ^ j)) (s * 2 ^ i * 2 ^ S) := by
  have := h.scale (2 ^ Z * 2 ^ j)
  have e1 : 2 ^ Z * 2 ^ j * (g * q) = q * 2 ^ Z * (g * 2 ^ j) := by simp only [Nat.mul_assoc, Nat.mul_comm, Nat.mul_left_comm]
  have q1 : 2 ^ i * 2 ^ S = 2 ^ Z * (2 ^ j * (2 ^ more * 2)) := by
    rw [← Nat.pow_add, ← hp, show Z + (j + more + 1) = Z + (j + (more + 1)) by omega, Nat.pow_add, Nat.pow_add 2 j, Nat.pow_succ]
  have e2 : 2 ^ Z * 2 ^ j * (2 * D) = s * 2 ^ i * 2 ^ S := by
    rw [← hD, Nat.mul_assoc s, q1]
    simp only [Nat.mul_assoc, Nat.mul_comm, Nat.mul_left_comm]
  rw [e1, e2] at this
  exact this
theorem end_core {r fx fy K a b c : Nat} (h : a = b + c) (g : Close K (fy * (r * 2 ^ b)) (fx * 2 ^ a)) : Close K (r * fy) (fx * 2 ^ c) := by
  subst h
  refine Close.unscale (c := 2 ^ b) (Nat.two_pow_pos _) ?_
  have e1 : fy * (r * 2 ^ b) = 2 ^ b * (r * fy) := by simp only [Nat.mul_assoc, Nat.mul_comm, Nat.mul_left_comm]
  have e2 : fx * 2 ^ (b + c) = 2 ^ b * (fx * 2 ^ c) := by rw [Nat.pow_add]; simp only [Nat.mul_assoc, Nat.mul_comm, Nat.mul_left_comm]
  rw [e1, e2] at g
  exact g
/-- A quotient; the places as variables, so that no power is ever worked out. -/
theorem div_gen {x y : Nat} (S B1 B2 R : Nat) (hS : S = 3074) (hB1 : B1 = 1000) (hB2 : B2 = 900) (hR : R = 1074) (hx : Fin0 x) (hy : Fin0 y) (hx0 : 0 < x) (hy0 : 0 < y) (hlo : fv y ≤ fv x * 2 ^ B1) (hhi : fv x ≤ fv y * 2 ^ B2) :
    ∃ r, double.div x y = some r ∧ Fin0 r ∧ E52 ≤ r ∧ Close 1125899906842624 (fv r * fv y) (fv x * 2 ^ R) := by
  have hm := sg_pos hx0
  have hn := sg_pos hy0
  unfold Format.div
  rw [read_fin hx, read_fin hy]
  simp only [dbl_frac, Datum.quotient, Bool.xor_self, if_neg (by omega : ¬ sg y = 0), Option.map_some, Format.write]
  generalize hmore : 52 + 2 + (sg y).log2 - (sg x).log2 = more
  rw [Nat.shiftLeft_eq]
  generalize hD : sg x * 2 ^ more = D
  generalize hq : 2 * (D / sg y) + (D % sg y != 0).toNat = q
  -- the quotient's error
  have hb : (D % sg y != 0).toNat ≤ 1 := by cases (D % sg y != 0) <;> simp
  have hdm := Nat.div_add_mod D (sg y)
  have hml := Nat.mod_lt D hn
  have hqn : sg y * q ≤ 2 * D + sg y ∧ 2 * D ≤ sg y * q + sg y := by
    rw [← hq, Nat.mul_add, Nat.mul_left_comm]
    by_cases h0 : D % sg y = 0
    · have : (D % sg y != 0) = false := by simp [h0]
      rw [this]; simp only [Bool.toNat_false, Nat.mul_zero]; omega
    · have : (D % sg y != 0) = true := by simp [h0]
      rw [this]; simp only [Bool.toNat_true, Nat.mul_one]; omega
  have hy1 : sg y < 2 ^ ((sg y).log2 + 1) := Nat.lt_log2_self
  have hx1 : 2 ^ (sg x).log2 ≤ sg x := Nat.log2_self_le (by omega)
  have hDbig : 2 ^ (54 + (sg y).log2) ≤ D := by
    rw [← hD]
    refine Nat.le_trans (Nat.pow_le_pow_right (by decide) (by omega : 54 + (sg y).log2 ≤ (sg x).log2 + more)) ?_
    rw [Nat.pow_add]
    exact Nat.mul_le_mul_right _ hx1
  have hDy : 9007199254740992 * sg y ≤ D := by
    have a : 9007199254740992 * sg y ≤ 9007199254740992 * 2 ^ ((sg y).log2 + 1) := Nat.mul_le_mul_left _ (Nat.le_of_lt hy1)
    have b : 9007199254740992 * 2 ^ ((sg y).log2 + 1) = 2 ^ (54 + (sg y).log2) := by
      rw [show (9007199254740992 : Nat) = 2 ^ 53 by decide, ← Nat.pow_add]; congr 1; omega
    omega
  have hqc : Close 4503599627370496 (sg y * q) (2 * D) := by
    unfold Close
    generalize sg y * q = z at *
    generalize sg y = n at *
    omega
  have hqpos : 0 < q := by
    apply Nat.pos_of_ne_zero
    intro h0
    rw [h0, Nat.mul_zero] at hqn
    omega
  -- its place
  have hlogy : (sg y).log2 ≤ 52 := by
    have h1 : 2 ^ (sg y).log2 ≤ sg y := Nat.log2_self_le (by omega)
    have h2 : sg y < 2 ^ 53 := by
      have e53 : (2 : Nat) ^ 53 = 9007199254740992 := by decide
      unfold sg; split <;> omega
    have := pow_lt_exp (Nat.lt_of_le_of_lt h1 h2)
    omega
  have hply : pl y ≤ 2046 := by
    unfold Fin0 at hy
    unfold pl; split <;> omega
  have hp : ((-1074 + (pl x : Int)) - (-1074 + (pl y : Int)) - (more : Int) - 1 + S).toNat + (pl y + more + 1) = pl x + S := by omega
  generalize hZ : ((-1074 + (pl x : Int)) - (-1074 + (pl y : Int)) - (more : Int) - 1 + S).toNat = Z at hp
  have hscale : Close 4503599627370496 (q * 2 ^ Z * fv y) (fv x * 2 ^ S) := by
    have := scale_core (S := S) hD hp hqc
    rw [← fv_eq, ← fv_eq] at this
    exact this
  have hfy := fv_pos hy0
  have hlo' : 2 ^ (S - 1022) ≤ q * 2 ^ Z := lo_core (C := fv x * 2 ^ S) hlo hscale.2 (pow_lo (x := fv x) (a := S) (b := B1) (c := S - 1022) (by omega)) (Nat.two_pow_pos _) (Nat.mul_pos (fv_pos hx0) (Nat.two_pow_pos _))
  have hhi' : q * 2 ^ Z < 2 ^ (S + 1000) := by
    have := hi_core (F := 2 ^ 100) (K := 2 ^ B2 * 2 ^ S) (assoc_le (Nat.mul_le_mul_right (2 ^ S) hhi)) hscale.1 (Nat.mul_pos (Nat.two_pow_pos _) (Nat.two_pow_pos _)) hfy (by decide)
    exact Nat.lt_of_lt_of_eq this (pow_hi (a := S + 1000) (b := B2) (c := S) (e := 100) (by omega)).symm
  obtain ⟨g1, g2, g3⟩ := nearest_close (m := q) (p := (-1074 + (pl x : Int)) - (-1074 + (pl y : Int)) - (more : Int) - 1) S hqpos (by omega) (by omega) (by rw [hZ]; exact hlo') (by rw [hZ]; exact hhi')
  refine ⟨_, rfl, g1, g2, ?_⟩
  rw [hZ] at g3
  have g4 := g3.scale (fv y)
  have hsc2 : Close 4503599627370496 (fv y * (q * 2 ^ Z)) (fv x * 2 ^ S) := by rw [Nat.mul_comm]; exact hscale
  exact end_core (a := S) (b := S - 1074) (c := R) (by omega) (g4.trans hsc2 (by decide) (by decide) (by decide))
theorem div_close {x y : Nat} (hx : Fin0 x) (hy : Fin0 y) (hx0 : 0 < x) (hy0 : 0 < y) (hlo : fv y ≤ fv x * 2 ^ 1000) (hhi : fv x ≤ fv y * 2 ^ 900) :
    ∃ r, double.div x y = some r ∧ Fin0 r ∧ E52 ≤ r ∧ Close 1125899906842624 (fv r * fv y) (fv x * 2 ^ 1074) := div_gen 3074 1000 900 1074 rfl rfl rfl rfl hx hy hx0 hy0 hlo hhi
/-- A whole number. -/
theorem ofInt_gen {n : Nat} (S : Nat) (hS : S = 1074) (h0 : 0 < n) (h1 : n < 2 ^ 64) : Fin0 (FloatKind.f64.nearest (n : Int)) ∧ E52 ≤ FloatKind.f64.nearest (n : Int) ∧ Close E52 (fv (FloatKind.f64.nearest (n : Int))) (n * 2 ^ S) := by
  have e : FloatKind.f64.nearest (n : Int) = double.nearest false n 0 := by
    unfold FloatKind.nearest FloatKind.encode
    have : decide ((n : Int) < 0) = false := decide_eq_false (by omega)
    simp only [FloatKind.format, this, Int.natAbs_natCast, Format.write]
  rw [e]
  have hN : n * 2 ^ ((0 : Int) + S).toNat = n * 2 ^ S := mulpow_congr (by omega)
  have hlo : 2 ^ (S - 1022) ≤ n * 2 ^ S := Nat.le_trans (Nat.pow_le_pow_right (by decide) (by omega : S - 1022 ≤ S)) (Nat.le_mul_of_pos_left _ h0)
  have hhi : n * 2 ^ S < 2 ^ (S + 1000) := by
    have a : n * 2 ^ S < 2 ^ 64 * 2 ^ S := Nat.mul_lt_mul_of_pos_right h1 (Nat.two_pow_pos _)
    have b : 2 ^ (64 + S) ≤ 2 ^ (S + 1000) := Nat.pow_le_pow_right (by decide) (by omega)
    exact Nat.lt_of_lt_of_le a (Nat.le_trans (Nat.le_of_eq (Nat.pow_add 2 64 S).symm) b)
  obtain ⟨g1, g2, g3⟩ := nearest_close (m := n) (p := 0) S h0 (by omega) (by omega) (Nat.le_trans hlo (Nat.le_of_eq hN.symm)) (Nat.lt_of_le_of_lt (Nat.le_of_eq hN) hhi)
  refine ⟨g1, g2, ?_⟩
  have e0 : S - 1074 = 0 := by omega
  rw [hN, e0, Nat.pow_zero, Nat.mul_one] at g3
  exact g3
theorem ofInt_close {n : Nat} (h0 : 0 < n) (h1 : n < 2 ^ 64) : Fin0 (FloatKind.f64.nearest (n : Int)) ∧ E52 ≤ FloatKind.f64.nearest (n : Int) ∧ Close E52 (fv (FloatKind.f64.nearest (n : Int))) (n * 2 ^ 1074) := ofInt_gen 1074 rfl h0 h1
theorem ofInt_zero : FloatKind.f64.nearest 0 = 0 := by decide
/-- Which is greater. -/
theorem order_fin {x y : Nat} (hx : Fin0 x) (hy : Fin0 y) : double.order x y = some (compare (fv x) (fv y)) := by
  unfold Format.order
  rw [read_fin hx, read_fin hy]
  simp only [Datum.order]
  generalize hb : min (-1074 + (pl x : Int)) (-1074 + (pl y : Int)) = b
  have e1 : signed false (sg x) (-1074 + (pl x : Int) - b).toNat = ((sg x * 2 ^ (-1074 + (pl x : Int) - b).toNat : Nat) : Int) := by simp [signed, Nat.shiftLeft_eq]
  have e2 : signed false (sg y) (-1074 + (pl y : Int) - b).toNat = ((sg y * 2 ^ (-1074 + (pl y : Int) - b).toNat : Nat) : Int) := by simp [signed, Nat.shiftLeft_eq]
  rw [e1, e2]
  have hf : ∀ z : Nat, pl z = (-1074 + (pl z : Int) - b).toNat + (b + 1074).toNat → fv z = sg z * 2 ^ (-1074 + (pl z : Int) - b).toNat * 2 ^ (b + 1074).toNat := fun z hz => by
    rw [fv_eq, Nat.mul_assoc, ← Nat.pow_add, ← hz]
  rw [hf x (by omega), hf y (by omega)]
  generalize sg x * 2 ^ (-1074 + (pl x : Int) - b).toNat = a
  generalize sg y * 2 ^ (-1074 + (pl y : Int) - b).toNat = c
  have hp := Nat.two_pow_pos (b + 1074).toNat
  generalize 2 ^ (b + 1074).toNat = Z at hp
  congr 1
  rcases Nat.lt_trichotomy a c with h | h | h
  · have h2 : a * Z < c * Z := Nat.mul_lt_mul_of_pos_right h hp
    rw [Int.compare_eq_lt.2 (by omega), Nat.compare_eq_lt.2 h2]
  · subst h
    rw [Int.compare_eq_eq.2 rfl, Nat.compare_eq_eq.2 rfl]
  · have h2 : c * Z < a * Z := Nat.mul_lt_mul_of_pos_right h hp
    rw [Int.compare_eq_gt.2 (by omega), Nat.compare_eq_gt.2 h2]
end Go.VG
