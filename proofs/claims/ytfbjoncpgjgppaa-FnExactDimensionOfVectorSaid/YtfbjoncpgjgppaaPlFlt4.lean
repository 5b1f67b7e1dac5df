/- Doubles: errors counted in parts of 2^50; products of small whole numbers; running sums. Plain. -/
import Derived.Test.YtfbjoncpgjgppaaPlFlt3
set_option linter.all false
namespace Go.VG
open Ieee
/-- One, in units of the least double. -/
def uUS (S : Nat) : Nat := 2 ^ S
def uU : Nat := uUS 1074
theorem uU_gen (S : Nat) (hS : S = 1074) : 2 ^ S = uU := (show 2 ^ S = uUS S from rfl).trans (congrArg uUS hS)
attribute [local irreducible] uU uUS
theorem uU_pos_gen (S : Nat) (hS : S = 1074) : 0 < uU := by rw [← uU_gen S hS]; exact Nat.two_pow_pos _
theorem uU_pos : 0 < uU := uU_pos_gen 1074 rfl
theorem uU_big_gen (S : Nat) (hS : S = 1074) : 2 ^ 100 ≤ uU := by
  rw [← uU_gen S hS]; exact Nat.pow_le_pow_right (by decide) (by omega)
theorem uU_big : 1267650600228229401496703205376 ≤ uU := by
  have := uU_big_gen 1074 rfl
  have e : (2 : Nat) ^ 100 = 1267650600228229401496703205376 := by decide
  rwa [e] at this
theorem lim_add_gen (S : Nat) (hS : S = 1074) {n : Nat} (h : n ≤ uU * 1048576) : n < 2 ^ (S + 1000) := by
  rw [← uU_gen S hS] at h
  have e : (2 : Nat) ^ 20 = 1048576 := by decide
  rw [← e, ← Nat.pow_add] at h
  exact Nat.lt_of_le_of_lt h (Nat.pow_lt_pow_right (by decide) (by omega))
theorem lim_mul_gen (S S2 : Nat) (hS : S = 1074) (hS2 : S2 = 2148) {n : Nat} (h : n ≤ uU * uU * 1048576) : n < 2 ^ (S2 + 1000) := by
  rw [← uU_gen S hS] at h
  have e : (2 : Nat) ^ 20 = 1048576 := by decide
  rw [← e, ← Nat.pow_add, ← Nat.pow_add] at h
  exact Nat.lt_of_le_of_lt h (Nat.pow_lt_pow_right (by decide) (by omega))
theorem low_mul_gen (S S2 : Nat) (hS : S = 1074) (hS2 : S2 = 2148) {n : Nat} (h : uU * uU ≤ n * 1073741824) : 2 ^ (S2 - 1022) ≤ n := by
  rw [← uU_gen S hS] at h
  have e : (2 : Nat) ^ 30 = 1073741824 := by decide
  rw [← e, ← Nat.pow_add, show S + S = (S2 - 30) + 30 by omega, Nat.pow_add] at h
  have := Nat.le_of_mul_le_mul_right h (Nat.two_pow_pos 30)
  exact Nat.le_trans (Nat.pow_le_pow_right (by decide) (by omega)) this
theorem addU {x y : Nat} (hx : Fin0 x) (hy : Fin0 y) (hlo : E52 ≤ fv x + fv y) (hhi : fv x + fv y ≤ uU * 1048576) :
    ∃ r, double.add x y = some r ∧ Fin0 r ∧ E52 ≤ r ∧ Close E52 (fv r) (fv x + fv y) := add_close hx hy hlo (lim_add_gen 1074 rfl hhi)
theorem mulU {x y : Nat} (hx : Fin0 x) (hy : Fin0 y) (hlo : uU * uU ≤ fv x * fv y * 1073741824) (hhi : fv x * fv y ≤ uU * uU * 1048576) :
    ∃ r, double.mul x y = some r ∧ Fin0 r ∧ E52 ≤ r ∧ Close E52 (fv r * uU) (fv x * fv y) := by
  obtain ⟨S, hS⟩ : ∃ S : Nat, S = 1074 := ⟨_, rfl⟩
  obtain ⟨r, h1, h2, h3, h4⟩ := mul_close hx hy (low_mul_gen 1074 2148 rfl rfl hlo) (lim_mul_gen 1074 2148 rfl rfl hhi)
  rw [← hS, uU_gen S hS] at h4
  exact ⟨r, h1, h2, h3, h4⟩
theorem le_pow_gen {a : Nat} (B : Nat) (h : 40 ≤ B) : a * 1099511627776 ≤ a * 2 ^ B := by
  refine Nat.mul_le_mul_left _ ?_
  have e : (2 : Nat) ^ 40 = 1099511627776 := by decide
  rw [← e]; exact Nat.pow_le_pow_right (by decide) h
theorem divU {x y : Nat} (hx : Fin0 x) (hy : Fin0 y) (hx0 : 0 < x) (hy0 : 0 < y) (hlo : fv y ≤ fv x * 1099511627776) (hhi : fv x ≤ fv y * 1099511627776) :
    ∃ r, double.div x y = some r ∧ Fin0 r ∧ E52 ≤ r ∧ Close 1125899906842624 (fv r * fv y) (fv x * uU) := by
  obtain ⟨S, hS⟩ : ∃ S : Nat, S = 1074 := ⟨_, rfl⟩
  obtain ⟨r, h1, h2, h3, h4⟩ := div_close hx hy hx0 hy0 (Nat.le_trans hlo (le_pow_gen 1000 (by decide))) (Nat.le_trans hhi (le_pow_gen 900 (by decide)))
  rw [← hS, uU_gen S hS] at h4
  exact ⟨r, h1, h2, h3, h4⟩
theorem intU {n : Nat} (h0 : 0 < n) (h1 : n < 2 ^ 64) : Fin0 (FloatKind.f64.nearest (n : Int)) ∧ E52 ≤ FloatKind.f64.nearest (n : Int) ∧ Close E52 (fv (FloatKind.f64.nearest (n : Int))) (n * uU) := by
  obtain ⟨S, hS⟩ : ∃ S : Nat, S = 1074 := ⟨_, rfl⟩
  have := ofInt_gen S hS h0 h1
  rw [uU_gen S hS] at this
  exact this

/-- Two numbers but for t parts in 2^50. -/
def Cl (t R N : Nat) : Prop := 1125899906842624 * R ≤ 1125899906842624 * N + t * N ∧ 1125899906842624 * N ≤ 1125899906842624 * R + t * R
theorem Cl.ofE {R N : Nat} (h : Close E52 R N) : Cl 1 R N := by
  obtain ⟨h1, h2⟩ := h
  unfold E52 at h1 h2
  unfold Cl; omega
theorem Cl.mono {t t' R N : Nat} (h : Cl t R N) (ht : t ≤ t') : Cl t' R N := by
  obtain ⟨h1, h2⟩ := h
  have a := Nat.mul_le_mul_right N ht
  have b := Nat.mul_le_mul_right R ht
  unfold Cl; omega
theorem Cl.one {t a b c : Nat} (h : Close E52 a b) (k : Cl t b c) (ht : t ≤ 1000) : Cl (t + 1) a c := by
  obtain ⟨h1, h2⟩ := h
  obtain ⟨k1, k2⟩ := k
  have e1 := Nat.mul_le_mul_right c ht
  have e2 := Nat.mul_le_mul_right b ht
  have e3 := Nat.mul_le_mul_right a ht
  unfold E52 at h1 h2
  unfold Cl
  rw [Nat.add_mul, Nat.add_mul, Nat.one_mul, Nat.one_mul]
  refine ⟨?_, ?_⟩
  · generalize t * c = tc at *
    omega
  · -- b is at most a (1 + 1/E), so t b at most t a (1 + 1/E)
    have e4 : t * (4503599627370496 * b) ≤ t * ((4503599627370496 + 1) * a) := Nat.mul_le_mul_left _ h2
    rw [Nat.mul_left_comm, Nat.mul_left_comm t (4503599627370496 + 1)] at e4
    generalize t * c = tc at *
    generalize t * b = tb at *
    generalize t * a = ta at *
    omega
theorem Cl.scale {t R N : Nat} (h : Cl t R N) (c : Nat) : Cl t (R * c) (N * c) := by
  obtain ⟨h1, h2⟩ := h
  have a := Nat.mul_le_mul_right c h1
  have b := Nat.mul_le_mul_right c h2
  unfold Cl
  simp only [Nat.add_mul, Nat.mul_assoc] at a b ⊢
  exact ⟨a, b⟩
theorem Cl.unscale {t R N c : Nat} (hc : 0 < c) (h : Cl t (R * c) (N * c)) : Cl t R N := by
  obtain ⟨h1, h2⟩ := h
  unfold Cl
  refine ⟨Nat.le_of_mul_le_mul_right (?_ : _ * c ≤ _ * c) hc, Nat.le_of_mul_le_mul_right (?_ : _ * c ≤ _ * c) hc⟩
  · simp only [Nat.add_mul, Nat.mul_assoc] at h1 ⊢; exact h1
  · simp only [Nat.add_mul, Nat.mul_assoc] at h2 ⊢; exact h2
theorem Cl.add {t a b c d : Nat} (h : Cl t a b) (k : Cl t c d) : Cl t (a + c) (b + d) := by
  obtain ⟨h1, h2⟩ := h
  obtain ⟨k1, k2⟩ := k
  unfold Cl
  simp only [Nat.mul_add]; omega
theorem Cl.zero (t : Nat) : Cl t 0 0 := ⟨Nat.le_refl _, Nat.le_refl _⟩
theorem Cl.le2 {t R N : Nat} (h : Cl t R N) (ht : t ≤ 1000) : R ≤ 2 * N ∧ N ≤ 2 * R := by
  obtain ⟨h1, h2⟩ := h
  have e1 := Nat.mul_le_mul_right N ht
  have e2 := Nat.mul_le_mul_right R ht
  generalize t * N = a at *
  generalize t * R = b at *
  omega

/-- A word that stands for N, but for t parts. -/
structure Ap (t x N : Nat) : Prop where
  fin : Fin0 x
  cl : Cl t (fv x) N
  big : x = 0 ∨ E52 ≤ fv x
theorem fv_ge {x : Nat} (h : E52 ≤ x) : E52 ≤ fv x := by
  rw [fv_eq]
  have : ¬ x < 4503599627370496 := by unfold E52 at h; omega
  unfold sg
  rw [if_neg this]
  have hp := Nat.two_pow_pos (pl x)
  unfold E52
  exact Nat.le_trans (by omega : 4503599627370496 ≤ (4503599627370496 + x % 4503599627370496) * 1) (Nat.mul_le_mul_left _ hp)
theorem Ap.zero (t : Nat) : Ap t 0 0 := ⟨by unfold Fin0; decide, Cl.zero t, .inl rfl⟩
theorem Ap.mono {t t' x N : Nat} (h : Ap t x N) (ht : t ≤ t') : Ap t' x N := ⟨h.fin, h.cl.mono ht, h.big⟩
theorem two_mul32 (a b : Nat) : 2 * a * (1048576 * b) = 2097152 * (a * b) := by rw [Nat.mul_assoc, Nat.mul_left_comm a]; omega
theorem two_mul2k (u : Nat) : 2000 * u * (2 * u) = 4000 * (u * u) := by rw [Nat.mul_assoc, Nat.mul_left_comm u]; omega
theorem lo_1m {X Y : Nat} (h : X ≤ 2097152 * Y) : X ≤ Y * 1073741824 := by omega
theorem hi_1m {X Y : Nat} (h : Y ≤ 4000 * X) : Y ≤ X * 1048576 := by omega
/-- A small whole number times a weight. -/
theorem prod_ap {m w : Nat} (hm : m ≤ 1000) (hw : Fin0 w) (hlo : uU ≤ 1048576 * fv w) (hhi : fv w ≤ 2 * uU) :
    ∃ p, double.mul (FloatKind.f64.nearest (m : Int)) w = some p ∧ Ap 2 p (m * fv w) := by
  have hU := uU_big
  by_cases h0 : m = 0
  · subst h0
    refine ⟨0, ?_, ?_⟩
    · rw [show FloatKind.f64.nearest ((0 : Nat) : Int) = 0 from ofInt_zero]; exact mul_zero0 hw
    · rw [Nat.zero_mul]; exact Ap.zero 2
  · have e64 : (2 : Nat) ^ 64 = 18446744073709551616 := by decide
    obtain ⟨a1, a2, a3⟩ := intU (n := m) (by omega) (by omega)
    generalize FloatKind.f64.nearest (m : Int) = a at *
    have c1 := Cl.ofE a3
    obtain ⟨b1, b2⟩ := c1.le2 (by decide)
    have mU1 : uU ≤ m * uU := Nat.le_mul_of_pos_left _ (by omega)
    have mU2 : m * uU ≤ 1000 * uU := Nat.mul_le_mul_right _ hm
    -- the product's bounds
    have p1 : uU * uU ≤ (2 * fv a) * (1048576 * fv w) := Nat.mul_le_mul (by omega) hlo
    have p2 : fv a * fv w ≤ (2000 * uU) * (2 * uU) := Nat.mul_le_mul (by omega) hhi
    have q1 := two_mul32 (fv a) (fv w)
    have q2 := two_mul2k uU
    have r1 : uU * uU ≤ fv a * fv w * 1073741824 := lo_1m (Nat.le_trans p1 (Nat.le_of_eq q1))
    have r2 : fv a * fv w ≤ uU * uU * 1048576 := hi_1m (Nat.le_trans p2 (Nat.le_of_eq q2))
    obtain ⟨p, e, f1, f2, f3⟩ := mulU a1 hw r1 r2
    have c2 : Cl 1 (fv a * fv w) (m * uU * fv w) := c1.scale (fv w)
    have c3 := Cl.one f3 c2 (by decide)
    have e3 : m * uU * fv w = m * fv w * uU := Nat.mul_right_comm ..
    rw [e3] at c3
    exact ⟨p, e, f1, c3.unscale uU_pos, .inr (fv_ge f2)⟩
/-- One more term. -/
theorem acc_ap {t s p S P : Nat} (hs : Ap t s S) (hp : Ap 2 p P) (ht : 2 ≤ t) (ht2 : t ≤ 1000) (hS : 2 * S + 2 * P ≤ uU * 1048576) :
    ∃ r, double.add s p = some r ∧ Ap (t + 1) r (S + P) := by
  have b1 := hs.cl.le2 ht2
  have b2 := hp.cl.le2 (by decide)
  by_cases h0 : s = 0 ∧ p = 0
  · obtain ⟨rfl, rfl⟩ := h0
    rw [fv_zero] at b1 b2
    have e1 : S = 0 := by omega
    have e2 : P = 0 := by omega
    subst e1; subst e2
    exact ⟨0, by decide, Ap.zero _⟩
  · have hlo : E52 ≤ fv s + fv p := by
      rcases hs.big with h1 | h1
      · rcases hp.big with h2 | h2
        · exact absurd ⟨h1, h2⟩ h0
        · omega
      · omega
    obtain ⟨r, e, f1, f2, f3⟩ := addU hs.fin hp.fin hlo (by omega)
    exact ⟨r, e, f1, Cl.one f3 (hs.cl.add (hp.cl.mono ht)) ht2, .inr (fv_ge f2)⟩
end Go.VG
