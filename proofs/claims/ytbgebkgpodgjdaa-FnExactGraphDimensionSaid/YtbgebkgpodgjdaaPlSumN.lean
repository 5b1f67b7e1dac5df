/- Sums of integers: linearity, order, exchange, a square's bound. Plain. -/
import Derived.Test.YtbgebkgpodgjdaaVgPl
set_option linter.all false
namespace Go.VG
theorem sumN_add (f g : Nat → Int) : ∀ n, sumN (fun k => f k + g k) n = sumN f n + sumN g n
  | 0 => rfl
  | n + 1 => by simp only [sumN]; rw [sumN_add f g n]; omega
theorem sumN_sub (f g : Nat → Int) : ∀ n, sumN (fun k => f k - g k) n = sumN f n - sumN g n
  | 0 => rfl
  | n + 1 => by simp only [sumN]; rw [sumN_sub f g n]; omega
theorem sumN_mulL (c : Int) (f : Nat → Int) : ∀ n, sumN (fun k => c * f k) n = c * sumN f n
  | 0 => by simp [sumN]
  | n + 1 => by simp only [sumN]; rw [sumN_mulL c f n, Int.mul_add]
theorem sumN_mulR (c : Int) (f : Nat → Int) : ∀ n, sumN (fun k => f k * c) n = sumN f n * c
  | 0 => by simp [sumN]
  | n + 1 => by simp only [sumN]; rw [sumN_mulR c f n, Int.add_mul]
theorem sumN_le {f g : Nat → Int} : ∀ {n : Nat}, (∀ k, k < n → f k ≤ g k) → sumN f n ≤ sumN g n
  | 0, _ => Int.le_refl _
  | n + 1, h => by
    have h1 := sumN_le (n := n) (fun k hk => h k (by omega))
    have h2 := h n (by omega)
    simp only [sumN]; omega
theorem sumN_zero : ∀ n, sumN (fun _ => 0) n = 0
  | 0 => rfl
  | n + 1 => by simp only [sumN]; rw [sumN_zero n]; rfl
theorem sumN_nonneg {f : Nat → Int} {n : Nat} (h : ∀ k, k < n → 0 ≤ f k) : 0 ≤ sumN f n := by
  have := sumN_le (f := fun _ => 0) (g := f) h
  rwa [sumN_zero] at this
theorem sumN_at_le {f : Nat → Int} : ∀ {n : Nat}, (∀ k, k < n → 0 ≤ f k) → ∀ k, k < n → f k ≤ sumN f n
  | 0, _, k, hk => by omega
  | n + 1, h, k, hk => by
    have h0 := sumN_nonneg (n := n) (fun k hk => h k (by omega))
    have hn := h n (by omega)
    simp only [sumN]
    by_cases e : k = n
    · subst e; omega
    · have := sumN_at_le (n := n) (fun k hk => h k (by omega)) k (by omega)
      omega
theorem sumN_all_zero {f : Nat → Int} {n : Nat} (h : ∀ k, k < n → 0 ≤ f k) (hs : sumN f n = 0) : ∀ k, k < n → f k = 0 := fun k hk => by
  have := sumN_at_le h k hk
  have := h k hk
  omega
theorem sumN_swap (f : Nat → Nat → Int) (m : Nat) : ∀ n, sumN (fun i => sumN (fun j => f i j) m) n = sumN (fun j => sumN (fun i => f i j) n) m
  | 0 => by simp only [sumN]; rw [sumN_zero]
  | n + 1 => by
    simp only [sumN]
    rw [sumN_swap f m n, ← sumN_add]
def dlt (i j : Nat) : Int := if i = j then 1 else 0
theorem sumN_dlt (f : Nat → Int) (i : Nat) : ∀ n, sumN (fun k => dlt i k * f k) n = if i < n then f i else 0
  | 0 => by simp [sumN]
  | n + 1 => by
    simp only [sumN]
    rw [sumN_dlt f i n]
    unfold dlt
    by_cases h : i < n
    · have : ¬ i = n := by omega
      rw [if_pos h, if_neg this, if_pos (by omega)]; omega
    · by_cases e : i = n
      · subst e; rw [if_neg h, if_pos rfl, if_pos (by omega)]; omega
      · rw [if_neg h, if_neg e, if_neg (by omega)]; omega
/-- A sum over the images of an involution. -/
theorem sumN_perm (f : Nat → Int) {s : Nat → Nat} {n : Nat} (hs : ∀ k, k < n → s k < n ∧ s (s k) = k) : sumN (fun k => f (s k)) n = sumN f n := by
  have e1 : ∀ k, k < n → f (s k) = sumN (fun m => dlt (s k) m * f m) n := fun k hk => by rw [sumN_dlt, if_pos (hs k hk).1]
  have e2 : ∀ k m, k < n → m < n → dlt (s k) m = dlt (s m) k := fun k m hk hm => by
    unfold dlt
    by_cases h : s k = m
    · rw [if_pos h, if_pos (by rw [← h]; exact (hs k hk).2)]
    · rw [if_neg h, if_neg (fun h2 => h (by rw [← h2]; exact (hs m hm).2))]
  rw [sumN_congr e1, sumN_swap (fun k m => dlt (s k) m * f m) n n]
  refine sumN_congr fun m hm => ?_
  rw [sumN_mulR]
  rw [sumN_congr (g := fun k => dlt (s m) k * 1) (fun k hk => by rw [e2 k m hk hm]; omega), sumN_dlt (fun _ => 1), if_pos (hs m hm).1]
  omega
/-- The square of a sum. -/
theorem sumN_sq (d : Nat → Int) : ∀ n, sumN d n * sumN d n ≤ n * sumN (fun k => d k * d k) n
  | 0 => by simp [sumN]
  | 1 => by simp [sumN]
  | n + 2 => by
    have ih := sumN_sq d (n + 1)
    generalize hm : n + 1 = m at ih ⊢
    have hmp : (1 : Int) ≤ m := by omega
    rw [show n + 2 = m + 1 by omega]
    simp only [sumN]
    generalize sumN d m = s at ih ⊢
    generalize sumN (fun k => d k * d k) m = q at ih ⊢
    generalize d m = x
    have h1 : 0 ≤ (s - m * x) * (s - m * x) := by
      rcases Int.le_total 0 (s - m * x) with h | h
      · exact Int.mul_nonneg h h
      · exact Int.mul_nonneg_of_nonpos_of_nonpos h h
    have e1 : (s - m * x) * (s - m * x) = s * s - 2 * ((m : Int) * (s * x)) + m * (m * (x * x)) := by
      rw [Int.sub_mul, Int.mul_sub, Int.mul_sub]
      have a1 : s * ((m : Int) * x) = m * (s * x) := by rw [Int.mul_left_comm]
      have a2 : (m : Int) * x * s = m * (s * x) := by rw [Int.mul_assoc, Int.mul_comm x s]
      have a3 : (m : Int) * x * (m * x) = m * (m * (x * x)) := by rw [Int.mul_assoc, Int.mul_left_comm x]
      rw [a1, a2, a3]; omega
    rw [e1] at h1
    have h2 : (m : Int) * (2 * (s * x)) ≤ m * (q + m * (x * x)) := by
      have : (m : Int) * (2 * (s * x)) = 2 * (m * (s * x)) := by rw [Int.mul_left_comm]
      rw [this, Int.mul_add]; omega
    have h3 : 2 * (s * x) ≤ q + m * (x * x) := Int.le_of_mul_le_mul_left h2 (by omega)
    have e2 : (s + x) * (s + x) = s * s + 2 * (s * x) + x * x := by
      rw [Int.add_mul, Int.mul_add, Int.mul_add, Int.mul_comm x s]; omega
    have e3 : ((m + 1 : Nat) : Int) * (q + x * x) = m * q + q + m * (x * x) + x * x := by
      rw [Int.natCast_add, Int.add_mul, Int.mul_add]; omega
    rw [e2, e3]; omega
end Go.VG
