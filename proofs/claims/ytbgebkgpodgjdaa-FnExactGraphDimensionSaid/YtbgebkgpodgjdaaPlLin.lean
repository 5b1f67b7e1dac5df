/- Vectors modulo a prime: spans, first places, two echelons of one span are equally long. Plain. -/
import Derived.Test.YtbgebkgpodgjdaaPlSumN
set_option linter.all false
namespace Go.VG
/-- A prime, as far as wanted. -/
def Pr (p : Int) : Prop := 2 ≤ p ∧ ∀ a b : Int, p ∣ a * b → p ∣ a ∨ p ∣ b
theorem pr_of {p : Int} (h : p = 2 ∨ p = 3 ∨ p = 5 ∨ p = 7) : Pr p := by
  refine ⟨by omega, fun a b hd => ?_⟩
  have e := Int.emod_eq_zero_of_dvd hd
  rw [Int.mul_emod] at e
  have goal : a % p = 0 ∨ b % p = 0 := by
    rcases h with rfl | rfl | rfl | rfl
    · have h1 := Int.emod_two_eq a; have h2 := Int.emod_two_eq b
      rcases h1 with h1 | h1 <;> rcases h2 with h2 | h2 <;> rw [h1, h2] at e <;> simp_all
    · have h1 : a % 3 = 0 ∨ a % 3 = 1 ∨ a % 3 = 2 := by omega
      have h2 : b % 3 = 0 ∨ b % 3 = 1 ∨ b % 3 = 2 := by omega
      rcases h1 with h1 | h1 | h1 <;> rcases h2 with h2 | h2 | h2 <;> rw [h1, h2] at e <;> first | exact Or.inl h1 | exact Or.inr h2 | exact absurd e (by decide)
    · have h1 : a % 5 = 0 ∨ a % 5 = 1 ∨ a % 5 = 2 ∨ a % 5 = 3 ∨ a % 5 = 4 := by omega
      have h2 : b % 5 = 0 ∨ b % 5 = 1 ∨ b % 5 = 2 ∨ b % 5 = 3 ∨ b % 5 = 4 := by omega
      rcases h1 with h1 | h1 | h1 | h1 | h1 <;> rcases h2 with h2 | h2 | h2 | h2 | h2 <;> rw [h1, h2] at e <;> first | exact Or.inl h1 | exact Or.inr h2 | exact absurd e (by decide)
    · have h1 : a % 7 = 0 ∨ a % 7 = 1 ∨ a % 7 = 2 ∨ a % 7 = 3 ∨ a % 7 = 4 ∨ a % 7 = 5 ∨ a % 7 = 6 := by omega
      have h2 : b % 7 = 0 ∨ b % 7 = 1 ∨ b % 7 = 2 ∨ b % 7 = 3 ∨ b % 7 = 4 ∨ b % 7 = 5 ∨ b % 7 = 6 := by omega
      rcases h1 with h1 | h1 | h1 | h1 | h1 | h1 | h1 <;> rcases h2 with h2 | h2 | h2 | h2 | h2 | h2 | h2 <;> rw [h1, h2] at e <;> first | exact Or.inl h1 | exact Or.inr h2 | exact absurd e (by decide)
  rcases goal with g | g
  · exact Or.inl (Int.dvd_of_emod_eq_zero g)
  · exact Or.inr (Int.dvd_of_emod_eq_zero g)
theorem sumN_dvd {p : Int} {f : Nat → Int} : ∀ {n : Nat}, (∀ k, k < n → p ∣ f k) → p ∣ sumN f n
  | 0, _ => Int.dvd_zero p
  | n + 1, h => Int.dvd_add (sumN_dvd (n := n) fun k hk => h k (by omega)) (h n (by omega))
theorem sumN_dvd_but {p : Int} {f : Nat → Int} {k0 : Nat} : ∀ {n : Nat}, k0 < n → (∀ k, k < n → k ≠ k0 → p ∣ f k) → p ∣ sumN f n - f k0
  | 0, h, _ => by omega
  | n + 1, h, hd => by
    simp only [sumN]
    by_cases e : k0 = n
    · subst e
      have := sumN_dvd (n := k0) (p := p) (f := f) fun k hk => hd k (by omega) (by omega)
      rw [Int.add_sub_cancel]; exact this
    · have h1 := sumN_dvd_but (n := n) (by omega) fun k hk hne => hd k (by omega) hne
      have h2 := hd n (by omega) (by omega)
      have : sumN f n + f n - f k0 = (sumN f n - f k0) + f n := by omega
      rw [this]; exact Int.dvd_add h1 h2

/-- v is, modulo p and on m places, a sum of multiples of r vectors. -/
def Sp (p : Int) (m : Nat) (b : Nat → Nat → Int) (r : Nat) (v : Nat → Int) : Prop := ∃ x : Nat → Int, ∀ i, i < m → p ∣ v i - sumN (fun k => x k * b k i) r
/-- The first place at which v is not 0. -/
def Lead (p : Int) (m : Nat) (v : Nat → Int) (c : Nat) : Prop := c < m ∧ (∀ i, i < c → p ∣ v i) ∧ ¬ p ∣ v c
section
variable {p : Int} {m : Nat}
theorem Sp.base {b : Nat → Nat → Int} {r k : Nat} (hk : k < r) : Sp p m b r (b k) := ⟨dlt k, fun i _ => by
  rw [sumN_dlt (fun k => b k i) k r, if_pos hk, Int.sub_self]; exact Int.dvd_zero p⟩
theorem Sp.congr {b : Nat → Nat → Int} {r : Nat} {v w : Nat → Int} (h : Sp p m b r v) (e : ∀ i, i < m → p ∣ w i - v i) : Sp p m b r w := by
  obtain ⟨x, hx⟩ := h
  refine ⟨x, fun i hi => ?_⟩
  have := Int.dvd_add (e i hi) (hx i hi)
  have e2 : w i - v i + (v i - sumN (fun k => x k * b k i) r) = w i - sumN (fun k => x k * b k i) r := by omega
  rwa [e2] at this
theorem Sp.zero {b : Nat → Nat → Int} {r : Nat} {v : Nat → Int} (e : ∀ i, i < m → p ∣ v i) : Sp p m b r v := ⟨fun _ => 0, fun i hi => by
  rw [sumN_mulL, Int.zero_mul, Int.sub_zero]; exact e i hi⟩
theorem Sp.comb {b : Nat → Nat → Int} {r : Nat} {v w : Nat → Int} (h : Sp p m b r v) (c : Int) (g : Sp p m b r w) : Sp p m b r (fun i => v i + c * w i) := by
  obtain ⟨x, hx⟩ := h
  obtain ⟨y, hy⟩ := g
  refine ⟨fun k => x k + c * y k, fun i hi => ?_⟩
  have h1 := Int.dvd_add (hx i hi) (Int.dvd_mul_of_dvd_right (hy i hi) : p ∣ c * (w i - sumN (fun k => y k * b k i) r))
  have e : sumN (fun k => (x k + c * y k) * b k i) r = sumN (fun k => x k * b k i) r + c * sumN (fun k => y k * b k i) r := by
    rw [← sumN_mulL, ← sumN_add]
    refine congrArg (fun f => sumN f r) (funext fun k => ?_)
    rw [Int.add_mul, Int.mul_assoc]
  rw [e]
  have e2 : v i - sumN (fun k => x k * b k i) r + c * (w i - sumN (fun k => y k * b k i) r) = v i + c * w i - (sumN (fun k => x k * b k i) r + c * sumN (fun k => y k * b k i) r) := by
    rw [Int.mul_sub]; omega
  rwa [e2] at h1
theorem Sp.trans {a b : Nat → Nat → Int} {n r : Nat} {v : Nat → Int} (h : ∀ k, k < r → Sp p m a n (b k)) (g : Sp p m b r v) : Sp p m a n v := by
  obtain ⟨x, hx⟩ := g
  have key : ∀ q, q ≤ r → Sp p m a n (fun i => sumN (fun k => x k * b k i) q) := fun q => by
    induction q with
    | zero => intro _; exact Sp.zero fun i hi => Int.dvd_zero p
    | succ q ih => intro hq; exact (ih (by omega)).comb (x q) (h q (by omega))
  exact (key r (Nat.le_refl _)).congr hx
/-- First places in the span of vectors with first places of their own are theirs. -/
theorem lead_mem (hp : Pr p) {b : Nat → Nat → Int} {r : Nat} {piv : Nat → Nat} (hl : ∀ k, k < r → Lead p m (b k) (piv k)) (hinj : ∀ k l, k < r → l < r → piv k = piv l → k = l) {v : Nat → Int} (hv : Sp p m b r v) {c : Nat} (hc : Lead p m v c) : ∃ k, k < r ∧ piv k = c := by
  apply Decidable.byContradiction
  intro hno
  obtain ⟨x, hx⟩ := hv
  obtain ⟨hcm, hz, hnz⟩ := hc
  have step : ∀ q, q < c → ∀ k, k < r → piv k = q → p ∣ x k := fun q => by
    induction q using Nat.strongRecOn with
    | ind q ih =>
      intro hq k hk hkq
      have h1 := hx q (by omega)
      have h2 := hz q hq
      have h3 : p ∣ sumN (fun k => x k * b k q) r := by
        have := Int.dvd_sub h2 h1
        have e : v q - (v q - sumN (fun k => x k * b k q) r) = sumN (fun k => x k * b k q) r := by omega
        rwa [e] at this
      have h4 := sumN_dvd_but (p := p) (f := fun k => x k * b k q) (k0 := k) hk fun l hl' hne => by
        by_cases hlt : piv l < q
        · exact Int.dvd_mul_of_dvd_left (ih (piv l) hlt (by omega) l hl' rfl)
        · by_cases he : piv l = q
          · exact absurd (hinj l k hl' hk (by omega)) hne
          · exact Int.dvd_mul_of_dvd_right ((hl l hl').2.1 q (by omega))
      have h5 : p ∣ x k * b k q := by
        have := Int.dvd_sub h3 h4
        have e : sumN (fun k => x k * b k q) r - (sumN (fun k => x k * b k q) r - x k * b k q) = x k * b k q := by omega
        rwa [e] at this
      rcases hp.2 _ _ h5 with g | g
      · exact g
      · subst hkq; exact absurd g (hl k hk).2.2
  have h1 := hx c hcm
  have h2 : p ∣ sumN (fun k => x k * b k c) r := sumN_dvd fun l hl' => by
    by_cases hlt : piv l < c
    · exact Int.dvd_mul_of_dvd_left (step (piv l) hlt l hl' rfl)
    · by_cases he : piv l = c
      · exact absurd ⟨l, hl', he⟩ hno
      · exact Int.dvd_mul_of_dvd_right ((hl l hl').2.1 c (by omega))
  have := Int.dvd_add h1 h2
  rw [Int.sub_add_cancel] at this
  exact hnz this
end
/-- No more pigeons than holes. -/
theorem pigeon : ∀ (b a : Nat) (f : Nat → Nat), (∀ i, i < a → f i < b) → (∀ i j, i < a → j < a → f i = f j → i = j) → a ≤ b
  | 0, a, f, h, _ => by
    rcases Nat.eq_zero_or_pos a with e | e
    · omega
    · have := h 0 e; omega
  | b + 1, a, f, h, hi => by
    rcases Nat.eq_zero_or_pos a with e | e
    · omega
    · have ih := pigeon b (a - 1) (fun i => if f i = b then f (a - 1) else f i) (fun i hi' => by
        have h1 := h i (by omega)
        have h2 := h (a - 1) (by omega)
        by_cases e1 : f i = b
        · simp only [e1, if_true]
          have : f (a - 1) ≠ b := fun e2 => by
            have := hi i (a - 1) (by omega) (by omega) (by omega)
            omega
          omega
        · simp only [e1, if_false]; omega) (fun i j hi' hj' e1 => by
        have k1 : f i = f (a - 1) → False := fun e2 => by
          have := hi i (a - 1) (by omega) (by omega) e2
          omega
        have k2 : f j = f (a - 1) → False := fun e2 => by
          have := hi j (a - 1) (by omega) (by omega) e2
          omega
        by_cases c1 : f i = b
        · by_cases c2 : f j = b
          · exact hi i j (by omega) (by omega) (by omega)
          · simp only [c1, c2, if_true, if_false] at e1
            exact absurd e1.symm k2
        · by_cases c2 : f j = b
          · simp only [c1, c2, if_true, if_false] at e1
            exact absurd e1 k1
          · simp only [c1, c2, if_false] at e1
            exact hi i j (by omega) (by omega) e1)
      omega
section
variable {p : Int} {m : Nat}
/-- Vectors with first places of their own that span what others span. -/
structure Ech (p : Int) (m : Nat) (a : Nat → Nat → Int) (n : Nat) (b : Nat → Nat → Int) (r : Nat) (piv : Nat → Nat) : Prop where
  lead : ∀ k, k < r → Lead p m (b k) (piv k)
  inj : ∀ k l, k < r → l < r → piv k = piv l → k = l
  into : ∀ k, k < r → Sp p m a n (b k)
  onto : ∀ j, j < n → Sp p m b r (a j)
theorem ech_le (hp : Pr p) {a b b' : Nat → Nat → Int} {n r r' : Nat} {piv piv' : Nat → Nat} (h : Ech p m a n b r piv) (h' : Ech p m a n b' r' piv') : r ≤ r' := by
  have ex : ∀ k, ∃ l, k < r → l < r' ∧ piv' l = piv k := fun k => by
    by_cases hk : k < r
    · obtain ⟨l, h1, h2⟩ := lead_mem hp h'.lead h'.inj (Sp.trans h'.onto (h.into k hk)) (h.lead k hk)
      exact ⟨l, fun _ => ⟨h1, h2⟩⟩
    · exact ⟨0, fun hh => absurd hh hk⟩
  obtain ⟨f, hf⟩ := Classical.axiomOfChoice ex
  refine pigeon r' r f (fun i hi => (hf i hi).1) fun i j hi hj e => h.inj i j hi hj ?_
  rw [← (hf i hi).2, ← (hf j hj).2, e]
/-- Both ways find one rank. -/
theorem ech_eq (hp : Pr p) {a b b' : Nat → Nat → Int} {n r r' : Nat} {piv piv' : Nat → Nat} (h : Ech p m a n b r piv) (h' : Ech p m a n b' r' piv') : r = r' := Nat.le_antisymm (ech_le hp h h') (ech_le hp h' h)
end
end Go.VG
