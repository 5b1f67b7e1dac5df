/- Brackets of supports; products within bounds. Plain. -/
import Derived.Test.YtfbjoncpgjgppaaPlRing2
set_option linter.all false
namespace Go.VG
section
variable {T : List (List (List Int))}
theorem sumW_pos {f : Nat → Int} : ∀ {n : Nat}, n ≤ 16 → (∀ e, e < n → 0 ≤ f e ∧ f e ≤ 1000000) → (0 ≤ sumW f n ∧ sumW f n ≤ n * 1000000) ∧ (0 < sumW f n ↔ ∃ e, e < n ∧ 0 < f e)
  | 0, _, _ => ⟨by simp [sumW], by simp [sumW]⟩
  | n + 1, hn, h => by
    obtain ⟨⟨h1, h2⟩, h3⟩ := sumW_pos (n := n) (by omega) (fun e he => h e (by omega))
    have h4 := h n (by omega)
    simp only [sumW]
    rw [w64_small (by omega) (by omega)]
    refine ⟨by omega, ?_⟩
    constructor
    · intro hp
      by_cases h5 : 0 < f n
      · exact ⟨n, by omega, h5⟩
      · obtain ⟨e, he, hf⟩ := h3.1 (by omega)
        exact ⟨e, by omega, hf⟩
    · rintro ⟨e, he, hf⟩
      by_cases hen : e = n
      · subst hen; omega
      · have := h3.2 ⟨e, by omega, hf⟩
        omega
theorem w64_prod {a b : Int} (ha : 0 ≤ a ∧ a ≤ 1000) (hb : 0 ≤ b ∧ b ≤ 1000) : (0 ≤ w64 (a * b) ∧ w64 (a * b) ≤ 1000000) ∧ (0 < w64 (a * b) ↔ 0 < a ∧ 0 < b) := by
  have h1 : 0 ≤ a * b := Int.mul_nonneg ha.1 hb.1
  have h2 : a * b ≤ 1000 * 1000 := Int.mul_le_mul ha.2 hb.2 hb.1 (by decide)
  rw [w64_small (by omega) (by omega)]
  refine ⟨by omega, ?_⟩
  constructor
  · intro h
    constructor
    · apply Decidable.byContradiction; intro hc
      have : a = 0 := by omega
      rw [this] at h; simp at h
    · apply Decidable.byContradiction; intro hc
      have : b = 0 := by omega
      rw [this] at h; simp at h
  · rintro ⟨h3, h4⟩
    exact Int.mul_pos h3 h4
/-- Brackets, of supports alone. -/
theorem RingOK.assoc (h : RingOK T) {i j k l : Nat} (hi : i < T.length) (hj : j < T.length) (hk : k < T.length) (hl : l < T.length) :
    (∃ e, e < T.length ∧ 0 < at3 T i j e ∧ 0 < at3 T e k l) ↔ (∃ e, e < T.length ∧ 0 < at3 T j k e ∧ 0 < at3 T i e l) := by
  have hc := h.cube
  have e := h.br i hi j hj k hk l hl
  have pL := sumW_pos (f := brL T i j k l) h.cube.1.2 (fun e he => (w64_prod (hc.rng hi hj he) (hc.rng he hk hl)).1)
  have pR := sumW_pos (f := brR T i j k l) h.cube.1.2 (fun e he => (w64_prod (hc.rng hj hk he) (hc.rng hi he hl)).1)
  constructor
  · rintro ⟨q, hq, h1, h2⟩
    have := pL.2.2 ⟨q, hq, (w64_prod (hc.rng hi hj hq) (hc.rng hq hk hl)).2.2 ⟨h1, h2⟩⟩
    rw [e] at this
    obtain ⟨x, hx, hp⟩ := pR.2.1 this
    exact ⟨x, hx, (w64_prod (hc.rng hj hk hx) (hc.rng hi hx hl)).2.1 hp⟩
  · rintro ⟨q, hq, h1, h2⟩
    have := pR.2.2 ⟨q, hq, (w64_prod (hc.rng hj hk hq) (hc.rng hi hq hl)).2.2 ⟨h1, h2⟩⟩
    rw [← e] at this
    obtain ⟨x, hx, hp⟩ := pL.2.1 this
    exact ⟨x, hx, (w64_prod (hc.rng hi hj hx) (hc.rng hx hk hl)).2.1 hp⟩
end
end Go.VG
