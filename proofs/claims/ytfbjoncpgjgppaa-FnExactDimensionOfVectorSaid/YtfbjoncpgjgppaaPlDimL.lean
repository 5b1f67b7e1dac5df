/- Whole dimensions: the code's answer is the model's. Plain. -/
import Derived.Test.YtfbjoncpgjgppaaPlDimF3
set_option linter.all false
namespace Go.VG
theorem min_specD {x : List Int} (h : 1 ≤ x.length) : ∃ m, p_slices_Min_Lint64_int64 x = some m ∧ (∀ k, k < x.length → m ≤ x.getD k 0) ∧ ∃ k, k < x.length ∧ x.getD k 0 = m := by
  unfold p_slices_Min_Lint64_int64
  have e : decide ((x.length : Int) < 1) = false := by simp; omega
  simp only [e, Bool.false_eq_true, if_false, Option.bind_some, idx_zero x 0 (by omega : 0 < x.length)]
  have e2 : ((x.length : Int) - 1).toNat = x.length - 1 := by omega
  rw [e2]
  obtain ⟨s, h1, h2, h3⟩ := forN_inv (R := Unit) (body := fun k s => p_slices_Min_Lint64_int64_L1 x k s) (N := x.length - 1) (s := x.getD 0 0) (fun j s => (∀ k, k < j + 1 → s ≤ x.getD k 0) ∧ ∃ k, k < x.length ∧ x.getD k 0 = s)
    ⟨fun k hk => by have : k = 0 := by omega
                    subst this; exact Int.le_refl _, 0, by omega, rfl⟩ (fun j s hj hs => by
      have ei : (1 : Int) + (j : Int) = ((j + 1 : Nat) : Int) := by omega
      simp only [p_slices_Min_Lint64_int64_L1, ei, idx_getD x 0 (by omega : j + 1 < x.length), Option.bind_some]
      refine ⟨_, rfl, fun k hk => ?_, ?_⟩
      · have := hs.1 k
        by_cases hkj : k = j + 1
        · subst hkj; split <;> omega
        · have := this (by omega)
          split <;> omega
      · split
        · exact ⟨j + 1, by omega, rfl⟩
        · exact hs.2)
  rw [h1]
  exact ⟨s, rfl, fun k hk => h2 k (by omega), h3⟩
def dimS (T : List (List (List Int))) (d : List Int) (i j : Nat) (k : Nat) : Int := w64 (at3 T i j k * d.getD k 0)
def DimOK (T : List (List (List Int))) (d : List Int) : Prop := ∀ i, i < d.length → ∀ j, j < d.length → 1 ≤ d.getD i 0 ∧ sumW (dimS T d i j) d.length = w64 (d.getD i 0 * d.getD j 0)

section
variable {T : List (List (List Int))} {d : List Int}
theorem specDim (h : Cube T) (hd : d.length = T.length) : Says (p_spec_l04Is T d) (DimOK T d) := by
  unfold p_spec_l04Is
  refine Chk.says (forN_chk fun i hi _ => ?_)
  have hi' : i < T.length := by omega
  simp only [p_spec_l04Is_L1]
  refine ChkC.loop (forN_chk fun j hj _ => ?_)
  have hj' : j < T.length := by omega
  simp only [p_spec_l04Is_L2]
  have e : forN (fun k s => p_spec_l04Is_L3 T i j d k s) d.length 0 (0 : Int) = some (.fin (sumW (dimS T d i j) d.length)) := forN_det (R := Unit) (fun k => sumW (dimS T d i j) k) (fun k hk => by
    simp only [p_spec_l04Is_L3, h.i1 hi', h.i2 hi' hj', h.i3 hi' hj' (by omega : k < T.length), idx_getD d 0 hk, Option.bind_some, sumW, dimS])
  rw [e]
  simp only [Option.bind_some, onRes, idx_getD d 0 hi, idx_getD d 0 hj]
  refine ChkC.congr (ChkC.bindB (Says.or fun _ => ⟨_, rfl, Iff.rfl⟩) rfl) ?_
  simp [not_or]
theorem implDim (h : Cube T) (hd : d.length = T.length) : Says (p_impl_Ring_isDimension T d) (DimOK T d) := by
  unfold p_impl_Ring_isDimension
  have hn := h.1.1
  obtain ⟨m, hm, hmin, k0, hk0, hmk⟩ := min_specD (x := d) (by omega)
  have := forN_chk (N := T.length) (R := Bool) (Bad := fun r => r = false) (body := fun k s => p_impl_Ring_isDimension_L1 T d k) (P := fun i => ∀ j, j < d.length → sumW (dimS T d i j) d.length = w64 (d.getD i 0 * d.getD j 0)) fun i hi _ => by
    simp only [p_impl_Ring_isDimension_L1, h.i1 hi, Option.bind_some]
    rw [h.mat hi]
    refine ChkC.congr (ChkC.loop (forN_chk (P := fun j => sumW (dimS T d i j) d.length = w64 (d.getD i 0 * d.getD j 0)) fun j hj _ => ?_)) (by rw [hd])
    simp only [p_impl_Ring_isDimension_L2, h.i2 hi hj, Option.bind_some]
    rw [h.row hi hj]
    have e : forN (fun k s => p_impl_Ring_isDimension_L3 ((T.getD i []).getD j []) d k s) T.length 0 (0 : Int) = some (.fin (sumW (dimS T d i j) T.length)) := forN_det (R := Unit) (fun k => sumW (dimS T d i j) k) (fun k hk => by
      simp only [p_impl_Ring_isDimension_L3, h.i3 hi hj hk, idx_getD d 0 (by omega : k < d.length), Option.bind_some, sumW, dimS])
    rw [e]
    simp only [Option.bind_some, onRes, idx_getD d 0 (by omega : i < d.length), idx_getD d 0 (by omega : j < d.length)]
    exact ChkC.congr (ChkC.ite rfl) (by simp [hd])
  rcases this with ⟨h1, e⟩ | ⟨h1, r, e, rfl⟩ <;> rw [e] <;> simp only [Option.bind_some, onRes]
  · rw [hm]
    refine ⟨_, rfl, ?_⟩
    simp only [decide_eq_true_eq]
    constructor
    · intro hp i hi j hj
      exact ⟨by have := hmin i hi; omega, h1 i (by omega) j hj⟩
    · intro hh
      have := (hh k0 hk0 k0 hk0).1
      omega
  · exact ⟨false, rfl, by simp; exact fun hh => h1 fun i hi j hj => (hh i (by omega) j hj).2⟩

theorem w64_dim {a d : Int} (ha : 0 ≤ a ∧ a ≤ 1000) (hd : 0 ≤ d ∧ d ≤ 20000) : w64 (a * d) = a * d ∧ 0 ≤ a * d ∧ a * d ≤ 20000000 := by
  have h1 := Int.mul_nonneg ha.1 hd.1
  have h2 : a * d ≤ 1000 * 20000 := Int.mul_le_mul ha.2 hd.2 hd.1 (by decide)
  exact ⟨w64_small (by omega) (by omega), h1, by omega⟩
theorem sumW_dim {f : Nat → Int} : ∀ {n : Nat}, n ≤ 16 → (∀ e, e < n → 0 ≤ f e ∧ f e ≤ 20000000) → sumW f n = sumN f n ∧ 0 ≤ sumN f n ∧ sumN f n ≤ n * 20000000
  | 0, _, _ => by simp [sumW, sumN]
  | n + 1, hn, h => by
    obtain ⟨h1, h2, h3⟩ := sumW_dim (n := n) (by omega) (fun e he => h e (by omega))
    have h4 := h n (by omega)
    simp only [sumW, sumN]
    rw [h1, w64_small (by omega) (by omega)]
    refine ⟨rfl, by omega, by omega⟩
/-- What passes the test has whole dimensions. -/
theorem dim_of (h : RingOK T) (g : Guess T d) (hd : DimOK T d) : DimZ T (fun i => d.getD i 0) := by
  have hl := g.len
  have hn := h.cube.1.2
  refine ⟨h, fun i hi => (hd i (by omega) i (by omega)).1, fun i hi j hj => ?_⟩
  have e := (hd i (by omega) j (by omega)).2
  have r1 := g.rng i hi; have r2 := g.rng j hj
  have b : ∀ e, e < T.length → 0 ≤ dimS T d i j e ∧ dimS T d i j e ≤ 20000000 := fun e he => by
    have := w64_dim (h.cube.rng hi hj he) (g.rng e he)
    unfold dimS
    rw [this.1]; exact this.2
  rw [hl, (sumW_dim hn b).1] at e
  have p : w64 (d.getD i 0 * d.getD j 0) = d.getD i 0 * d.getD j 0 := by
    have h1 := Int.mul_nonneg r1.1 r2.1
    have h2 : d.getD i 0 * d.getD j 0 ≤ 20000 * 20000 := Int.mul_le_mul r1.2 r2.2 r2.1 (by decide)
    exact w64_small (by omega) (by omega)
  rw [p] at e
  rw [← e]
  exact sumN_congr fun k hk => (w64_dim (h.cube.rng hi hj hk) (g.rng k hk)).1.symm
theorem guess_eq {l1 l2 : List Int} (g1 : Guess T l1) (g2 : Guess T l2) (h : DimZ T (fun i => l1.getD i 0)) : l2 = l1 := by
  have e1 := g1.len; have e2 := g2.len
  refine List.ext_getElem (by omega) fun i h1 h2 => ?_
  have := g2.hit _ h i (by omega)
  simpa [List.getD_eq_getElem?_getD, h1, h2] using this
/-- The two answers: the same dimensions, or none. -/
theorem ints_eq (h : RingOK T) : (∃ l, Guess T l ∧ p_spec_l04Integers T = some (l, true) ∧ p_impl_Ring_integerDimensions T = some l ∧ l.isEmpty = false) ∨ (∃ l, p_spec_l04Integers T = some (l, false) ∧ p_impl_Ring_integerDimensions T = some []) := by
  have hn := h.cube.1
  obtain ⟨l1, g1, e1⟩ := spec_guess h
  obtain ⟨l2, g2, e2⟩ := near_guess h
  obtain ⟨b1, f1, k1⟩ := specDim h.cube g1.len
  obtain ⟨b2, f2, k2⟩ := implDim h.cube g2.len
  unfold p_impl_Ring_integerDimensions
  rw [e1, e2]
  simp only [Option.bind_some, f1, f2]
  have ne : ∀ l : List Int, Guess T l → l.isEmpty = false := fun l g => by
    have := g.len
    cases l with
    | nil => simp at this; omega
    | cons a t => rfl
  cases b1
  · cases b2
    · exact Or.inr ⟨l1, rfl, rfl⟩
    · have e := guess_eq g2 g1 (dim_of h g2 (k2.1 rfl))
      subst e
      exact absurd (k1.2 (k2.1 rfl)) (by simp)
  · have e := guess_eq g1 g2 (dim_of h g1 (k1.1 rfl))
    subst e
    have : b2 = true := k2.2 (k1.1 rfl)
    subst this
    exact Or.inl ⟨l2, g2, rfl, rfl, ne _ g2⟩
end
end Go.VG
