/- The code's way to whole dimensions: one step in doubles. Plain. -/
import Derived.Test.YtfbjoncpgjgppaaPlDimS
import Derived.Test.YtfbjoncpgjgppaaPlFlt4
set_option linter.all false
namespace Go.VG
open Ieee
attribute [local irreducible] uU uUS
section
variable {T : List (List (List Int))}
/-- Weights in doubles: about one at most, and none too small. -/
structure Wf (T : List (List (List Int))) (b : Nat → Nat) : Prop where
  fin : ∀ k, k < T.length → Fin0 (b k)
  lo : ∀ k, k < T.length → uU ≤ 1048576 * fv (b k)
  hi : ∀ k, k < T.length → fv (b k) ≤ 2 * uU
  first : ∀ k, k < T.length → fv (b k) ≤ 16001 * fv (b 0)
def fW (b : Nat → Nat) (k : Nat) : Int := (fv (b k) : Int)
def bL (b : Nat → Nat) (n : Nat) : List Int := vecG (fun k => ((b k : Nat) : Int)) n
theorem bL_idx {b : Nat → Nat} {n i : Nat} (h : i < n) : idx (bL b n) (i : Int) = some ((b i : Nat) : Int) := vecG_idx h
theorem fMulN {x y r : Nat} (h : double.mul x y = some r) : fMul (x : Int) (y : Int) = some (r : Int) := by
  unfold fMul; rw [Int.toNat_natCast, Int.toNat_natCast, h]; rfl
theorem fAddN {x y r : Nat} (h : double.add x y = some r) : fAdd (x : Int) (y : Int) = some (r : Int) := by
  unfold fAdd; rw [Int.toNat_natCast, Int.toNat_natCast, h]; rfl
theorem fQuoN {x y r : Nat} (h : double.div x y = some r) : fQuo (x : Int) (y : Int) = some (r : Int) := by
  unfold fQuo; rw [Int.toNat_natCast, Int.toNat_natCast, h]; rfl
theorem fMaxN {x y : Nat} (hx : Fin0 x) (hy : Fin0 y) : fMax (x : Int) (y : Int) = some (((if fv x < fv y then y else x) : Nat) : Int) := by
  unfold fMax
  rw [Int.toNat_natCast, Int.toNat_natCast, order_fin hx hy]
  have hneg : (FloatKind.f64.decode x).neg = false := by
    have : FloatKind.f64.decode x = double.read x := rfl
    rw [this, read_fin hx]; rfl
  rcases Nat.lt_trichotomy (fv x) (fv y) with h | h | h
  · have e : (if fv x < fv y then y else x) = y := if_pos h
    rw [Nat.compare_eq_lt.2 h, e]
  · have e : (if fv x < fv y then y else x) = x := if_neg (by omega)
    rw [Nat.compare_eq_eq.2 h, e]
    simp only [hneg, Bool.false_eq_true, if_false]
  · have e : (if fv x < fv y then y else x) = x := if_neg (by omega)
    rw [Nat.compare_eq_gt.2 h, e]

/-! ### The sums -/
theorem fW_bd {b : Nat → Nat} (hb : Wf T b) : ∀ k, k < T.length → 0 ≤ fW b k ∧ fW b k ≤ 2 * (uU : Int) := fun k hk => by
  have := hb.hi k hk
  unfold fW; omega
def tot (T : List (List (List Int))) (b : Nat → Nat) (i j : Nat) : Int := sumN (fun i => pA T (fW b) i j) i
theorem row_ap (h : Cube T) {b : Nat → Nat} (hb : Wf T b) {i j : Nat} (hi : i < T.length) (hj : j < T.length) {s : Nat → Nat} (hs : Ap (2 + 16 * i) (s j) (tot T b i j).toNat) :
    ∃ r, forN (R := Unit) (fun k x => p_impl_Ring_nearDimensions_L4 ((T.getD i []).getD j []) j (bL b T.length) k x) T.length 0 (bL s T.length) = some (.fin (bL (up1 s j r) T.length)) ∧ Ap (2 + 16 * (i + 1)) r (tot T b (i + 1) j).toNat := by
  have hn := h.1.2
  have hU := uU_pos
  obtain ⟨l, e, r, rfl, hr⟩ := forN_inv (R := Unit) (N := T.length) (s := bL s T.length) (body := fun k x => p_impl_Ring_nearDimensions_L4 ((T.getD i []).getD j []) j (bL b T.length) k x)
    (fun k l => ∃ r, l = bL (up1 s j r) T.length ∧ Ap (2 + 16 * i + k) r (tot T b i j + sumN (fun k => at3 T i j k * fW b k) k).toNat)
    ⟨s j, vecG_congr fun q hq => by simp only [up1]; split; rename_i e; rw [e]; rfl, by simpa [sumN] using hs⟩ (fun k l hk ⟨r, hl, hr⟩ => by
      subst hl
      have rg := h.rng hi hj hk
      have v := fW_bd hb k hk
      have t1 := rows_bd h (W := 2 * (uU : Int)) (by omega) (fW_bd hb) hj (i := i) (by omega)
      have t2 := part_bd h (fW_bd hb) hi hj (k := k) (by omega)
      have c1 : (i : Int) * (16000 * (2 * (uU : Int))) ≤ 15 * (16000 * (2 * (uU : Int))) := Int.mul_le_mul_of_nonneg_right (by omega) (by omega)
      have c2 : (k : Int) * (1000 * (2 * (uU : Int))) ≤ 15 * (1000 * (2 * (uU : Int))) := Int.mul_le_mul_of_nonneg_right (by omega) (by omega)
      obtain ⟨m, hm⟩ : ∃ m : Nat, at3 T i j k = (m : Int) := ⟨(at3 T i j k).toNat, by omega⟩
      obtain ⟨p, e1, hp⟩ := prod_ap (m := m) (w := b k) (by omega) (hb.fin k hk) (hb.lo k hk) (hb.hi k hk)
      have hpb : m * fv (b k) ≤ 1000 * (2 * uU) := Nat.mul_le_mul (by omega) (hb.hi k hk)
      have hpart : at3 T i j k * fW b k = ((m * fv (b k) : Nat) : Int) := by rw [hm]; unfold fW; rw [Int.natCast_mul]
      have hsum : (tot T b i j + sumN (fun k => at3 T i j k * fW b k) (k + 1)).toNat = (tot T b i j + sumN (fun k => at3 T i j k * fW b k) k).toNat + m * fv (b k) := by
        simp only [sumN]
        rw [hpart]
        unfold tot at *; omega
      have hlim : 2 * (tot T b i j + sumN (fun k => at3 T i j k * fW b k) k).toNat + 2 * (m * fv (b k)) ≤ uU * 1048576 := by
        have q : (tot T b i j + sumN (fun k => at3 T i j k * fW b k) k).toNat ≤ 510000 * uU := by unfold tot; omega
        omega
      obtain ⟨x, e2, hx⟩ := acc_ap hr hp (by omega) (by omega) hlim
      refine ⟨bL (up1 s j x) T.length, ?_, x, rfl, by rw [hsum]; exact hx⟩
      have ei : idx (bL (up1 s j r) T.length) (j : Int) = some (r : Int) := by rw [bL_idx hj]; simp [up1]
      have em : fMul (fOf (m : Int)) ((b k : Nat) : Int) = some (p : Int) := fMulN e1
      simp only [p_impl_Ring_nearDimensions_L4, h.i3 hi hj hk, ei, bL_idx hk, hm, Option.bind_some, em, fAddN e2, Int.toNat_natCast]
      congr 2
      unfold bL
      rw [vecG_set hj]
      refine vecG_congr fun q hq => ?_
      simp only [up1]
      split <;> rfl)
  refine ⟨r, e, ?_⟩
  have e1 : tot T b (i + 1) j = tot T b i j + sumN (fun k => at3 T i j k * fW b k) T.length := rfl
  rw [e1]
  exact hr.mono (by omega)
theorem sums_ap (h : Cube T) {b : Nat → Nat} (hb : Wf T b) : ∃ s : Nat → Nat, forN (R := Unit) (fun k x => p_impl_Ring_nearDimensions_L2 T (bL b T.length) k x) T.length 0 (List.replicate T.length 0) = some (.fin (bL s T.length)) ∧ ∀ j, j < T.length → Ap 258 (s j) (nW T (fW b) j).toNat := by
  have hn := h.1.2
  obtain ⟨l, e, s, rfl, hs⟩ := forN_inv (R := Unit) (N := T.length) (s := List.replicate T.length 0) (body := fun k x => p_impl_Ring_nearDimensions_L2 T (bL b T.length) k x)
    (fun i l => ∃ s : Nat → Nat, l = bL s T.length ∧ ∀ j, j < T.length → Ap (2 + 16 * i) (s j) (tot T b i j).toNat)
    ⟨fun _ => 0, by
      apply List.ext_getElem
      · simp [bL, vecG]
      · intro i h1 h2; simp [bL, vecG], fun j hj => Ap.zero _⟩ (fun i l hi ⟨s, hl, hs⟩ => by
      subst hl
      obtain ⟨l2, e2, s2, rfl, hs2⟩ := forN_inv (R := Unit) (N := T.length) (s := bL s T.length) (body := fun k x => p_impl_Ring_nearDimensions_L3 (T.getD i []) (bL b T.length) k x)
        (fun j l => ∃ s : Nat → Nat, l = bL s T.length ∧ ∀ q, q < T.length → Ap (2 + 16 * (if q < j then i + 1 else i)) (s q) (tot T b (if q < j then i + 1 else i) q).toNat)
        ⟨s, rfl, fun q hq => by simpa using hs q hq⟩ (fun j l hj ⟨s, hl, hs⟩ => by
          subst hl
          have hsj := hs j hj
          rw [if_neg (by omega)] at hsj
          obtain ⟨r, e3, hr⟩ := row_ap h hb hi hj hsj
          refine ⟨bL (up1 s j r) T.length, ?_, up1 s j r, rfl, fun q hq => ?_⟩
          · simp only [p_impl_Ring_nearDimensions_L3, h.i2 hi hj, Option.bind_some, h.row hi hj]
            rw [e3]; rfl
          · simp only [up1]
            by_cases eq : q = j
            · subst eq
              rw [if_pos rfl, if_pos (by omega)]; exact hr
            · rw [if_neg eq]
              have : q < j + 1 ↔ q < j := by omega
              simp only [this]
              exact hs q hq)
      refine ⟨bL s2 T.length, ?_, s2, rfl, fun q hq => ?_⟩
      · simp only [p_impl_Ring_nearDimensions_L2, h.i1 hi, Option.bind_some, h.mat hi]
        rw [e2]; rfl
      · have := hs2 q hq
        rw [if_pos hq] at this; exact this)
  refine ⟨s, e, fun j hj => ?_⟩
  have := (hs j hj).mono (show 2 + 16 * T.length ≤ 258 by omega)
  rw [nW_rows]
  exact this
theorem most_of (h : Cube T) {s : Nat → Nat} (hs : ∀ j, j < T.length → Fin0 (s j)) : ∃ m : Nat, forN (R := Unit) (fun k x => p_impl_Ring_nearDimensions_L5 (bL s T.length) k x) T.length 0 (0 : Int) = some (.fin (m : Int)) ∧ Fin0 m ∧ (∀ j, j < T.length → fv (s j) ≤ fv m) ∧ (fv m = 0 ∨ ∃ j, j < T.length ∧ m = s j) := by
  obtain ⟨x, e, m, rfl, h1, h2, h3⟩ := forN_inv (R := Unit) (N := T.length) (s := (0 : Int)) (body := fun k x => p_impl_Ring_nearDimensions_L5 (bL s T.length) k x)
    (fun q x => ∃ m : Nat, x = (m : Int) ∧ Fin0 m ∧ (∀ j, j < q → fv (s j) ≤ fv m) ∧ (fv m = 0 ∨ ∃ j, j < T.length ∧ m = s j))
    ⟨0, rfl, by unfold Fin0; decide, fun j hj => by omega, .inl rfl⟩ (fun q x hq ⟨m, hx, g1, g2, g3⟩ => by
      subst hx
      simp only [p_impl_Ring_nearDimensions_L5, bL_idx hq, Option.bind_some, fMaxN g1 (hs q hq)]
      refine ⟨_, rfl, _, rfl, ?_⟩
      by_cases hc : fv m < fv (s q)
      · rw [if_pos hc]
        refine ⟨hs q hq, fun j hj => ?_, .inr ⟨q, hq, rfl⟩⟩
        by_cases ej : j = q
        · subst ej; exact Nat.le_refl _
        · have := g2 j (by omega); omega
      · rw [if_neg hc]
        refine ⟨g1, fun j hj => ?_, g3⟩
        by_cases ej : j = q
        · subst ej; omega
        · exact g2 j (by omega))
  exact ⟨m, e, h1, h2, h3⟩
end
end Go.VG
