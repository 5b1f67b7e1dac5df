/- Steps with rounding: how near to the dimensions the weights come. Plain. -/
import Derived.Test.YtfbjoncpgjgppaaPlDim
set_option linter.all false
namespace Go.VG
/-- Any two ratios to the dimensions stand to each other at most as A to B. -/
def Nr (n : Nat) (d w : Nat → Int) (A B : Int) : Prop := ∀ i, i < n → ∀ j, j < n → B * (w j * d i) ≤ A * (w i * d j)
theorem Nr.near {n : Nat} {d w : Nat → Int} {A B : Int} (h : Nr n d w A B) : Near n d w (A - B) B := fun i hi j hj => by
  have := h i hi j hj
  rw [Int.mul_sub, Int.sub_mul]; omega
theorem Near.nr {n : Nat} {d w : Nat → Int} {a B : Int} (h : Near n d w a B) : Nr n d w (a + B) B := fun i hi j hj => by
  have := h i hi j hj
  rw [Int.mul_sub] at this
  rw [Int.add_mul]; omega
theorem Nr.weaken {n : Nat} {d w : Nat → Int} {A B A' B' : Int} (h : Nr n d w A B) (hB : 0 < B) (hB' : 0 ≤ B') (hd : ∀ i, i < n → 0 ≤ d i) (hw : ∀ i, i < n → 0 ≤ w i) (hle : A * B' ≤ A' * B) : Nr n d w A' B' := fun i hi j hj => by
  have h1 := h i hi j hj
  have hx : 0 ≤ w i * d j := Int.mul_nonneg (hw i hi) (hd j hj)
  have h2 : B' * (B * (w j * d i)) ≤ B' * (A * (w i * d j)) := Int.mul_le_mul_of_nonneg_left h1 hB'
  have h3 : A * B' * (w i * d j) ≤ A' * B * (w i * d j) := Int.mul_le_mul_of_nonneg_right hle hx
  have e1 : B' * (B * (w j * d i)) = B * (B' * (w j * d i)) := Int.mul_left_comm ..
  have e2 : B' * (A * (w i * d j)) = A * B' * (w i * d j) := by rw [Int.mul_comm A B', Int.mul_assoc]
  have e3 : A' * B * (w i * d j) = B * (A' * (w i * d j)) := by rw [Int.mul_comm A' B, Int.mul_assoc]
  exact Int.le_of_mul_le_mul_left (by omega : B * (B' * (w j * d i)) ≤ B * (A' * (w i * d j))) hB
/-- w is v times Y / X but for one part in H. -/
def Rnd (n : Nat) (v w : Nat → Int) (X Y H : Int) : Prop := ∀ j, j < n → H * (w j * X) ≤ (H + 1) * (v j * Y) ∧ H * (v j * Y) ≤ (H + 1) * (w j * X)
theorem Nr.rnd {n : Nat} {d v w : Nat → Int} {A B X Y H : Int} (h : Nr n d v A B) (hr : Rnd n v w X Y H) (hX : 0 < X) (hY : 0 ≤ Y) (hH : 0 ≤ H) (hA : 0 ≤ A) (hB : 0 ≤ B) (hd : ∀ i, i < n → 0 ≤ d i) : Nr n d w (A * ((H + 1) * (H + 1))) (B * (H * H)) := fun i hi j hj => by
  have r1 := (hr j hj).1
  have r2 := (hr i hi).2
  have h1 := h i hi j hj
  have di := hd i hi; have dj := hd j hj
  -- H B (H w_j X) d_i <= H B (H+1) v_j Y d_i
  have s1 : (H * B * d i) * (H * (w j * X)) ≤ (H * B * d i) * ((H + 1) * (v j * Y)) := Int.mul_le_mul_of_nonneg_left r1 (Int.mul_nonneg (Int.mul_nonneg hH hB) di)
  have s2 : (H * (H + 1) * Y) * (B * (v j * d i)) ≤ (H * (H + 1) * Y) * (A * (v i * d j)) := Int.mul_le_mul_of_nonneg_left h1 (Int.mul_nonneg (Int.mul_nonneg hH (by omega)) hY)
  have s3 : ((H + 1) * A * d j) * (H * (v i * Y)) ≤ ((H + 1) * A * d j) * ((H + 1) * (w i * X)) := Int.mul_le_mul_of_nonneg_left r2 (Int.mul_nonneg (Int.mul_nonneg (by omega) hA) dj)
  generalize H + 1 = K at *
  have e1 : (H * B * d i) * (H * (w j * X)) = X * (B * (H * H) * (w j * d i)) := by
    simp only [Int.mul_assoc, Int.mul_comm, Int.mul_left_comm]
  have e2 : (H * B * d i) * (K * (v j * Y)) = (H * K * Y) * (B * (v j * d i)) := by
    simp only [Int.mul_assoc, Int.mul_comm, Int.mul_left_comm]
  have e3 : (H * K * Y) * (A * (v i * d j)) = (K * A * d j) * (H * (v i * Y)) := by
    simp only [Int.mul_assoc, Int.mul_comm, Int.mul_left_comm]
  have e4 : (K * A * d j) * (K * (w i * X)) = X * (A * (K * K) * (w i * d j)) := by
    simp only [Int.mul_assoc, Int.mul_comm, Int.mul_left_comm]
  exact Int.le_of_mul_le_mul_left (by omega : X * (B * (H * H) * (w j * d i)) ≤ X * (A * (K * K) * (w i * d j))) hX
/-- The next bound, by whole numbers. -/
def stA (H Q A : Nat) : Nat := (3 * A + Q) * ((H + 1) * (H + 1)) / (4 * (H * H)) + 1
def itA (H Q : Nat) : Nat → Nat → Nat
  | 0, A => A
  | k + 1, A => itA H Q k (stA H Q A)
theorem itA_succ (H Q : Nat) : ∀ (k A : Nat), itA H Q (k + 1) A = stA H Q (itA H Q k A)
  | 0, _ => rfl
  | k + 1, A => itA_succ H Q k (stA H Q A)
theorem DimZ.next {T : List (List (List Int))} {d w w' : Nat → Int} (h : DimZ T d) {A Q H : Nat} {X Y : Int} (hQ : 0 < Q) (hH : 0 < H) (hAQ : Q ≤ A) (hw : ∀ k, k < T.length → 0 ≤ w k) (hw' : ∀ k, k < T.length → 0 ≤ w' k) (hN : Nr T.length d w A Q)
    (hr : Rnd T.length (nW T w) w' X Y H) (hX : 0 < X) (hY : 0 ≤ Y) : Nr T.length d w' (stA H Q A) Q := by
  have hd : ∀ i, i < T.length → 0 ≤ d i := fun i hi => by have := h.pos i hi; omega
  have s1 := (h.step hw (by omega) (by omega) hN.near).nr
  have e1 : 3 * ((A : Int) - Q) + 4 * Q = ((3 * A + Q : Nat) : Int) := by omega
  have e2 : (4 : Int) * Q = ((4 * Q : Nat) : Int) := by omega
  rw [e1, e2] at s1
  have s2 := s1.rnd hr hX hY (by omega) (by omega) (by omega) hd
  have hpos : 0 < 4 * Q * (H * H) := Nat.mul_pos (by omega) (Nat.mul_pos hH hH)
  have c1 : ((3 * A + Q : Nat) : Int) * (((H : Int) + 1) * ((H : Int) + 1)) = (((3 * A + Q) * ((H + 1) * (H + 1)) : Nat) : Int) := by
    rw [Int.natCast_mul, Int.natCast_mul (H + 1) (H + 1), Int.natCast_add H 1]; rfl
  have c2 : ((4 * Q : Nat) : Int) * ((H : Int) * (H : Int)) = ((4 * Q * (H * H) : Nat) : Int) := by
    rw [Int.natCast_mul (4 * Q) (H * H), Int.natCast_mul H H]
  rw [c1, c2] at s2
  refine s2.weaken (by omega) (by omega) hd hw' ?_
  rw [← Int.natCast_mul, ← Int.natCast_mul]
  refine Int.ofNat_le.2 ?_
  unfold stA
  generalize hM : (3 * A + Q) * ((H + 1) * (H + 1)) = M
  have hdpos : 0 < 4 * (H * H) := Nat.mul_pos (by decide) (Nat.mul_pos hH hH)
  have hdiv : M ≤ (M / (4 * (H * H)) + 1) * (4 * (H * H)) := by
    have := Nat.div_add_mod M (4 * (H * H))
    have hlt := Nat.mod_lt M hdpos
    rw [Nat.add_mul, Nat.one_mul, Nat.mul_comm (M / (4 * (H * H)))]
    omega
  have : M * Q ≤ (M / (4 * (H * H)) + 1) * (4 * (H * H)) * Q := Nat.mul_le_mul_right Q hdiv
  refine Nat.le_trans this (Nat.le_of_eq ?_)
  rw [Nat.mul_assoc, show 4 * (H * H) * Q = 4 * Q * (H * H) by rw [Nat.mul_assoc, Nat.mul_comm (H * H), Nat.mul_assoc]]
theorem stA_ge {H Q A : Nat} (hH : 0 < H) (hAQ : Q ≤ A) : Q ≤ stA H Q A := by
  unfold stA
  have hdpos : 0 < 4 * (H * H) := Nat.mul_pos (by decide) (Nat.mul_pos hH hH)
  have h1 : 4 * Q * (H * H) ≤ (3 * A + Q) * ((H + 1) * (H + 1)) := Nat.mul_le_mul (by omega) (Nat.mul_le_mul (by omega) (by omega))
  have h2 : Q ≤ (3 * A + Q) * ((H + 1) * (H + 1)) / (4 * (H * H)) := by
    rw [Nat.le_div_iff_mul_le hdpos]
    refine Nat.le_trans (Nat.le_of_eq ?_) h1
    rw [← Nat.mul_assoc, Nat.mul_comm Q 4]
  omega
theorem itA_ge {H Q : Nat} (hH : 0 < H) : ∀ {k A : Nat}, Q ≤ A → Q ≤ itA H Q k A
  | 0, _, h => h
  | k + 1, _, h => itA_ge hH (k := k) (stA_ge hH h)
/-- All weights alike to begin with. -/
theorem DimZ.start {T : List (List (List Int))} {d w : Nat → Int} (h : DimZ T d) {c : Int} (hc : 0 ≤ c) (hw : ∀ k, k < T.length → w k = c) (Q : Nat) : Nr T.length d w ((16000 * Q : Nat) : Int) Q := fun i hi j hj => by
  obtain ⟨D, hD, _, hD2, _⟩ := h.top
  have di := hD i hi; have dj := h.pos j hj
  rw [hw i hi, hw j hj]
  have e1 : (c * d i) ≤ 16000 * (c * d j) := by
    have a1 : c * d i ≤ c * 16000 := Int.mul_le_mul_of_nonneg_left (by omega) hc
    have a2 : c * 1 ≤ c * d j := Int.mul_le_mul_of_nonneg_left dj hc
    omega
  have := Int.mul_le_mul_of_nonneg_left (c := (Q : Int)) e1 (by omega)
  have e2 : ((16000 * Q : Nat) : Int) * (c * d j) = Q * (16000 * (c * d j)) := by
    rw [Int.natCast_mul, Int.mul_comm (16000 : Nat) (Q : Int), Int.mul_assoc]; rfl
  rw [e2]; exact this
set_option maxRecDepth 20000 in
theorem it400 : itA 1000000 1000000000 400 16000000000000 ≤ 1000008100 := by decide +kernel
end Go.VG
