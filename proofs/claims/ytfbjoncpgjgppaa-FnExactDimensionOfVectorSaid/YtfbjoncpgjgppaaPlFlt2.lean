/- Doubles: sums, products, quotients of positive words, within one part in 2^50. Plain. -/
import Derived.Test.YtfbjoncpgjgppaaPlFlt
set_option linter.all false
namespace Go.VG
open Ieee
/-- Two numbers but for one part in H. -/
def Close (H R N : Nat) : Prop := H * R ≤ (H + 1) * N ∧ H * N ≤ (H + 1) * R
theorem Close.refl (H N : Nat) : Close H N N := ⟨Nat.mul_le_mul_right _ (by omega), Nat.mul_le_mul_right _ (by omega)⟩
theorem Close.symm {H R N : Nat} (h : Close H R N) : Close H N R := ⟨h.2, h.1⟩
theorem Close.scale {H R N : Nat} (h : Close H R N) (c : Nat) : Close H (c * R) (c * N) := by
  obtain ⟨h1, h2⟩ := h
  refine ⟨?_, ?_⟩
  · rw [Nat.mul_left_comm H, Nat.mul_left_comm (H + 1)]; exact Nat.mul_le_mul_left _ h1
  · rw [Nat.mul_left_comm H, Nat.mul_left_comm (H + 1)]; exact Nat.mul_le_mul_left _ h2
theorem Close.unscale {H R N c : Nat} (hc : 0 < c) (h : Close H (c * R) (c * N)) : Close H R N := by
  obtain ⟨h1, h2⟩ := h
  rw [Nat.mul_left_comm H, Nat.mul_left_comm (H + 1)] at h1 h2
  exact ⟨Nat.le_of_mul_le_mul_left h1 hc, Nat.le_of_mul_le_mul_left h2 hc⟩
theorem Close.add {H a b c d : Nat} (h : Close H a b) (k : Close H c d) : Close H (a + c) (b + d) := by
  obtain ⟨h1, h2⟩ := h
  obtain ⟨k1, k2⟩ := k
  unfold Close
  simp only [Nat.mul_add]; omega
theorem Close.trans {H H' K a b c : Nat} (h : Close H a b) (k : Close H' b c) (hH : 0 < H) (hH' : 0 < H') (hn : (H + 1) * (H' + 1) * K ≤ H * H' * (K + 1)) : Close K a c := by
  have key : ∀ {a b c : Nat}, H * a ≤ (H + 1) * b → H' * b ≤ (H' + 1) * c → K * a ≤ (K + 1) * c := fun {a b c} h1 h2 => by
    have a1 : H' * (H * a) ≤ H' * ((H + 1) * b) := Nat.mul_le_mul_left _ h1
    have a2 : (H + 1) * (H' * b) ≤ (H + 1) * ((H' + 1) * c) := Nat.mul_le_mul_left _ h2
    have a3 : (H + 1) * (H' + 1) * K * c ≤ H * H' * (K + 1) * c := Nat.mul_le_mul_right _ hn
    have e1 : H' * ((H + 1) * b) = (H + 1) * (H' * b) := Nat.mul_left_comm ..
    have a4 : H' * (H * a) ≤ (H + 1) * ((H' + 1) * c) := by omega
    have a5 : K * (H' * (H * a)) ≤ K * ((H + 1) * ((H' + 1) * c)) := Nat.mul_le_mul_left _ a4
    have e2 : K * (H' * (H * a)) = H * H' * (K * a) := by simp only [Nat.mul_assoc, Nat.mul_comm, Nat.mul_left_comm]
    have e3 : K * ((H + 1) * ((H' + 1) * c)) = (H + 1) * (H' + 1) * K * c := by
      generalize H + 1 = X; generalize H' + 1 = Y
      simp only [Nat.mul_assoc, Nat.mul_comm, Nat.mul_left_comm]
    have e4 : H * H' * (K + 1) * c = H * H' * ((K + 1) * c) := Nat.mul_assoc ..
    exact Nat.le_of_mul_le_mul_left (by omega : H * H' * (K * a) ≤ H * H' * ((K + 1) * c)) (Nat.mul_pos hH hH')
  refine ⟨key h.1 k.1, ?_⟩
  have hn' : (H' + 1) * (H + 1) * K ≤ H' * H * (K + 1) := by rw [Nat.mul_comm (H' + 1), Nat.mul_comm H']; exact hn
  have key' : ∀ {a b c : Nat}, H' * a ≤ (H' + 1) * b → H * b ≤ (H + 1) * c → K * a ≤ (K + 1) * c := fun {a b c} h1 h2 => by
    have a1 : H * (H' * a) ≤ H * ((H' + 1) * b) := Nat.mul_le_mul_left _ h1
    have a2 : (H' + 1) * (H * b) ≤ (H' + 1) * ((H + 1) * c) := Nat.mul_le_mul_left _ h2
    have a3 : (H + 1) * (H' + 1) * K * c ≤ H * H' * (K + 1) * c := Nat.mul_le_mul_right _ hn
    have e1 : H * ((H' + 1) * b) = (H' + 1) * (H * b) := Nat.mul_left_comm ..
    have a5 : K * (H * (H' * a)) ≤ K * ((H' + 1) * ((H + 1) * c)) := Nat.mul_le_mul_left _ (by omega)
    have e2 : K * (H * (H' * a)) = H * H' * (K * a) := by simp only [Nat.mul_assoc, Nat.mul_comm, Nat.mul_left_comm]
    have e3 : K * ((H' + 1) * ((H + 1) * c)) = (H + 1) * (H' + 1) * K * c := by
      generalize H + 1 = X; generalize H' + 1 = Y
      simp only [Nat.mul_assoc, Nat.mul_comm, Nat.mul_left_comm]
    have e4 : H * H' * (K + 1) * c = H * H' * ((K + 1) * c) := Nat.mul_assoc ..
    exact Nat.le_of_mul_le_mul_left (by omega : H * H' * (K * a) ≤ H * H' * ((K + 1) * c)) (Nat.mul_pos hH hH')
  exact key' k.2 h.2
abbrev E52 : Nat := 4503599627370496

theorem pow_lt_exp {a b : Nat} (h : 2 ^ a < 2 ^ b) : a < b := (Nat.pow_lt_pow_iff_right (by decide)).1 h
/-- Rounding, by what is rounded. -/
theorem nearest_close {m : Nat} {p : Int} (S : Nat) (hm : 0 < m) (hS : 1074 ≤ S) (hSp : 0 ≤ p + S) (hlo : 2 ^ (S - 1022) ≤ m * 2 ^ (p + S).toNat) (hhi : m * 2 ^ (p + S).toNat < 2 ^ (S + 1000)) :
    Fin0 (double.nearest false m p) ∧ E52 ≤ double.nearest false m p ∧ Close E52 (fv (double.nearest false m p) * 2 ^ (S - 1074)) (m * 2 ^ (p + S).toNat) := by
  have hm1 : 2 ^ m.log2 ≤ m := Nat.log2_self_le (by omega)
  have hm2 : m < 2 ^ (m.log2 + 1) := Nat.lt_log2_self
  have h1 : 2 ^ (S - 1022) < 2 ^ (m.log2 + 1 + (p + S).toNat) := by
    rw [Nat.pow_add]
    exact Nat.lt_of_le_of_lt hlo (Nat.mul_lt_mul_of_pos_right hm2 (Nat.two_pow_pos _))
  have h2 : 2 ^ (m.log2 + (p + S).toNat) < 2 ^ (S + 1000) := by
    rw [Nat.pow_add]
    exact Nat.lt_of_le_of_lt (Nat.mul_le_mul_right _ hm1) hhi
  have h3 := pow_lt_exp h1
  have h4 := pow_lt_exp h2
  obtain ⟨g1, g2, g3, g4⟩ := nearest_rel S hm hS hSp (by omega) (by omega)
  refine ⟨g1, g2, ?_⟩
  generalize fv (double.nearest false m p) * 2 ^ (S - 1074) = R at *
  generalize m * 2 ^ (p + S).toNat = N at *
  unfold Close E52
  exact ⟨by omega, by omega⟩

theorem pl_place (x : Nat) (S : Nat) (hS : 1074 ≤ S) : ((-1074 + (pl x : Int)) + S).toNat = pl x + (S - 1074) := by omega
/-- A sum. -/
theorem add_close {x y : Nat} (hx : Fin0 x) (hy : Fin0 y) (hlo : E52 ≤ fv x + fv y) (hhi : fv x + fv y < 2 ^ (1074 + 1000)) :
    ∃ r, double.add x y = some r ∧ Fin0 r ∧ E52 ≤ r ∧ Close E52 (fv r) (fv x + fv y) := by
  unfold Format.add
  rw [read_fin hx, read_fin hy]
  simp only [Datum.sum]
  generalize hb : min (-1074 + (pl x : Int)) (-1074 + (pl y : Int)) = b
  have e1 : signed false (sg x) (-1074 + (pl x : Int) - b).toNat = ((sg x * 2 ^ (-1074 + (pl x : Int) - b).toNat : Nat) : Int) := by simp [signed, Nat.shiftLeft_eq]
  have e2 : signed false (sg y) (-1074 + (pl y : Int) - b).toNat = ((sg y * 2 ^ (-1074 + (pl y : Int) - b).toNat : Nat) : Int) := by simp [signed, Nat.shiftLeft_eq]
  rw [e1, e2, ← Int.natCast_add]
  generalize hM : sg x * 2 ^ (-1074 + (pl x : Int) - b).toNat + sg y * 2 ^ (-1074 + (pl y : Int) - b).toNat = M
  have hval : M * 2 ^ (b + (1074 : Nat)).toNat = fv x + fv y := by
    rw [← hM, Nat.add_mul, Nat.mul_assoc, Nat.mul_assoc, ← Nat.pow_add, ← Nat.pow_add, fv_eq, fv_eq]
    have a1 : (-1074 + (pl x : Int) - b).toNat + (b + (1074 : Nat)).toNat = pl x := by omega
    have a2 : (-1074 + (pl y : Int) - b).toNat + (b + (1074 : Nat)).toNat = pl y := by omega
    rw [a1, a2]
  have hMpos : 0 < M := by
    apply Nat.pos_of_ne_zero
    intro h0
    rw [h0, Nat.zero_mul] at hval
    unfold E52 at hlo; omega
  have hz : ¬ ((M : Int) = 0) := by omega
  have hneg : ¬ ((M : Int) < 0) := by omega
  simp only [hz, if_false, hneg, decide_false, Int.natAbs_natCast, Option.map_some, Format.write]
  have hlo' : 2 ^ (1074 - 1022) ≤ M * 2 ^ (b + (1074 : Nat)).toNat := by rw [hval]; exact hlo
  obtain ⟨g1, g2, g3⟩ := nearest_close (m := M) (p := b) 1074 hMpos (Nat.le_refl _) (by omega) hlo' (by rw [hval]; exact hhi)
  refine ⟨_, rfl, g1, g2, ?_⟩
  rw [hval] at g3
  simpa using g3
/-- A product. -/
theorem mul_close {x y : Nat} (hx : Fin0 x) (hy : Fin0 y) (hlo : 2 ^ (2148 - 1022) ≤ fv x * fv y) (hhi : fv x * fv y < 2 ^ (2148 + 1000)) :
    ∃ r, double.mul x y = some r ∧ Fin0 r ∧ E52 ≤ r ∧ Close E52 (fv r * 2 ^ 1074) (fv x * fv y) := by
  unfold Format.mul
  rw [read_fin hx, read_fin hy]
  simp only [Datum.product, Bool.xor_self, Option.map_some, Format.write]
  have hval : sg x * sg y * 2 ^ ((-1074 + (pl x : Int) + (-1074 + (pl y : Int))) + (2148 : Nat)).toNat = fv x * fv y := by
    have a1 : ((-1074 + (pl x : Int) + (-1074 + (pl y : Int))) + (2148 : Nat)).toNat = pl x + pl y := by omega
    rw [a1, fv_eq, fv_eq, Nat.pow_add]
    simp only [Nat.mul_assoc, Nat.mul_comm, Nat.mul_left_comm]
  have hpos : 0 < sg x * sg y := by
    apply Nat.pos_of_ne_zero
    intro h0
    rw [h0, Nat.zero_mul] at hval
    rw [← hval] at hlo
    have := Nat.two_pow_pos (2148 - 1022)
    omega
  obtain ⟨g1, g2, g3⟩ := nearest_close (m := sg x * sg y) (p := -1074 + (pl x : Int) + (-1074 + (pl y : Int))) 2148 hpos (by decide) (by omega) (by rw [hval]; exact hlo) (by rw [hval]; exact hhi)
  refine ⟨_, rfl, g1, g2, ?_⟩
  rw [hval, show (2148 - 1074 : Nat) = 1074 from rfl] at g3
  exact g3
theorem mul_zero0 {y : Nat} (hy : Fin0 y) : double.mul 0 y = some 0 := by
  have h0 : Fin0 0 := by unfold Fin0; decide
  have e0 : sg 0 = 0 := rfl
  unfold Format.mul
  rw [read_fin h0, read_fin hy]
  simp only [Datum.product, Bool.xor_self, Option.map_some, Format.write, e0, Nat.zero_mul]
  unfold Format.nearest Format.word
  simp
end Go.VG
