/- The code's test of one component. Plain. -/
import Derived.Test.YtaghjfegbooceaaDoorPlCls
set_option linter.all false
namespace Go.VG
section
variable {T : List (List (List Int))}
theorem compTog (h : RingOK T) {m : Nat} (hm : m < 2 ^ T.length) {i j : Nat} (hi : i < T.length) (hj : j < T.length) : p_impl_Ring_components_c1 (i : Int) (j : Int) (grid (supI T) T.length T.length) (duL T) (m : Int) = some (rbC T m i j) := by
  have hn := h.n16
  have hd := h.duN hi
  have e1 : idx (grid (supI T) T.length T.length) (du T i) = some (rowG (supI T) T.length (du T i).toNat) := by rw [du_nat h hi, Int.toNat_natCast]; exact grid_idx hd
  have e3 : (2 : Nat) ^ 62 = 4611686018427387904 := by decide
  have e4 : (2 : Nat) ^ 63 = 9223372036854775808 := by decide
  have hs := lt_pow_mono (supp_lt (T := T) (du T i).toNat j) (by omega : T.length ≤ 62)
  have hm' := lt_pow_mono hm (by omega : T.length ≤ 62)
  unfold p_impl_Ring_components_c1
  simp only [duL_idx hi, e1, rowG_idx hj, Option.bind_some, supI]
  rw [and_i64 (by omega) (by omega)]
  congr 1
  rw [Bool.eq_iff_iff, rbC_iff]
  have : (((supp T (du T i).toNat j &&& m : Nat) : Int) != 0) = true ↔ (supp T (du T i).toNat j &&& m) ≠ 0 := by simp
  rw [this]
  constructor
  · intro hne
    obtain ⟨k, hk⟩ := Nat.exists_testBit_of_ne_zero hne
    rw [Nat.testBit_and, Bool.and_eq_true, supp_bit] at hk
    obtain ⟨⟨k1, k2⟩, k3⟩ := hk
    refine ⟨k, k1, k3, hj, ?_⟩
    rw [(h.turn i hi k k1 j hj).1]; exact k2
  · rintro ⟨k, k1, k2, _, k3⟩ h0
    have : (supp T (du T i).toNat j &&& m).testBit k = true := by
      rw [Nat.testBit_and, Bool.and_eq_true, supp_bit]
      exact ⟨⟨k1, by rw [← (h.turn i hi k k1 j hj).1]; exact k3⟩, k2⟩
    rw [h0] at this; simp at this
end
end Go.VG
