/- labelsIn: a word's labels, lowest first. Plain. -/
import Derived.Test.YtaghjfegbooceaaDoorGPure
import Derived.Test.YtaghjfegbooceaaDoorPlBits
import Derived.Test.YtaghjfegbooceaaDoorVgTab
set_option linter.all false
namespace Go.VG

/-- The labels of a word below s + n, from s on. -/
def bitsFrom (m s n : Nat) : List Int := ((List.range' s n).filter (m.testBit ·)).map Int.ofNat
theorem and_i64 {a b : Nat} (ha : a < 2 ^ 63) (hb : b < 2 ^ 63) : andI .i64 (a : Int) (b : Int) = ((a &&& b : Nat) : Int) := by
  unfold andI
  have e : IntKind.i64.bits = 64 := rfl
  have e2 : (2 : Nat) ^ 64 = 18446744073709551616 := by decide
  have e3 : (2 : Nat) ^ 63 = 9223372036854775808 := by decide
  rw [e, BitVec.toNat_and, BitVec.ofInt_natCast, BitVec.ofInt_natCast, BitVec.toNat_ofNat, BitVec.toNat_ofNat, Nat.mod_eq_of_lt (by omega), Nat.mod_eq_of_lt (by omega)]
  have : a &&& b ≤ a := Nat.and_le_left
  exact wrap_id (inR_i64.2 (by omega))

theorem labels_loop : ∀ (n s : Nat) (acc : List Int) (m : Nat), s + n ≤ 63 → acc.length ≤ s → m < 2 ^ (s + n) → (∀ i, i < s → m.testBit i = false) →
    ∃ k, iterW (R := Unit) (fun t => p_impl_labelsIn_L1 t.1 t.2) k (acc, (m : Int)) = some (.fin (acc ++ bitsFrom m s n, 0))
  | 0, s, acc, m, hs, ha, hm, hl => by
    obtain rfl := no_bits hm hl
    refine ⟨1, iterW_brk ?_⟩
    simp [p_impl_labelsIn_L1, bitsFrom]
  | n + 1, s, acc, m, hs, ha, hm, hl => by
    have e3 : (2 : Nat) ^ 63 = 9223372036854775808 := by decide
    have hm63 : m < 2 ^ 63 := Nat.lt_of_lt_of_le hm (Nat.pow_le_pow_right (by decide) hs)
    have hm64 : m < 2 ^ 64 := Nat.lt_of_lt_of_le hm63 (Nat.pow_le_pow_right (by decide) (by decide))
    by_cases hb : m.testBit s = true
    · have h0 : m ≠ 0 := by intro e; subst e; simp at hb
      obtain ⟨hc, _⟩ := ctz_is hm64 hb hl
      obtain ⟨hle, hbit⟩ := clear_low hm64 hb hl
      obtain ⟨k, hk⟩ := labels_loop n (s + 1) (acc ++ [(s : Int)]) (m &&& (m - 1)) (by omega) (by simp; omega) (Nat.lt_of_le_of_lt hle (by rw [show s + 1 + n = s + (n + 1) by omega]; exact hm)) (fun i hi => by
        rw [hbit]
        by_cases e : i = s
        · simp [e]
        · rw [hl i (by omega)]; rfl)
      refine ⟨k + 1, iterW_next (s' := (acc ++ [(s : Int)], ((m &&& (m - 1) : Nat) : Int))) ?_ ?_⟩
      · have w : IntKind.u64.wrap (m : Int) = m := wrap_nat (by omega)
        have t : tz64 (m : Int) = s := by unfold tz64; rw [if_neg (by omega), Int.toNat_natCast, hc]
        have d : w64 ((m : Int) - 1) = ((m - 1 : Nat) : Int) := by rw [w64_id (inR_i64.2 (by omega))]; omega
        simp only [p_impl_labelsIn_L1, p_math_bits_TrailingZeros64]
        rw [if_pos (by simp; omega), w, t, d, and_i64 hm63 (by omega)]
        simp only [Option.bind_some]
        unfold appL
        rw [if_pos (by simp; omega)]
        rfl
      · rw [hk]
        have : bitsFrom m s (n + 1) = (s : Int) :: bitsFrom (m &&& (m - 1)) (s + 1) n := by
          unfold bitsFrom
          rw [List.range'_succ, List.filter_cons_of_pos (by simpa using hb), List.map_cons]
          congr 2
          apply List.filter_congr
          intro i hi
          have := List.mem_range'_1.1 hi
          rw [hbit]; simp; omega
        rw [this]; simp
    · have hb' : m.testBit s = false := by simpa using hb
      obtain ⟨k, hk⟩ := labels_loop n (s + 1) acc m (by omega) (by omega) (by rw [show s + 1 + n = s + (n + 1) by omega]; exact hm) (fun i hi => by
        by_cases e : i = s
        · rw [e]; exact hb'
        · exact hl i (by omega))
      refine ⟨k, ?_⟩
      rw [hk]
      unfold bitsFrom
      rw [List.range'_succ, List.filter_cons_of_neg (by simp [hb'])]

/-- labelsIn of a word below 2^n. -/
theorem labels_eq {m n : Nat} (hn : n ≤ 63) (hm : m < 2 ^ n) : p_impl_labelsIn (m : Int) = some (bitsFrom m 0 n) := by
  obtain ⟨k, hk⟩ := labels_loop n 0 [] m (by omega) (by simp) (by simpa using hm) (fun i hi => absurd hi (by omega))
  unfold p_impl_labelsIn
  rw [whileC_of hk]
  simp [onRes]

end Go.VG
