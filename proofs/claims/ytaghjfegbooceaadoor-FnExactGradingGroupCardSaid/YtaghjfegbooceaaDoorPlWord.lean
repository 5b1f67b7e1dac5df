/- Words of labels: or, one label's bit, within. Plain. -/
import Derived.Test.YtaghjfegbooceaaDoorPlIn
set_option linter.all false
namespace Go.VG

theorem or_i64 {a b : Nat} (ha : a < 2 ^ 62) (hb : b < 2 ^ 62) : orI .i64 (a : Int) (b : Int) = ((a ||| b : Nat) : Int) := by
  unfold orI
  have e : IntKind.i64.bits = 64 := rfl
  have e2 : (2 : Nat) ^ 64 = 18446744073709551616 := by decide
  have e3 : (2 : Nat) ^ 62 = 4611686018427387904 := by decide
  have e4 : a ||| b < 2 ^ 62 := Nat.or_lt_two_pow ha hb
  rw [e, BitVec.toNat_or, BitVec.ofInt_natCast, BitVec.ofInt_natCast, BitVec.toNat_ofNat, BitVec.toNat_ofNat, Nat.mod_eq_of_lt (by omega), Nat.mod_eq_of_lt (by omega)]
  exact wrap_id (inR_i64.2 (by omega))

theorem shl_word {k : Nat} (hk : k ≤ 61) : shlI .i64 (1 : Int) (k : Int) = some ((2 ^ k : Nat) : Int) := by
  unfold shlI
  have e3 : (2 : Nat) ^ 62 = 4611686018427387904 := by decide
  have e4 : 2 ^ k < 2 ^ 62 := Nat.pow_lt_pow_right (by decide) (by omega)
  have e : min (k : Int).toNat IntKind.i64.bits = k := by
    have : IntKind.i64.bits = 64 := rfl
    rw [this, Int.toNat_natCast]; omega
  rw [if_pos (by omega), e, Int.one_mul]
  have e5 : ((2 : Int) ^ k) = ((2 ^ k : Nat) : Int) := by simp
  rw [e5]
  generalize 2 ^ k = q at e4
  rw [wrap_id (inR_i64.2 (by omega))]

/-- Words alike bit for bit below n, both below 2^n, are the same. -/
theorem word_ext {a b n : Nat} (ha : a < 2 ^ n) (hb : b < 2 ^ n) (h : ∀ i, i < n → a.testBit i = b.testBit i) : a = b := by
  apply Nat.eq_of_testBit_eq
  intro i
  by_cases hi : i < n
  · exact h i hi
  · have e : 2 ^ n ≤ 2 ^ i := Nat.pow_le_pow_right (by decide) (by omega)
    rw [Nat.testBit_lt_two_pow (Nat.lt_of_lt_of_le ha e), Nat.testBit_lt_two_pow (Nat.lt_of_lt_of_le hb e)]

theorem or_bit (a k i : Nat) : (a ||| 2 ^ k).testBit i = (a.testBit i || decide (k = i)) := by
  rw [Nat.testBit_or, Nat.testBit_two_pow]

theorem mem_bitsFrom {m n : Nat} {x : Int} : x ∈ bitsFrom m 0 n ↔ ∃ i : Nat, i < n ∧ m.testBit i = true ∧ x = i := by
  unfold bitsFrom
  simp only [List.mem_map, List.mem_filter, List.mem_range'_1]
  constructor
  · rintro ⟨i, ⟨⟨_, h1⟩, h2⟩, rfl⟩
    exact ⟨i, by omega, h2, rfl⟩
  · rintro ⟨i, h1, h2, rfl⟩
    exact ⟨i, ⟨⟨by omega, by omega⟩, h2⟩, rfl⟩

theorem shr_word {m i : Nat} (hm : m < 2 ^ 62) (hi : i ≤ 61) : shrI .i64 (m : Int) (i : Int) = some ((m / 2 ^ i : Nat) : Int) := by
  unfold shrI
  have e : min (i : Int).toNat IntKind.i64.bits = i := by
    have : IntKind.i64.bits = 64 := rfl
    rw [this, Int.toNat_natCast]; omega
  rw [if_pos (by omega), e]
  have e5 : ((2 : Int) ^ i) = ((2 ^ i : Nat) : Int) := by simp
  rw [e5, Int.fdiv_eq_ediv_of_nonneg _ (Int.natCast_nonneg _)]
  rfl

theorem specBit {m i : Nat} (hm : m < 2 ^ 62) (hi : i ≤ 61) : p_spec_l05Bit (m : Int) (i : Int) = some (m.testBit i) := by
  have e3 : (2 : Nat) ^ 62 = 4611686018427387904 := by decide
  have w : IntKind.u64.wrap (i : Int) = i := wrap_nat (by omega)
  have hd : m / 2 ^ i ≤ m := Nat.div_le_self _ _
  simp only [p_spec_l05Bit, w, shr_word hm hi, Option.bind_some]
  have e4 : (2 : Nat) ^ 63 = 9223372036854775808 := by decide
  have a : andI .i64 ((m / 2 ^ i : Nat) : Int) 1 = ((m / 2 ^ i &&& 1 : Nat) : Int) := and_i64 (b := 1) (by omega) (by omega)
  rw [a, Nat.and_one_is_mod, Nat.testBit_eq_decide_div_mod_eq]
  generalize m / 2 ^ i % 2 = r
  congr 1
  rw [Bool.eq_iff_iff, decide_eq_true_iff, beq_iff_eq]
  exact ⟨fun h => by omega, fun h => by omega⟩

end Go.VG
