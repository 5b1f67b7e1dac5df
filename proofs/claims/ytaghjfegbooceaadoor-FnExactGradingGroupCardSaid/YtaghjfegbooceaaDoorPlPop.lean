/- How many labels a word has: the code's count of ones. Plain. -/
import Derived.Test.YtaghjfegbooceaaDoorPlSub
set_option linter.all false
namespace Go.VG
def popA (x : Nat) : Nat := Nat.land (x / 2) 6148914691236517205 + Nat.land x 6148914691236517205
def popB (a : Nat) : Nat := Nat.land (a / 4) 3689348814741910323 + Nat.land a 3689348814741910323
def popC (b : Nat) : Nat := Nat.land (b / 16 + b) 1085102592571150095
def popD (c : Nat) : Nat := c + c / 256
def popE (d : Nat) : Nat := d + d / 65536
def popF (e : Nat) : Nat := e + e / 4294967296
def pop (x : Nat) : Nat := Nat.land (popF (popE (popD (popC (popB (popA x)))))) 127
def allB (p : Nat → Bool) : Nat → Bool
  | 0 => true
  | n + 1 => p n && allB p n
theorem allB_at {p : Nat → Bool} : ∀ {n : Nat}, allB p n = true → ∀ i, i < n → p i = true
  | 0, _, i, hi => by omega
  | n + 1, h, i, hi => by
    simp only [allB, Bool.and_eq_true] at h
    by_cases e : i = n
    · subst e; exact h.1
    · exact allB_at h.2 i (by omega)
set_option maxRecDepth 100000 in
theorem pop_tab : allB (fun h => allB (fun l => Nat.beq (pop (512 * h + 2 * l)) (pop (256 * h + l)) && Nat.beq (pop (512 * h + 2 * l + 1)) (Nat.succ (pop (256 * h + l)))) 256) 128 = true := by decide +kernel
theorem pop_step {x : Nat} (hx : x < 32768) : pop (2 * x) = pop x ∧ pop (2 * x + 1) = pop x + 1 := by
  have := allB_at (allB_at pop_tab (x / 256) (by omega)) (x % 256) (Nat.mod_lt _ (by decide))
  simp only [Bool.and_eq_true] at this
  have e1 : 512 * (x / 256) + 2 * (x % 256) = 2 * x := by omega
  have e2 : 256 * (x / 256) + x % 256 = x := by omega
  rw [e1, e2] at this
  exact ⟨Nat.eq_of_beq_eq_true this.1, Nat.eq_of_beq_eq_true this.2⟩
/-- The bits of m below n, counted. -/
def cntB (m : Nat) : Nat → Nat
  | 0 => 0
  | n + 1 => cntB m n + (m / 2 ^ n) % 2
theorem cntB_half (x : Nat) : ∀ n, cntB x (n + 1) = x % 2 + cntB (x / 2) n
  | 0 => by simp [cntB]
  | n + 1 => by
    have ih := cntB_half x n
    rw [show cntB x (n + 1 + 1) = cntB x (n + 1) + (x / 2 ^ (n + 1)) % 2 from rfl, ih]
    rw [show cntB (x / 2) (n + 1) = cntB (x / 2) n + (x / 2 / 2 ^ n) % 2 from rfl]
    rw [Nat.div_div_eq_div_mul, ← Nat.pow_succ', Nat.succ_eq_add_one]
    omega
theorem pop_cnt : ∀ (n x : Nat), n ≤ 16 → x < 2 ^ n → pop x = cntB x n
  | 0, x, _, hx => by
    have : x = 0 := by simpa using hx
    subst this; decide
  | n + 1, x, hn, hx => by
    have h15 : 2 ^ n ≤ 2 ^ 15 := Nat.pow_le_pow_right (by decide) (by omega)
    have e15 : (2 : Nat) ^ 15 = 32768 := by decide
    rw [Nat.pow_succ] at hx
    have ih := pop_cnt n (x / 2) (by omega) (by omega)
    have st := pop_step (x := x / 2) (by omega)
    rw [cntB_half, ← ih]
    rcases Nat.mod_two_eq_zero_or_one x with h | h
    · have : x = 2 * (x / 2) := by omega
      rw [h, ← st.1, ← this]; omega
    · have : x = 2 * (x / 2) + 1 := by omega
      rw [h, Nat.add_comm 1, ← st.2, ← this]
theorem labN_succ (m n : Nat) : labN m (n + 1) = labN m n ++ (if m.testBit n = true then [n] else []) := by
  unfold labN
  rw [List.range'_concat, List.filter_append]
  congr 1
  simp only [Nat.one_mul, Nat.zero_add]
  split <;> rename_i h <;> simp [h]
theorem labN_len (m : Nat) : ∀ n, (labN m n).length = cntB m n
  | 0 => rfl
  | n + 1 => by
    rw [labN_succ, List.length_append, labN_len m n]
    simp only [cntB]
    congr 1
    rw [Nat.testBit_eq_decide_div_mod_eq]
    have : m / 2 ^ n % 2 < 2 := Nat.mod_lt _ (by decide)
    by_cases h : m / 2 ^ n % 2 = 1
    · simp [h]
    · have : m / 2 ^ n % 2 = 0 := by omega
      simp [this]

/-! ### The code's formula -/
def oA (x : Int) : Int := IntKind.u64.wrap ((andI .u64 ((x).fdiv (2 ^ 1)) (6148914691236517205 : Int)) + (andI .u64 x (6148914691236517205 : Int)))
def oB (a : Int) : Int := IntKind.u64.wrap ((andI .u64 ((a).fdiv (2 ^ 2)) (3689348814741910323 : Int)) + (andI .u64 a (3689348814741910323 : Int)))
def oC (b : Int) : Int := andI .u64 (IntKind.u64.wrap (((b).fdiv (2 ^ 4)) + b)) (1085102592571150095 : Int)
def oD (c : Int) : Int := IntKind.u64.wrap (c + (c).fdiv (2 ^ 8))
def oE (c : Int) : Int := IntKind.u64.wrap (c + (c).fdiv (2 ^ 16))
def oF (c : Int) : Int := IntKind.u64.wrap (c + (c).fdiv (2 ^ 32))
theorem ones_form (x : Int) : p_math_bits_OnesCount64 x = some (andI .i64 (w64 (oF (oE (oD (oC (oB (oA x))))))) 127) := rfl
theorem and_u {a b : Nat} (ha : a < 18446744073709551616) (hb : b < 18446744073709551616) : andI .u64 (a : Int) (b : Int) = ((Nat.land a b : Nat) : Int) := by
  unfold andI
  rw [and_nat ha hb]
  have : a &&& b ≤ a := Nat.and_le_left
  exact wrap_nat (by omega)
theorem and_c {a : Nat} {c : Int} (b : Nat) (hc : c = (b : Int)) (ha : a < 18446744073709551616) (hb : b < 18446744073709551616) : andI .u64 (a : Int) c = ((Nat.land a b : Nat) : Int) := by
  rw [hc]; exact and_u ha hb
theorem land_le (a b : Nat) : Nat.land a b ≤ a := Nat.and_le_left (n := a) (m := b)
theorem fdivN (a k : Nat) : (a : Int).fdiv (2 ^ k) = ((a / 2 ^ k : Nat) : Int) := by
  have e5 : ((2 : Int) ^ k) = ((2 ^ k : Nat) : Int) := by simp
  rw [e5, Int.fdiv_eq_ediv_of_nonneg _ (Int.natCast_nonneg _)]
  rfl
theorem oA_eq {x : Nat} (h : x < 65536) : oA (x : Int) = ((popA x : Nat) : Int) ∧ popA x < 131072 := by
  have l1 := land_le (x / 2) 6148914691236517205
  have l2 := land_le x 6148914691236517205
  refine ⟨?_, by unfold popA; omega⟩
  unfold oA popA
  rw [fdivN, and_c (c := 6148914691236517205) 6148914691236517205 rfl (by omega) (by omega), and_c (c := 6148914691236517205) 6148914691236517205 rfl (by omega) (by omega), ← Int.natCast_add]
  exact wrap_nat (by simp only [Nat.pow_one]; omega)
theorem oB_eq {x : Nat} (h : x < 131072) : oB (x : Int) = ((popB x : Nat) : Int) ∧ popB x < 262144 := by
  have l1 := land_le (x / 4) 3689348814741910323
  have l2 := land_le x 3689348814741910323
  refine ⟨?_, by unfold popB; omega⟩
  unfold oB popB
  rw [fdivN, show (2 : Nat) ^ 2 = 4 from rfl, and_c (c := 3689348814741910323) 3689348814741910323 rfl (by omega) (by omega), and_c (c := 3689348814741910323) 3689348814741910323 rfl (by omega) (by omega), ← Int.natCast_add]
  exact wrap_nat (by omega)
theorem oC_eq {x : Nat} (h : x < 262144) : oC (x : Int) = ((popC x : Nat) : Int) ∧ popC x < 524288 := by
  have l1 := land_le (x / 16 + x) 1085102592571150095
  refine ⟨?_, by unfold popC; omega⟩
  unfold oC popC
  rw [fdivN, show (2 : Nat) ^ 4 = 16 from rfl, ← Int.natCast_add, wrap_nat (by omega), and_c (c := 1085102592571150095) 1085102592571150095 rfl (by omega) (by omega)]
theorem oD_eq {x : Nat} (h : x < 524288) : oD (x : Int) = ((popD x : Nat) : Int) ∧ popD x < 1048576 := by
  refine ⟨?_, by unfold popD; omega⟩
  unfold oD popD
  rw [fdivN, show (2 : Nat) ^ 8 = 256 from rfl, ← Int.natCast_add]
  exact wrap_nat (by omega)
theorem oE_eq {x : Nat} (h : x < 1048576) : oE (x : Int) = ((popE x : Nat) : Int) ∧ popE x < 2097152 := by
  refine ⟨?_, by unfold popE; omega⟩
  unfold oE popE
  rw [fdivN, show (2 : Nat) ^ 16 = 65536 from rfl, ← Int.natCast_add]
  exact wrap_nat (by omega)
theorem oF_eq {x : Nat} (h : x < 2097152) : oF (x : Int) = ((popF x : Nat) : Int) ∧ popF x < 4194304 := by
  refine ⟨?_, by unfold popF; omega⟩
  unfold oF popF
  rw [fdivN, show (2 : Nat) ^ 32 = 4294967296 from by decide, ← Int.natCast_add]
  exact wrap_nat (by omega)
theorem ones_eq {m n : Nat} (hn : n ≤ 16) (hm : m < 2 ^ n) : p_math_bits_OnesCount64 (m : Int) = some (((labN m n).length : Nat) : Int) := by
  have e16 : (2 : Nat) ^ 16 = 65536 := by decide
  have hm16 : m < 2 ^ 16 := lt_pow_mono hm hn
  rw [labN_len, ← pop_cnt n m hn hm, ones_form]
  obtain ⟨a1, a2⟩ := oA_eq (x := m) (by omega)
  obtain ⟨b1, b2⟩ := oB_eq a2
  obtain ⟨c1, c2⟩ := oC_eq b2
  obtain ⟨d1, d2⟩ := oD_eq c2
  obtain ⟨e1, e2⟩ := oE_eq d2
  obtain ⟨f1, f2⟩ := oF_eq e2
  rw [a1, b1, c1, d1, e1, f1, w64_small (by omega) (by omega)]
  have e63 : (2 : Nat) ^ 63 = 9223372036854775808 := by decide
  congr 1
  exact and_i64 (b := 127) (by omega) (by omega)
end Go.VG
