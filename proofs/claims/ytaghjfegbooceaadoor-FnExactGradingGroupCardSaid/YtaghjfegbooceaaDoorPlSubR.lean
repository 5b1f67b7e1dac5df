/- The ring of a subring: the code's table and the model's. Plain. -/
import Derived.Test.YtaghjfegbooceaaDoorPlCube
import Derived.Test.YtaghjfegbooceaaDoorPlPop
set_option linter.all false
namespace Go.VG
/-- The a-th label of a word. -/
def ln (m n a : Nat) : Nat := (labN m n).getD a 0
def kn (m n : Nat) : Nat := (labN m n).length
/-- The table, on the labels of a word alone. -/
def subT (T : List (List (List Int))) (m : Nat) : List (List (List Int)) := cubeG (fun a b c => at3 T (ln m T.length a) (ln m T.length b) (ln m T.length c)) (kn m T.length) (kn m T.length) (kn m T.length)
section
variable {T : List (List (List Int))}
theorem ln_at {m n a : Nat} (h : a < kn m n) : ln m n a < n ∧ m.testBit (ln m n a) = true := labN_at h
theorem kn_le (m n : Nat) : kn m n ≤ n := labN_len_le m n
theorem bits_ln {m n a : Nat} (h : a < kn m n) : idx (bitsFrom m 0 n) (a : Int) = some ((ln m n a : Nat) : Int) := bits_idx h
theorem bits_succ (m n : Nat) : bitsFrom m 0 (n + 1) = bitsFrom m 0 n ++ (if m.testBit n = true then [(n : Int)] else []) := by
  rw [bits_labN, bits_labN, labN_succ, List.map_append]
  congr 1
  split <;> rfl
theorem specLabs (h : Cube T) {m : Nat} (hm : m < 2 ^ T.length) : p_spec_l05Labels T (m : Int) = some (bitsFrom m 0 T.length) := by
  have hn := h.1
  unfold p_spec_l05Labels
  have := forN_det (R := Unit) (N := T.length) (body := fun k s => p_spec_l05Labels_L1 (m : Int) k s) (fun j => bitsFrom m 0 j) (fun j hj => by
    have hb : p_spec_l05Bit (m : Int) (j : Int) = some (m.testBit j) := specBit (lt_pow_mono hm (by omega)) (by omega)
    have hl := labN_len_le m j
    simp only [p_spec_l05Labels_L1, hb, Option.bind_some, bits_succ]
    by_cases hmj : m.testBit j = true
    · simp only [hmj, if_true]
      unfold appL
      rw [if_pos (by rw [bits_len]; simp; omega)]
      rfl
    · simp only [hmj, Bool.false_eq_true, if_false, List.append_nil]
      rfl)
  have e0 : bitsFrom m 0 0 = [] := rfl
  rw [e0] at this
  rw [this]
  rfl
theorem bits_kn (m n : Nat) : (bitsFrom m 0 n).length = kn m n := bits_len m n
theorem emptyCube_eq {k : Nat} (hk : k ≤ 16) : p_impl_emptyCube (k : Int) = some (cubeG (fun _ _ _ => 0) k k k) := by
  unfold p_impl_emptyCube
  rw [Int.toNat_natCast]
  rw [forN_app (R := Unit) (N := k) (body := fun j s => p_impl_emptyCube_L1 (k : Int) j s) (fun _ => grid (fun _ _ => (0 : Int)) k k) (fun j hj => by
    simp only [p_impl_emptyCube_L1, implZeros (by omega : k ≤ 1048576) (by omega : k ≤ 1048576), Option.bind_some, app_range (fun _ => grid (fun _ _ => (0 : Int)) k k) (by omega : j ≤ 1048576)])]
  rfl
theorem ringOf_eq (h : Cube T) {m : Nat} (hm : m < 2 ^ T.length) : p_impl_Ring_ringOf T (m : Int) = some (subT T m) := by
  have hn := h.1
  have e3 : (2 : Nat) ^ 16 = 65536 := by decide
  have hm16 : m < 2 ^ 16 := lt_pow_mono hm (by omega)
  have hk := kn_le m T.length
  unfold p_impl_Ring_ringOf
  have w : IntKind.u64.wrap (m : Int) = m := wrap_nat (by omega)
  rw [labels_eq (by omega : T.length ≤ 63) hm, w]
  simp only [Option.bind_some, ones_eq (by omega : T.length ≤ 16) hm]
  rw [show ((labN m T.length).length : Int) = ((kn m T.length : Nat) : Int) from rfl, emptyCube_eq (by omega)]
  simp only [Option.bind_some, bits_kn]
  rw [fill3 (α := Int) (a := kn m T.length) (b := kn m T.length) (c := kn m T.length) (L1 := fun k s => p_impl_Ring_ringOf_L1 (bitsFrom m 0 T.length) T (m : Int) k s) (L2 := fun i k s => p_impl_Ring_ringOf_L2 (bitsFrom m 0 T.length) i T ((ln m T.length i : Nat) : Int) (m : Int) k s) (L3 := fun i j k s => p_impl_Ring_ringOf_L3 (bitsFrom m 0 T.length) i j T ((ln m T.length i : Nat) : Int) ((ln m T.length j : Nat) : Int) (m : Int) k s) (fun _ _ _ => 0) (fun a b c => at3 T (ln m T.length a) (ln m T.length b) (ln m T.length c))
    (fun i hi j hj k hk g hg => by
      simp only [p_impl_Ring_ringOf_L3, bits_ln hk, cubeG_idx hi, grid_idx hj, rowG_idx hk, h.i1 (ln_at hi).1, h.i2 (ln_at hi).1 (ln_at hj).1, h.i3 (ln_at hi).1 (ln_at hj).1 (ln_at hk).1, Option.bind_some, Int.toNat_natCast]
      rw [cubeG_set hi hj hk])
    (fun i hi j hj g => by
      simp only [p_impl_Ring_ringOf_L2, bits_ln hj, Option.bind_some, bits_kn])
    (fun i hi g => by
      simp only [p_impl_Ring_ringOf_L1, bits_ln hi, Option.bind_some, bits_kn])]
  rfl
theorem specRing (h : Cube T) {m : Nat} (hm : m < 2 ^ T.length) : p_spec_l05Ring T (m : Int) = some (subT T m) := by
  have hn := h.1
  have hk := kn_le m T.length
  unfold p_spec_l05Ring
  rw [specLabs h hm]
  simp only [Option.bind_some, bits_kn]
  have := forN_app (R := Unit) (N := kn m T.length) (body := fun k s => p_spec_l05Ring_L1 (bitsFrom m 0 T.length) T k s) (fun a => grid (fun b c => at3 T (ln m T.length a) (ln m T.length b) (ln m T.length c)) (kn m T.length) (kn m T.length)) (fun a ha => by
    simp only [p_spec_l05Ring_L1, bits_kn]
    have := forN_app (R := Unit) (N := kn m T.length) (body := fun k s => p_spec_l05Ring_L2 (bitsFrom m 0 T.length) a T k s) (fun b => rowG (fun b c => at3 T (ln m T.length a) (ln m T.length b) (ln m T.length c)) (kn m T.length) b) (fun b hb => by
      simp only [p_spec_l05Ring_L2, bits_kn]
      have := forN_app (R := Unit) (N := kn m T.length) (body := fun k s => p_spec_l05Ring_L3 (bitsFrom m 0 T.length) a T b k s) (fun c => at3 T (ln m T.length a) (ln m T.length b) (ln m T.length c)) (fun c hc => by
        simp only [p_spec_l05Ring_L3, bits_ln ha, bits_ln hb, bits_ln hc, h.i1 (ln_at ha).1, h.i2 (ln_at ha).1 (ln_at hb).1, h.i3 (ln_at ha).1 (ln_at hb).1 (ln_at hc).1, Option.bind_some, app_range (fun c => at3 T (ln m T.length a) (ln m T.length b) (ln m T.length c)) (by omega : c ≤ 1048576)])
      have this' : forN (R := Unit) (fun k s => p_spec_l05Ring_L3 (bitsFrom m 0 T.length) a T b k s) (kn m T.length) 0 [] = _ := this
      rw [this']
      simp only [Option.bind_some, onRes]
      have e := app_range (fun b => rowG (fun b c => at3 T (ln m T.length a) (ln m T.length b) (ln m T.length c)) (kn m T.length) b) (by omega : b ≤ 1048576)
      have e' : appL (List.map (fun b => rowG (fun b c => at3 T (ln m T.length a) (ln m T.length b) (ln m T.length c)) (kn m T.length) b) (List.range b)) [List.map (fun c => at3 T (ln m T.length a) (ln m T.length b) (ln m T.length c)) (List.range (kn m T.length))] = _ := e
      rw [e']
      rfl)
    have this' : forN (R := Unit) (fun k s => p_spec_l05Ring_L2 (bitsFrom m 0 T.length) a T k s) (kn m T.length) 0 [] = _ := this
    rw [this']
    simp only [Option.bind_some, onRes]
    have e := app_range (fun a => grid (fun b c => at3 T (ln m T.length a) (ln m T.length b) (ln m T.length c)) (kn m T.length) (kn m T.length)) (by omega : a ≤ 1048576)
    have e' : appL (List.map (fun a => grid (fun b c => at3 T (ln m T.length a) (ln m T.length b) (ln m T.length c)) (kn m T.length) (kn m T.length)) (List.range a)) [List.map (fun b => rowG (fun b c => at3 T (ln m T.length a) (ln m T.length b) (ln m T.length c)) (kn m T.length) b) (List.range (kn m T.length))] = _ := e
    rw [e']
    rfl)
  have this' : forN (R := Unit) (fun k s => p_spec_l05Ring_L1 (bitsFrom m 0 T.length) T k s) (kn m T.length) 0 [] = _ := this
  rw [this']
  rfl
end
end Go.VG
