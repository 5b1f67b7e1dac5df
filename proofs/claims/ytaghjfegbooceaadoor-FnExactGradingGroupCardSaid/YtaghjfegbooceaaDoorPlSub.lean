/- Sets of labels of a ring: supports, one round of closing, the least subring. Plain. -/
import Derived.Test.YtaghjfegbooceaaDoorPlRing2
import Derived.Test.YtaghjfegbooceaaDoorPlFill
import Derived.Test.YtaghjfegbooceaaDoorPlOrs
import Derived.Test.YtaghjfegbooceaaDoorPlLoops
set_option linter.all false
namespace Go.VG

theorem orW {a b n : Nat} (hn : n ≤ 62) (ha : a < 2 ^ n) (hb : b < 2 ^ n) : orI .i64 (a : Int) (b : Int) = ((a ||| b : Nat) : Int) := or_i64 (lt_pow_mono ha hn) (lt_pow_mono hb hn)
theorem u64_lab {k : Nat} (h : k ≤ 62) : IntKind.u64.wrap (k : Int) = (k : Int) := wrap_nat (by omega)

def supp (T : List (List (List Int))) (i j : Nat) : Nat := wd (fun k => decide (0 < at3 T i j k)) T.length
def supI (T : List (List (List Int))) (i j : Nat) : Int := (supp T i j : Int)
def sprG (T : List (List (List Int))) (m i : Nat) : Nat := 2 ^ (du T i).toNat ||| orS m T.length (fun j => supp T i j)
/-- A set with 0, its labels' duals, and the labels of its products. -/
def spr (T : List (List (List Int))) (m : Nat) : Nat := m ||| 1 ||| orS m T.length (sprG T m)
def clN (T : List (List (List Int))) : Nat → Nat → Nat
  | 0, m => m
  | c + 1, m => clN T c (spr T m)
def cl (T : List (List (List Int))) (m : Nat) : Nat := clN T (2 ^ T.length) m

section
variable {T : List (List (List Int))}
theorem supp_lt (i j : Nat) : supp T i j < 2 ^ T.length := wd_lt _ _
theorem supp_bit (i j k : Nat) : (supp T i j).testBit k = true ↔ k < T.length ∧ 0 < at3 T i j k := by
  unfold supp; rw [wd_bit]; simp
theorem one_bit (k : Nat) : (1 : Nat).testBit k = true ↔ k = 0 := by
  rw [show (1 : Nat) = 2 ^ 0 from rfl, bit_one]; simp; omega
theorem spr_bit (m k : Nat) : (spr T m).testBit k = true ↔ m.testBit k = true ∨ k = 0 ∨ ∃ i, i < T.length ∧ m.testBit i = true ∧ ((du T i).toNat = k ∨ ∃ j, j < T.length ∧ m.testBit j = true ∧ k < T.length ∧ 0 < at3 T i j k) := by
  unfold spr
  rw [Nat.testBit_or, Nat.testBit_or, Bool.or_eq_true, Bool.or_eq_true, one_bit, orS_bit, or_assoc]
  refine or_congr_right (or_congr_right ?_)
  constructor
  · rintro ⟨i, h1, h2, h3⟩
    refine ⟨i, h1, h2, ?_⟩
    unfold sprG at h3
    rw [Nat.testBit_or, Bool.or_eq_true, bit_one, decide_eq_true_iff, orS_bit] at h3
    rcases h3 with h3 | ⟨j, h4, h5, h6⟩
    · exact .inl h3
    · exact .inr ⟨j, h4, h5, (supp_bit i j k).1 h6⟩
  · rintro ⟨i, h1, h2, h3⟩
    refine ⟨i, h1, h2, ?_⟩
    unfold sprG
    rw [Nat.testBit_or, Bool.or_eq_true, bit_one, decide_eq_true_iff, orS_bit]
    rcases h3 with h3 | ⟨j, h4, h5, h6⟩
    · exact .inl h3
    · exact .inr ⟨j, h4, h5, (supp_bit i j k).2 h6⟩
theorem RingOK.n1 (h : RingOK T) : 1 ≤ T.length := h.cube.1.1
theorem RingOK.n16 (h : RingOK T) : T.length ≤ 16 := h.cube.1.2
theorem RingOK.one_lt (h : RingOK T) : 1 < 2 ^ T.length := by
  have := one_lt_pow (i := 0) (n := T.length) (by have := h.n1; omega)
  simpa using this
theorem sprG_lt (h : RingOK T) (m : Nat) {i : Nat} (hi : i < T.length) : sprG T m i < 2 ^ T.length := or_lt (one_lt_pow (h.duN hi)) (orS_lt fun j _ _ => supp_lt i j)
theorem spr_lt (h : RingOK T) {m : Nat} (hm : m < 2 ^ T.length) : spr T m < 2 ^ T.length := or_lt (or_lt hm h.one_lt) (orS_lt fun i hi _ => sprG_lt h m hi)
theorem spr_le (m : Nat) : m ≤ spr T m := Nat.le_trans Nat.left_le_or Nat.left_le_or

/-! ### Supports -/
theorem implZeros {r c : Nat} (hr : r ≤ 1048576) (hc : c ≤ 1048576) : p_impl_zeros (r : Int) (c : Int) = some (grid (fun _ _ => 0) r c) := by
  unfold p_impl_zeros
  rw [Int.toNat_natCast, zeros_eq (body := fun k s => p_impl_zeros_L1 (c : Int) k s) hr (by omega) (fun k x => rfl)]
  rfl
theorem supports_eq (h : Cube T) : p_impl_Ring_supports T = some (grid (supI T) T.length T.length) := by
  have hn := h.1
  unfold p_impl_Ring_supports
  rw [implZeros (by omega) (by omega)]
  simp only [Option.bind_some]
  rw [fill2 (outer := fun k s => p_impl_Ring_supports_L1 T k s) (inner := fun i j s => p_impl_Ring_supports_L2 (T.getD i []) i j s) (fun _ _ => (0 : Int)) (supI T) (fun i hi j hj g hg => by
      simp only [p_impl_Ring_supports_L2, h.i2 hi hj, Option.bind_some, h.row hi hj]
      have := forN_det (R := Unit) (N := T.length) (body := fun k s => p_impl_Ring_supports_L3 ((T.getD i []).getD j []) i j k s) (fun k => grid (up2 g i j ((wd (fun k => decide (0 < at3 T i j k)) k : Nat) : Int)) T.length T.length) (fun k hk => by
        simp only [p_impl_Ring_supports_L3, h.i3 hi hj hk, Option.bind_some]
        by_cases hp : 0 < at3 T i j k
        · have e : decide (at3 T i j k > 0) = true := by simpa using hp
          have e2 : (wd (fun k => decide (0 < at3 T i j k)) (k + 1)) = wd (fun k => decide (0 < at3 T i j k)) k ||| 2 ^ k := by simp [wd, hp]
          have e3 : up2 g i j ((wd (fun k => decide (0 < at3 T i j k)) k : Nat) : Int) i j = ((wd (fun k => decide (0 < at3 T i j k)) k : Nat) : Int) := by simp [up2]
          simp only [e, if_true, grid_idx hi, rowG_idx hj, shl_word (by omega : k ≤ 61), Option.bind_some, Int.toNat_natCast]
          rw [grid_set hi hj, e3, or_i64 (lt_pow_mono (wd_lt _ k) (by omega)) (one_lt_pow (by omega)), e2]
          congr 2
          refine grid_congr fun a ha b hb => ?_
          simp only [up2]
          split <;> rfl
        · have e : decide (at3 T i j k > 0) = false := by simpa using hp
          have e2 : (wd (fun k => decide (0 < at3 T i j k)) (k + 1)) = wd (fun k => decide (0 < at3 T i j k)) k := by simp [wd, hp]
          simp only [e, Bool.false_eq_true, if_false, Option.bind_some, e2])
      have e0 : grid (up2 g i j ((wd (fun k => decide (0 < at3 T i j k)) 0 : Nat) : Int)) T.length T.length = grid g T.length T.length := grid_congr fun a ha b hb => by
        simp only [up2, wd]
        split
        · rename_i e; rw [e.1, e.2, hg]; rfl
        · rfl
      rw [e0] at this
      rw [this]
      rfl) (fun i hi g => by
      simp only [p_impl_Ring_supports_L1, h.i1 hi, Option.bind_some, h.mat hi])]
  rfl

/-! ### One round -/
theorem du_nat (h : RingOK T) {i : Nat} (hi : i < T.length) : du T i = (((du T i).toNat : Nat) : Int) := by have := h.du0 hi; omega
theorem spec_row (h : RingOK T) {m i j x : Nat} (hm : m < 2 ^ T.length) (hi : i < T.length) (hj : j < T.length) (hx : x < 2 ^ T.length) :
    p_spec_l05Spread_L2 T (m : Int) i j (x : Int) = some (.next ((x ||| (if m.testBit j = true then supp T i j else 0) : Nat) : Int)) := by
  have hc := h.cube
  have hn := h.n16
  have hb : p_spec_l05Bit (m : Int) (j : Int) = some (m.testBit j) := specBit (lt_pow_mono hm (by omega)) (by omega)
  unfold p_spec_l05Spread_L2
  by_cases hmj : m.testBit j = true
  · have := whileC_det (R := Unit) (step := fun s => p_spec_l05Spread_L3 T (m : Int) j i s.1 s.2) T.length (fun k => (((x ||| wd (fun k => decide (0 < at3 T i j k)) k : Nat) : Int), (k : Int))) (s' := (((x ||| supp T i j : Nat) : Int), (T.length : Int))) (fun k hk => by
      have e1 : decide ((k : Int) < (T.length : Int)) = true := by simpa using hk
      simp only [p_spec_l05Spread_L3, e1, if_true, hb, Option.bind_some, hmj, hc.i1 hi, hc.i2 hi hj, hc.i3 hi hj hk, u64_lab (by omega : k ≤ 62), shl_word (by omega : k ≤ 61)]
      have e5 : w64 ((k : Int) + 1) = ((k + 1 : Nat) : Int) := by rw [w64_small (by omega) (by omega)]; rfl
      rw [e5]
      by_cases hp : 0 < at3 T i j k
      · have e : decide (at3 T i j k > 0) = true := by simpa using hp
        have e2 : (wd (fun k => decide (0 < at3 T i j k)) (k + 1)) = wd (fun k => decide (0 < at3 T i j k)) k ||| 2 ^ k := by simp [wd, hp]
        simp only [e, if_true, Option.bind_some]
        rw [or_i64 (or_lt (lt_pow_mono hx (by omega)) (lt_pow_mono (wd_lt _ k) (by omega))) (one_lt_pow (by omega)), e2, Nat.or_assoc]
      · have e : decide (at3 T i j k > 0) = false := by simpa using hp
        have e2 : (wd (fun k => decide (0 < at3 T i j k)) (k + 1)) = wd (fun k => decide (0 < at3 T i j k)) k := by simp [wd, hp]
        simp only [e, Bool.false_eq_true, if_false, Option.bind_some, e2]) (by
      have e1 : decide ((T.length : Int) < (T.length : Int)) = false := by simp
      simp only [p_spec_l05Spread_L3, e1, Bool.false_eq_true, if_false, Option.bind_some]
      rfl)
    have e0 : x ||| wd (fun k => decide (0 < at3 T i j k)) 0 = x := by simp [wd]
    simp only [e0] at this
    have this' : whileC (R := Unit) (fun s => p_spec_l05Spread_L3 T (m : Int) j i s.1 s.2) ((x : Int), (0 : Int)) = _ := this
    rw [this', if_pos hmj]
    rfl
  · have e0 : m.testBit j = false := by simpa using hmj
    have := whileC_of (n := 1) (step := fun s => p_spec_l05Spread_L3 T (m : Int) j i s.1 s.2) (s := ((x : Int), (0 : Int))) (r := Res.fin (R := Unit) ((x : Int), (0 : Int))) (iterW_brk (by
      simp only [p_spec_l05Spread_L3, hb, e0]
      split <;> simp))
    rw [this, if_neg hmj, Nat.or_zero]
    rfl
theorem spread_eq (h : RingOK T) {m : Nat} (hm : m < 2 ^ T.length) : p_spec_l05Spread T (m : Int) = some ((spr T m : Nat) : Int) := by
  have hc := h.cube
  have hn := h.n16
  unfold p_spec_l05Spread
  have e0 : orI .i64 (m : Int) 1 = ((m ||| 1 : Nat) : Int) := orW (b := 1) (by omega : T.length ≤ 62) hm h.one_lt
  rw [e0, forN_or (R := Unit) (n := T.length) (body := fun k s => p_spec_l05Spread_L1 (m : Int) T k s) (fun i => if m.testBit i = true then sprG T m i else 0) (or_lt hm h.one_lt) (fun i hi => by
      split
      · exact sprG_lt h m hi
      · exact Nat.two_pow_pos _) (fun i x hi hx => by
      have hb : p_spec_l05Bit (m : Int) (i : Int) = some (m.testBit i) := specBit (lt_pow_mono hm (by omega)) (by omega)
      simp only [p_spec_l05Spread_L1, hb, Option.bind_some]
      by_cases hmi : m.testBit i = true
      · have hd := h.duN hi
        have e1 : IntKind.u64.wrap (du T i) = (((du T i).toNat : Nat) : Int) := by
          have := du_nat h hi
          generalize (du T i).toNat = q at *
          rw [this]
          exact u64_lab (by omega)
        simp only [hmi, Bool.not_true, Bool.false_eq_true, if_false, (dual_spec hc hi).1, Option.bind_some, e1, shl_word (by omega : (du T i).toNat ≤ 61), if_true]
        rw [orW (by omega : T.length ≤ 62) hx (one_lt_pow hd)]
        rw [forN_or (R := Unit) (n := T.length) (body := fun k s => p_spec_l05Spread_L2 T (m : Int) i k s) (fun j => if m.testBit j = true then supp T i j else 0) (or_lt hx (one_lt_pow hd)) (fun j hj => by
          split
          · exact supp_lt i j
          · exact Nat.two_pow_pos _) (fun j y hj hy => spec_row h hm hi hj hy)]
        simp only [Option.bind_some, onRes]
        unfold sprG orS
        rw [Nat.or_assoc]
      · have e1 : m.testBit i = false := by simpa using hmi
        simp only [e1, Bool.not_false, if_true, Bool.false_eq_true, if_false, Nat.or_zero])]
  rfl

theorem closed_round (h : RingOK T) {m : Nat} (hm : m < 2 ^ T.length) (h0 : m.testBit 0 = true) :
    p_impl_Ring_closed_L1 (duL T) (grid (supI T) T.length T.length) (m : Int) = some (if spr T m = m then .ret (m : Int) else .next ((spr T m : Nat) : Int)) := by
  have hc := h.cube
  have hn := h.n16
  unfold p_impl_Ring_closed_L1
  simp only [labels_eq (by omega : T.length ≤ 63) hm, Option.bind_some]
  rw [forN_orL (R := Unit) (m := m) (n := T.length) (N := T.length) (body := fun k s => p_impl_Ring_closed_L2 (bitsFrom m 0 T.length) (duL T) (m : Int) (grid (supI T) T.length T.length) k s) (sprG T m) hm (fun i hi _ => sprG_lt h m hi) (fun k i x hi hmi hk hx => by
    have hd := h.duN hi
    simp only [p_impl_Ring_closed_L2, hk, duL_idx hi, Option.bind_some, labels_eq (by omega : T.length ≤ 63) hm]
    rw [du_nat h hi, shl_word (by omega : (du T i).toNat ≤ 61)]
    simp only [Option.bind_some]
    rw [orW (by omega : T.length ≤ 62) hx (one_lt_pow hd)]
    rw [forN_orL (R := Unit) (m := m) (n := T.length) (N := T.length) (body := fun k s => p_impl_Ring_closed_L3 (bitsFrom m 0 T.length) (grid (supI T) T.length T.length) (i : Int) k s) (fun j => supp T i j) (or_lt hx (one_lt_pow hd)) (fun j hj _ => supp_lt i j) (fun k j y hj hmj hk hy => by
      simp only [p_impl_Ring_closed_L3, hk, grid_idx hi, rowG_idx hj, Option.bind_some, supI]
      rw [orW (by omega : T.length ≤ 62) hy (supp_lt i j)])]
    simp only [Option.bind_some, onRes]
    unfold sprG
    rw [Nat.or_assoc])]
  have e1 : m ||| orS m T.length (sprG T m) = spr T m := eq_of_bits fun k => by
    unfold spr
    simp only [Nat.testBit_or, Bool.or_eq_true, one_bit]
    constructor
    · rintro (h | h)
      · exact .inl (.inl h)
      · exact .inr h
    · rintro ((h | h) | h)
      · exact .inl h
      · subst h; exact .inl h0
      · exact .inr h
  simp only [Option.bind_some, onRes, e1]
  by_cases e : spr T m = m
  · have : (((spr T m : Nat) : Int) == (m : Int)) = true := by rw [e]; simp
    rw [if_pos e, if_pos this]
  · have : ¬ (((spr T m : Nat) : Int) == (m : Int)) = true := by simp; omega
    rw [if_neg e, if_neg this]

/-! ### Until nothing is added -/
theorem clN_fix {m : Nat} (h : spr T m = m) : ∀ c, clN T c m = m
  | 0 => rfl
  | c + 1 => by simp only [clN]; rw [h]; exact clN_fix h c
theorem clN_lt (h : RingOK T) : ∀ (c : Nat) {m : Nat}, m < 2 ^ T.length → clN T c m < 2 ^ T.length
  | 0, m, hm => hm
  | c + 1, m, hm => clN_lt h c (spr_lt h hm)
theorem clN_end (h : RingOK T) : ∀ (c m : Nat), m < 2 ^ T.length → 2 ^ T.length ≤ m + c → spr T (clN T c m) = clN T c m
  | 0, m, hm, hc => by omega
  | c + 1, m, hm, hc => by
    by_cases e : spr T m = m
    · rw [clN_fix e]; exact e
    · have := spr_le (T := T) m
      exact clN_end h c _ (spr_lt h hm) (by omega)
theorem cl_fix (h : RingOK T) {m : Nat} (hm : m < 2 ^ T.length) : spr T (cl T m) = cl T m := clN_end h _ m hm (by omega)
theorem cl_lt (h : RingOK T) {m : Nat} (hm : m < 2 ^ T.length) : cl T m < 2 ^ T.length := clN_lt h _ hm
theorem spr_zero (m : Nat) : (spr T m).testBit 0 = true := (spr_bit m 0).2 (.inr (.inl rfl))
theorem closed_iter (h : RingOK T) : ∀ (c m : Nat), m < 2 ^ T.length → m.testBit 0 = true → 2 ^ T.length ≤ m + c →
    iterW (fun s => p_impl_Ring_closed_L1 (duL T) (grid (supI T) T.length T.length) s) (c + 1) (m : Int) = some (.ret ((clN T c m : Nat) : Int))
  | 0, m, hm, h0, hc => by omega
  | c + 1, m, hm, h0, hc => by
    have hr := closed_round h hm h0
    by_cases e : spr T m = m
    · rw [if_pos e] at hr
      rw [clN_fix e]
      exact iterN_ret hr
    · rw [if_neg e] at hr
      have := spr_le (T := T) m
      rw [iterN_next hr]
      exact closed_iter h c _ (spr_lt h hm) (spr_zero m) (by omega)
theorem clN_more {c m : Nat} (h : spr T (clN T c m) = clN T c m) : ∀ k, clN T (c + k) m = clN T c m
  | 0 => rfl
  | k + 1 => by
    have key : ∀ c m, clN T (c + 1) m = spr T (clN T c m) := by
      intro c
      induction c with
      | zero => intro m; rfl
      | succ c ih => intro m; exact ih (spr T m)
    rw [show c + (k + 1) = (c + k) + 1 by omega, key, clN_more h k, h]
theorem closed_eq (h : RingOK T) {m : Nat} (hm : m < 2 ^ T.length) : p_impl_Ring_closed T (m : Int) = some ((cl T (m ||| 1) : Nat) : Int) := by
  have hn := h.n16
  unfold p_impl_Ring_closed
  rw [supports_eq h.cube, duals_eq h.cube]
  simp only [Option.bind_some]
  have e0 : orI .i64 (m : Int) 1 = ((m ||| 1 : Nat) : Int) := orW (b := 1) (by omega : T.length ≤ 62) hm h.one_lt
  rw [e0, whileC_of (closed_iter h (2 ^ T.length) (m ||| 1) (or_lt hm h.one_lt) (by rw [Nat.testBit_or]; simp) (by omega))]
  rfl
theorem from_iter (h : RingOK T) : ∀ (c m : Nat), m < 2 ^ T.length → 2 ^ T.length ≤ m + c →
    ∃ x, iterW (R := Unit) (fun s => p_spec_l05From_L1 T s.1 s.2) (c + 1) ((m : Int), ((spr T m : Nat) : Int)) = some (.fin (((clN T c m : Nat) : Int), x))
  | 0, m, hm, hc => by omega
  | c + 1, m, hm, hc => by
    by_cases e : spr T m = m
    · refine ⟨(m : Int), ?_⟩
      rw [clN_fix e, e]
      refine iterN_brk (s' := ((m : Int), (m : Int))) ?_
      simp [p_spec_l05From_L1]
    · have hne : (((spr T m : Nat) : Int) != (m : Int)) = true := by simp; omega
      have := spr_le (T := T) m
      obtain ⟨x, hx⟩ := from_iter h c _ (spr_lt h hm) (by omega)
      refine ⟨x, ?_⟩
      rw [iterN_next (s' := (((spr T m : Nat) : Int), ((spr T (spr T m) : Nat) : Int))) (by
        simp only [p_spec_l05From_L1, hne, if_true, spread_eq h (spr_lt h hm), Option.bind_some])]
      exact hx
theorem from_eq (h : RingOK T) {m : Nat} (hm : m < 2 ^ T.length) : p_spec_l05From T (m : Int) = some ((cl T m : Nat) : Int) := by
  unfold p_spec_l05From
  rw [spread_eq h hm]
  simp only [Option.bind_some]
  obtain ⟨x, hx⟩ := from_iter h (2 ^ T.length) m hm (by omega)
  rw [whileC_of hx]
  rfl

/-- The code's test of a subring is the model's. -/
theorem cl_is (h : RingOK T) {m : Nat} (hm : m < 2 ^ T.length) : cl T (m ||| 1) = m ↔ spr T m = m := by
  constructor
  · intro e
    have := cl_fix h (or_lt hm h.one_lt)
    rwa [e] at this
  · intro e
    have h0 : m.testBit 0 = true := by rw [← e]; exact spr_zero m
    have e1 : m ||| 1 = m := eq_of_bits fun k => by
      simp only [Nat.testBit_or, Bool.or_eq_true, one_bit]
      exact ⟨fun hk => by rcases hk with hk | hk; exact hk; subst hk; exact h0, .inl⟩
    rw [e1]
    exact clN_fix e _
theorem specIsSub (h : RingOK T) {m : Nat} (hm : m < 2 ^ T.length) : p_spec_l05Is T (m : Int) = some (decide (spr T m = m)) := by
  unfold p_spec_l05Is
  rw [spread_eq h hm]
  simp only [Option.bind_some]
  congr 1
  rw [Bool.eq_iff_iff]
  simp; omega

/-- What a closed set is. -/
theorem spr_fix_iff {m : Nat} (h0 : m.testBit 0 = true) : spr T m = m ↔ ∀ i, i < T.length → m.testBit i = true → (m.testBit (du T i).toNat = true ∧ ∀ j, j < T.length → m.testBit j = true → ∀ k, k < T.length → 0 < at3 T i j k → m.testBit k = true) := by
  constructor
  · intro e i hi hm
    have key : ∀ k, (spr T m).testBit k = true → m.testBit k = true := fun k hk => by rwa [e] at hk
    exact ⟨key _ ((spr_bit m _).2 (.inr (.inr ⟨i, hi, hm, .inl rfl⟩))), fun j hj hmj k hk hp => key _ ((spr_bit m _).2 (.inr (.inr ⟨i, hi, hm, .inr ⟨j, hj, hmj, hk, hp⟩⟩)))⟩
  · intro h
    refine eq_of_bits fun k => ⟨fun hk => ?_, fun hk => (spr_bit m k).2 (.inl hk)⟩
    rcases (spr_bit m k).1 hk with hk | rfl | ⟨i, hi, hmi, rfl | ⟨j, hj, hmj, hkn, hp⟩⟩
    · exact hk
    · exact h0
    · exact (h i hi hmi).1
    · exact (h i hi hmi).2 j hj hmj k hkn hp
/-! ### A ring and a set -/
theorem two_pow_sub {n : Nat} (hn : n ≤ 16) : w64 (((2 ^ n : Nat) : Int) - 1) = ((2 ^ n - 1 : Nat) : Int) := by
  have e1 : 2 ^ n < 2 ^ 62 := one_lt_pow (by omega)
  have e2 : (2 : Nat) ^ 62 = 4611686018427387904 := by decide
  have := Nat.two_pow_pos n
  rw [w64_small (by omega) (by omega)]
  omega
def inSet (T : List (List (List Int))) (s : Int) : Prop := 0 ≤ s ∧ s < ((2 ^ T.length : Nat) : Int)
instance (T : List (List (List Int))) (s : Int) : Decidable (inSet T s) := by unfold inSet; exact inferInstance
open Classical in
noncomputable def codeS (T : List (List (List Int))) (s : Int) : Int := if RingOK T then (if inSet T s then 0 else 2) else 1
theorem specAll (h : RingOK T) : p_spec_l05All T = some ((2 ^ T.length - 1 : Nat) : Int) := by
  have hn := h.n16
  unfold p_spec_l05All
  rw [u64_lab (by omega), shl_word (by omega)]
  simp only [Option.bind_some, two_pow_sub hn]
theorem isSet_eq (h : RingOK T) (s : Int) : p_impl_Ring_isSet T s = some (decide (inSet T s)) := by
  have hn := h.n16
  have := Nat.two_pow_pos T.length
  unfold p_impl_Ring_isSet p_impl_within
  rw [shl_word (by omega)]
  simp only [Option.bind_some, two_pow_sub hn]
  congr 1
  rw [Bool.eq_iff_iff, Bool.and_eq_true, decide_eq_true_iff, decide_eq_true_iff, decide_eq_true_iff]
  unfold inSet
  omega
theorem specCode (T : List (List (List Int))) (s : Int) : p_spec_l05Code T s = some (codeS T s) := by
  unfold p_spec_l05Code codeS
  obtain ⟨b, e, hb⟩ := specIs (T := T)
  rw [e]
  simp only [Option.bind_some]
  by_cases h : RingOK T
  · have := Nat.two_pow_pos T.length
    rw [hb.2 h, if_pos h]
    have e1 : p_spec_l01In s (0 : Int) ((2 ^ T.length - 1 : Nat) : Int) = some (decide (inSet T s)) := by
      unfold p_spec_l01In
      congr 1
      rw [Bool.eq_iff_iff, Bool.and_eq_true, decide_eq_true_iff, decide_eq_true_iff, decide_eq_true_iff]
      unfold inSet
      omega
    simp only [Bool.not_true, Bool.false_eq_true, if_false, specAll h, Option.bind_some, e1]
    by_cases hs : inSet T s <;> simp [hs]
  · have : b = false := by cases b; rfl; exact absurd (hb.1 rfl) h
    rw [this, if_neg h]
    simp
theorem implCode (T : List (List (List Int))) (s : Int) : p_impl_setCode T s = some (codeS T s) := by
  unfold p_impl_setCode codeS
  obtain ⟨b, e, hb⟩ := implIs (T := T)
  rw [e]
  simp only [Option.bind_some]
  by_cases h : RingOK T
  · rw [hb.2 h, if_pos h]
    simp only [Bool.not_true, Bool.false_eq_true, if_false, isSet_eq h, Option.bind_some]
    by_cases hs : inSet T s <;> simp [hs]
  · have : b = false := by cases b; rfl; exact absurd (hb.1 rfl) h
    rw [this, if_neg h]
    simp
theorem codeS_ok {s : Int} (h : (codeS T s != 0) = false) : RingOK T ∧ ∃ m : Nat, s = (m : Int) ∧ m < 2 ^ T.length := by
  unfold codeS at h
  by_cases hr : RingOK T
  · rw [if_pos hr] at h
    by_cases hs : inSet T s
    · unfold inSet at hs
      exact ⟨hr, s.toNat, by omega, by omega⟩
    · simp [hs] at h
  · simp [hr] at h
end
end Go.VG
