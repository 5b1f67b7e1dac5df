/- All subrings: the code's list and the model's. Plain. -/
import Derived.Test.YtaghjfegbooceaaDoorPlSub
set_option linter.all false
namespace Go.VG

theorem andNot_word {a b : Nat} (ha : a < 2 ^ 62) (hb : b < 2 ^ 62) : (andNotI .i64 (a : Int) (b : Int) != 0) = false ↔ ∀ k, a.testBit k = true → b.testBit k = true := by
  unfold andNotI
  have e : IntKind.i64.bits = 64 := rfl
  have e3 : (2 : Nat) ^ 62 = 4611686018427387904 := by decide
  rw [e, BitVec.ofInt_natCast, BitVec.ofInt_natCast]
  have hbit : ∀ k, (BitVec.ofNat 64 a &&& ~~~ BitVec.ofNat 64 b).toNat.testBit k = (a.testBit k && !b.testBit k) := by
    intro k
    rw [BitVec.testBit_toNat, BitVec.getLsbD_and, BitVec.getLsbD_not, BitVec.getLsbD_ofNat, BitVec.getLsbD_ofNat]
    by_cases hk : k < 64
    · simp [hk]
    · have : a.testBit k = false := Nat.testBit_lt_two_pow (lt_pow_mono ha (by omega))
      simp [hk, this]
  generalize hw : (BitVec.ofNat 64 a &&& ~~~ BitVec.ofNat 64 b).toNat = w at hbit
  have hlt : w < 2 ^ 62 := by
    apply Decidable.byContradiction
    intro hc
    obtain ⟨i, h1, h2⟩ := Nat.exists_ge_and_testBit_of_ge_two_pow (Nat.le_of_not_lt hc)
    rw [hbit] at h2
    have : a.testBit i = false := Nat.testBit_lt_two_pow (lt_pow_mono ha h1)
    rw [this] at h2; cases h2
  rw [wrap_id (inR_i64.2 (by omega))]
  have : ((w : Int) != 0) = false ↔ w = 0 := by simp
  rw [this]
  constructor
  · intro h0 k hk
    have := hbit k
    rw [h0, Nat.zero_testBit, hk] at this
    simpa using this.symm
  · intro h
    refine Nat.eq_of_testBit_eq fun k => ?_
    rw [hbit, Nat.zero_testBit]
    by_cases hk : a.testBit k = true
    · simp [hk, h k hk]
    · simp [hk]
theorem and_one {q : Nat} (hq : q < 2 ^ 62) : andI .i64 (q : Int) 1 = ((q % 2 : Nat) : Int) := by
  have e3 : (2 : Nat) ^ 62 = 4611686018427387904 := by decide
  have e4 : (2 : Nat) ^ 63 = 9223372036854775808 := by decide
  have a : andI .i64 ((q : Nat) : Int) 1 = ((q &&& 1 : Nat) : Int) := and_i64 (b := 1) (by omega) (by omega)
  rw [a, Nat.and_one_is_mod]
theorem shr_bit0 {m i : Nat} (hm : m < 2 ^ 62) : (andI .i64 ((m / 2 ^ i : Nat) : Int) 1 == 0) = !m.testBit i := by
  have hd : m / 2 ^ i ≤ m := Nat.div_le_self _ _
  rw [and_one (by omega), Nat.testBit_eq_decide_div_mod_eq]
  generalize m / 2 ^ i = q
  have : q % 2 < 2 := Nat.mod_lt _ (by decide)
  rw [Bool.eq_iff_iff]
  simp; omega
theorem shr_bit1 {m i : Nat} (hm : m < 2 ^ 62) : (andI .i64 ((m / 2 ^ i : Nat) : Int) 1 == 1) = m.testBit i := by
  have hd : m / 2 ^ i ≤ m := Nat.div_le_self _ _
  rw [and_one (by omega), Nat.testBit_eq_decide_div_mod_eq]
  generalize m / 2 ^ i = q
  have : q % 2 < 2 := Nat.mod_lt _ (by decide)
  rw [Bool.eq_iff_iff]
  simp; omega

section
variable {T : List (List (List Int))}
/-- What a closed set is. -/
theorem spr_fix_iff {m : Nat} (h0 : m.testBit 0 = true) : spr T m = m ↔ ∀ i, i < T.length → m.testBit i = true → (m.testBit (du T i).toNat = true ∧ ∀ j, j < T.length → m.testBit j = true → ∀ k, k < T.length → 0 < at3 T i j k → m.testBit k = true) := by
  constructor
  · intro e i hi hm
    have key : ∀ k, (spr T m).testBit k = true → m.testBit k = true := fun k hk => by rwa [e] at hk
    exact ⟨key _ ((spr_bit m _).2 (.inr (.inr ⟨i, hi, hm, .inl rfl⟩))), fun j hj hmj k hk hp => key _ ((spr_bit m _).2 (.inr (.inr ⟨i, hi, hm, .inr ⟨j, hj, hmj, hk, hp⟩⟩)))⟩
  · intro h
    refine eq_of_bits fun k => ⟨fun hk => ?_, fun hk => (spr_bit m k).2 (.inl hk)⟩
    rcases (spr_bit m k).1 hk with hk | rfl | ⟨i, hi, hmi, rfl | ⟨j, hj, hmj, hkn, hp⟩⟩
    · exact hk
    · exact h0
    · exact (h i hi hmi).1
    · exact (h i hi hmi).2 j hj hmj k hkn hp
theorem isClosed_says (h : RingOK T) {m : Nat} (hm : m < 2 ^ T.length) (h0 : m.testBit 0 = true) : Says (p_impl_isClosed (grid (supI T) T.length T.length) (duL T) (m : Int)) (spr T m = m) := by
  have hc := h.cube
  have hn := h.n16
  have hm62 : m < 2 ^ 62 := lt_pow_mono hm (by omega)
  unfold p_impl_isClosed
  simp only [labels_eq (by omega : T.length ≤ 63) hm, Option.bind_some]
  refine Says.congr (Chk.says (forN_chk (P := fun j => m.testBit (du T ((labN m T.length).getD j 0)).toNat = true ∧ ∀ j', j' < (labN m T.length).length → ∀ k, (supp T ((labN m T.length).getD j 0) ((labN m T.length).getD j' 0)).testBit k = true → m.testBit k = true) fun j hj _ => ?_)) ?_
  · rw [bits_len] at hj
    obtain ⟨hi, hmi⟩ := labN_at hj
    have hd := h.duN hi
    have ed := du_nat h hi
    have hk := bits_idx hj
    generalize (labN m T.length).getD j 0 = i at *
    have es : shrI .i64 (m : Int) (du T i) = some ((m / 2 ^ (du T i).toNat : Nat) : Int) := by rw [ed, Int.toNat_natCast]; exact shr_word hm62 (by omega)
    simp only [p_impl_isClosed_L1, hk, duL_idx hi, es, Option.bind_some]
    rw [shr_bit0 hm62]
    refine ChkC.congr (ChkC.iteAnd (P := ∀ j', j' < (labN m T.length).length → ∀ k, (supp T i ((labN m T.length).getD j' 0)).testBit k = true → m.testBit k = true) rfl fun _ => ?_) (by simp)
    rw [bits_len]
    refine ChkC.loop (forN_chk fun j' hj' _ => ?_)
    obtain ⟨hi', hmi'⟩ := labN_at hj'
    have hk' := bits_idx hj'
    generalize (labN m T.length).getD j' 0 = i' at *
    simp only [p_impl_isClosed_L2, hk', grid_idx hi, rowG_idx hi', Option.bind_some, supI]
    exact ChkC.congr (ChkC.ite rfl) (andNot_word (lt_pow_mono (supp_lt i i') (by omega)) hm62)
  · rw [bits_len, spr_fix_iff h0]
    constructor
    · intro hh i hi hmi
      obtain ⟨j, g1, g2⟩ := labN_ex hi hmi
      have := hh j g1
      rw [g2] at this
      refine ⟨this.1, fun i' hi' hmi' k hk hp => ?_⟩
      obtain ⟨j', g3, g4⟩ := labN_ex hi' hmi'
      have := this.2 j' g3 k
      rw [g4] at this
      exact this ((supp_bit _ _ _).2 ⟨hk, hp⟩)
    · intro hh j hj
      obtain ⟨hi, hmi⟩ := labN_at hj
      refine ⟨(hh _ hi hmi).1, fun j' hj' k hk => ?_⟩
      obtain ⟨hi', hmi'⟩ := labN_at hj'
      obtain ⟨k1, k2⟩ := (supp_bit _ _ _).1 hk
      exact (hh _ hi hmi).2 _ hi' hmi' k k1 k2

/-- The odd words below 2 k + 1 that are subrings. -/
def subsL (T : List (List (List Int))) (k : Nat) : List Int := ((List.range k).filter (fun q => decide (spr T (2 * q + 1) = 2 * q + 1))).map (fun q => ((2 * q + 1 : Nat) : Int))
theorem subsL_succ (k : Nat) : subsL T (k + 1) = if spr T (2 * k + 1) = 2 * k + 1 then subsL T k ++ [((2 * k + 1 : Nat) : Int)] else subsL T k := by
  unfold subsL
  rw [List.range_succ, List.filter_append, List.map_append]
  split <;> rename_i e <;> simp [e]
theorem subsL_len (k : Nat) : (subsL T k).length ≤ k := by
  unfold subsL
  rw [List.length_map]
  refine Nat.le_trans (List.length_filter_le _ _) ?_
  simp
theorem odd_bit (k : Nat) : (2 * k + 1).testBit 0 = true := by
  rw [Nat.testBit_zero]; simp
theorem RingOK.half (h : RingOK T) : ∃ K, 2 ^ T.length = 2 * K ∧ 1 ≤ K ∧ K ≤ 32768 := by
  have h1 := h.n1
  have h16 := h.n16
  refine ⟨2 ^ (T.length - 1), ?_, Nat.one_le_two_pow, ?_⟩
  · rw [← Nat.pow_succ']; congr 1; omega
  · exact Nat.pow_le_pow_right (n := 2) (j := 15) (by decide) (by omega)
theorem app_sub {k : Nat} (hk : k ≤ 32768) : (if decide (spr T (2 * k + 1) = 2 * k + 1) = true then (appL (subsL T k) [((2 * k + 1 : Nat) : Int)]).bind (fun x => some x) else some (subsL T k)) = some (subsL T (k + 1)) := by
  rw [subsL_succ]
  have := subsL_len (T := T) k
  by_cases e : spr T (2 * k + 1) = 2 * k + 1
  · simp only [e, decide_true, if_true]
    unfold appL
    rw [if_pos (by simp; omega)]
    rfl
  · simp only [e, decide_false, Bool.false_eq_true, if_false]
theorem specSubs (h : RingOK T) {K : Nat} (hK : 2 ^ T.length = 2 * K) (hK2 : K ≤ 32768) : p_spec_l05Subrings T = some (subsL T K) := by
  unfold p_spec_l05Subrings
  have := whileC_det (R := Unit) (step := fun s => p_spec_l05Subrings_L1 T s.1 s.2) K (fun k => (subsL T k, ((2 * k + 1 : Nat) : Int))) (s' := (subsL T K, ((2 * K + 1 : Nat) : Int))) (fun k hk => by
    have e1 : decide (((2 * k + 1 : Nat) : Int) ≤ ((2 ^ T.length - 1 : Nat) : Int)) = true := by rw [hK]; simp; omega
    have e2 : w64 (((2 * k + 1 : Nat) : Int) + 2) = ((2 * (k + 1) + 1 : Nat) : Int) := by rw [w64_small (by omega) (by omega)]; omega
    simp only [p_spec_l05Subrings_L1, specAll h, Option.bind_some, e1, if_true, specIsSub h (by omega : 2 * k + 1 < 2 ^ T.length), app_sub (by omega : k ≤ 32768), e2]) (by
    have e1 : decide (((2 * K + 1 : Nat) : Int) ≤ ((2 ^ T.length - 1 : Nat) : Int)) = false := by rw [hK]; simp; omega
    simp only [p_spec_l05Subrings_L1, specAll h, Option.bind_some, e1, Bool.false_eq_true, if_false])
  have this' : whileC (R := Unit) (fun s => p_spec_l05Subrings_L1 T s.1 s.2) (([] : List Int), (1 : Int)) = _ := this
  rw [this']
  rfl
theorem implSubs (h : RingOK T) {K : Nat} (hK : 2 ^ T.length = 2 * K) (hK2 : K ≤ 32768) : p_impl_Ring_subrings T = some (subsL T K) := by
  unfold p_impl_Ring_subrings
  rw [supports_eq h.cube, duals_eq h.cube]
  simp only [Option.bind_some]
  have := whileC_det (R := Unit) (step := fun s => p_impl_Ring_subrings_L1 T (grid (supI T) T.length T.length) (duL T) s.1 s.2) K (fun k => (subsL T k, ((2 * k + 1 : Nat) : Int))) (s' := (subsL T K, ((2 * K + 1 : Nat) : Int))) (fun k hk => by
    have e1 : decide (inSet T ((2 * k + 1 : Nat) : Int)) = true := by simp only [decide_eq_true_iff]; unfold inSet; omega
    have e2 : w64 (((2 * k + 1 : Nat) : Int) + 2) = ((2 * (k + 1) + 1 : Nat) : Int) := by rw [w64_small (by omega) (by omega)]; omega
    have e3 : p_impl_isClosed (grid (supI T) T.length T.length) (duL T) ((2 * k + 1 : Nat) : Int) = some (decide (spr T (2 * k + 1) = 2 * k + 1)) := (isClosed_says h (by omega : 2 * k + 1 < 2 ^ T.length) (odd_bit k)).eq ⟨_, rfl, by simp⟩
    simp only [p_impl_Ring_subrings_L1, isSet_eq h, Option.bind_some, e1, if_true, e3, app_sub (by omega : k ≤ 32768), e2]) (by
    have e1 : decide (inSet T ((2 * K + 1 : Nat) : Int)) = false := by simp only [decide_eq_false_iff_not]; unfold inSet; omega
    simp only [p_impl_Ring_subrings_L1, isSet_eq h, Option.bind_some, e1, Bool.false_eq_true, if_false])
  have this' : whileC (R := Unit) (fun s => p_impl_Ring_subrings_L1 T (grid (supI T) T.length T.length) (duL T) s.1 s.2) (([] : List Int), (1 : Int)) = _ := this
  rw [this']
  rfl
theorem subs_both (h : RingOK T) : ∃ l, p_spec_l05Subrings T = some l ∧ p_impl_Ring_subrings T = some l ∧ l.length ≤ 32768 := by
  obtain ⟨K, h1, h2, h3⟩ := h.half
  exact ⟨_, specSubs h h1 h3, implSubs h h1 h3, Nat.le_trans (subsL_len K) h3⟩
end
end Go.VG
