/- The plain law of FnExactSubringFrom: the code's answer is the model's. No condition but the readings'. -/
import Derived.Test.YtnilmlcdgllipaaDoorPlSub
set_option linter.all false
namespace Go.VG
theorem rng_true {v a b : Int} (h : a ≤ v ∧ v ≤ b) : (decide (v ≥ a) && decide (v ≤ b)) = true := by simp; omega
theorem rng_false {v a b : Int} (h : ¬ (a ≤ v ∧ v ≤ b)) : (decide (v ≥ a) && decide (v ≤ b)) = false := by simp; omega
/-- A loop that adds f j's bits while the places are good, and answers r at one that is not. -/
theorem forN_orQ {R : Type} {body : Nat → Int → Option (Ctl Int R)} {n : Nat} (ok : Nat → Bool) (f : Nat → Nat) (r : R) {N : Nat} (hf : ∀ j, j < N → ok j = true → f j < 2 ^ n)
    (hb : ∀ (j m : Nat), j < N → m < 2 ^ n → body j (m : Int) = some (if ok j = true then .next ((m ||| f j : Nat) : Int) else .ret r)) :
    ∀ (c k m0 : Nat), k + c = N → m0 < 2 ^ n → ((∀ j, k ≤ j → j < N → ok j = true) → ∃ q, (∀ x, x < 2 ^ n → True) ∧ q < 2 ^ n ∧ forN body c k (m0 : Int) = some (.fin ((m0 ||| q : Nat) : Int)) ∧ ∀ i, q.testBit i = true ↔ ∃ j, k ≤ j ∧ j < N ∧ (f j).testBit i = true) ∧
      ((¬ ∀ j, k ≤ j → j < N → ok j = true) → forN body c k (m0 : Int) = some (.ret r))
  | 0, k, m0, hk, h0 => ⟨fun _ => ⟨0, fun _ _ => trivial, Nat.two_pow_pos _, by simp [forN], fun i => by
      simp only [Nat.zero_testBit]
      exact ⟨fun h => (by cases h), fun ⟨j, h1, h2, _⟩ => (by omega)⟩⟩, fun h => absurd (fun j h1 h2 => by omega) h⟩
  | c + 1, k, m0, hk, h0 => by
    have hbk := hb k m0 (by omega) h0
    cases hok : ok k
    · rw [hok] at hbk
      refine ⟨fun h => (by rw [h k (Nat.le_refl _) (by omega)] at hok; cases hok), fun _ => forN_ret1 (by simpa using hbk)⟩
    · rw [hok] at hbk
      have hfk := hf k (by omega) hok
      have hn : body k (m0 : Int) = some (.next ((m0 ||| f k : Nat) : Int)) := by simpa using hbk
      have ih := forN_orQ ok f r hf hb c (k + 1) (m0 ||| f k) (by omega) (or_lt h0 hfk)
      rw [forN_next1 hn]
      refine ⟨fun h => ?_, fun h => ih.2 fun h' => h fun j h1 h2 => ?_⟩
      · obtain ⟨q, _, q1, q2, q3⟩ := ih.1 fun j h1 h2 => h j (by omega) h2
        refine ⟨f k ||| q, fun _ _ => trivial, or_lt hfk q1, by rw [q2, Nat.or_assoc], fun i => ?_⟩
        rw [Nat.testBit_or, Bool.or_eq_true, q3]
        constructor
        · rintro (h | ⟨j, h1, h2, h3⟩)
          · exact ⟨k, Nat.le_refl _, by omega, h⟩
          · exact ⟨j, by omega, h2, h3⟩
        · rintro ⟨j, h1, h2, h3⟩
          by_cases e : j = k
          · subst e; exact .inl h3
          · exact .inr ⟨j, by omega, h2, h3⟩
      · by_cases e : j = k
        · subst e; exact hok
        · exact h' j (by omega) h2
def labOk (T : List (List (List Int))) (l : List Int) (j : Nat) : Bool := decide (0 ≤ l.getD j 0 ∧ l.getD j 0 < (T.length : Int))
def labF (l : List Int) (j : Nat) : Nat := 2 ^ (l.getD j 0).toNat
theorem subFrom_eq (T : List (List (List Int))) (l : List Int) : ∃ r, p_spec_SubringFrom T l = some r ∧ p_impl_SubringFrom T l = some r := by
  unfold p_spec_SubringFrom p_impl_SubringFrom
  obtain ⟨b, e, hb⟩ := specIs (T := T)
  obtain ⟨b', e', hb'⟩ := implIs (T := T)
  have : b = b' := by rw [Bool.eq_iff_iff, hb, hb']
  subst this
  rw [e, e']
  simp only [Option.bind_some]
  cases b
  · simp
  · have h := hb.1 rfl
    have hn := h.n16
    have hn1 := h.n1
    have en : w64 ((T.length : Int) - 1) = ((T.length : Int) - 1) := w64_small (by omega) (by omega)
    simp only [Bool.not_true, Bool.false_eq_true, if_false]
    have hf : ∀ j, j < l.length → labOk T l j = true → labF l j < 2 ^ T.length := fun j hj ho => by
      unfold labOk at ho; simp only [decide_eq_true_iff] at ho
      exact one_lt_pow (by omega)
    have s1 := forN_orQ (R := Int × Int) (n := T.length) (N := l.length) (body := fun k s => p_spec_SubringFrom_L1 l T k s) (labOk T l) (labF l) ((0 : Int), (2 : Int)) hf (fun j m hj hm => by
      simp only [p_spec_SubringFrom_L1, idx_getD l 0 hj, Option.bind_some, p_spec_l03Label, p_spec_l01In, en]
      cases ho : labOk T l j
      · have : (decide (l.getD j 0 ≥ 0) && decide (l.getD j 0 ≤ (T.length : Int) - 1)) = false := by
          unfold labOk at ho; simp only [decide_eq_false_iff_not] at ho
          exact rng_false (by omega)
        rw [this]; simp
      · have hlt := hf j hj ho
        unfold labOk at ho; simp only [decide_eq_true_iff] at ho
        have : (decide (l.getD j 0 ≥ 0) && decide (l.getD j 0 ≤ (T.length : Int) - 1)) = true := rng_true (by omega)
        have e2 : l.getD j 0 = (((l.getD j 0).toNat : Nat) : Int) := by omega
        have e3 : IntKind.u64.wrap (l.getD j 0) = (((l.getD j 0).toNat : Nat) : Int) := by rw [e2, Int.toNat_natCast]; exact u64_lab (by omega)
        rw [this, e3, shl_word (by omega)]
        simp only [Bool.not_true, Bool.false_eq_true, if_false, Option.bind_some, if_true]
        unfold labF
        rw [orW (by omega : T.length ≤ 62) hm (by unfold labF at hlt; exact hlt)]) l.length 0 1 (by omega) h.one_lt
    have s2 := forN_orQ (R := Int × Int) (n := T.length) (N := l.length) (body := fun k s => p_impl_SubringFrom_L1 l T k s) (labOk T l) (labF l) ((0 : Int), (2 : Int)) hf (fun j m hj hm => by
      simp only [p_impl_SubringFrom_L1, idx_getD l 0 hj, Option.bind_some, p_impl_Ring_isLabel, p_impl_within, en]
      cases ho : labOk T l j
      · have : (decide (0 ≤ l.getD j 0) && decide (l.getD j 0 ≤ (T.length : Int) - 1)) = false := by
          unfold labOk at ho; simp only [decide_eq_false_iff_not] at ho
          exact rng_false (by omega)
        rw [this]; simp
      · have hlt := hf j hj ho
        unfold labOk at ho; simp only [decide_eq_true_iff] at ho
        have : (decide (0 ≤ l.getD j 0) && decide (l.getD j 0 ≤ (T.length : Int) - 1)) = true := rng_true (by omega)
        have e2 : l.getD j 0 = (((l.getD j 0).toNat : Nat) : Int) := by omega
        have e3 : shlI .i64 (1 : Int) (l.getD j 0) = some ((2 ^ (l.getD j 0).toNat : Nat) : Int) := by rw [e2, Int.toNat_natCast]; exact shl_word (by omega)
        rw [this, e3]
        simp only [Bool.not_true, Bool.false_eq_true, if_false, Option.bind_some, if_true]
        unfold labF
        rw [orW (by omega : T.length ≤ 62) hm (by unfold labF at hlt; exact hlt)]) l.length 0 0 (by omega) (Nat.two_pow_pos _)
    by_cases ha : ∀ j, 0 ≤ j → j < l.length → labOk T l j = true
    · obtain ⟨q, _, q1, q2, q3⟩ := s1.1 ha
      obtain ⟨p, _, p1, p2, p3⟩ := s2.1 ha
      have : p = q := eq_of_bits fun k => by rw [p3, q3]
      subst this
      have q2' : forN (fun k s => p_spec_SubringFrom_L1 l T k s) l.length 0 (1 : Int) = _ := q2
      have p2' : forN (fun k s => p_impl_SubringFrom_L1 l T k s) l.length 0 (0 : Int) = _ := p2
      rw [q2', p2']
      simp only [Option.bind_some, onRes, Nat.zero_or]
      rw [from_eq h (or_lt h.one_lt q1), closed_eq h q1, Nat.or_comm]
      exact ⟨_, rfl, rfl⟩
    · have q2' : forN (fun k s => p_spec_SubringFrom_L1 l T k s) l.length 0 (1 : Int) = _ := s1.2 ha
      have p2' : forN (fun k s => p_impl_SubringFrom_L1 l T k s) l.length 0 (0 : Int) = _ := s2.2 ha
      rw [q2', p2']
      exact ⟨_, rfl, rfl⟩
theorem plain_FnExactSubringFrom (aR_Table : (List (List (List Int)))) (aList : List Int) (h0 : Good3 .i64 aR_Table) (h1 : Good1 .i64 aList) : p_laws_FnExactSubringFrom aR_Table aList = some true := by
  unfold p_laws_FnExactSubringFrom
  by_cases hl : (aList.length : Int) > 1048576
  · simp [hl]
  · simp only [hl, decide_false, Bool.false_eq_true, if_false]
    obtain ⟨r, e, hr, hs⟩ := szRing_spec aR_Table 1048576 (by decide) (by decide) h0
    rw [e]
    simp only [Option.bind_some]
    by_cases hr0 : r < 0
    · simp [hr0]
    · simp only [hr0, decide_false, Bool.false_eq_true, if_false]
      obtain ⟨x, e1, e2⟩ := subFrom_eq aR_Table aList
      simp only [toRing_eq aR_Table hs (by omega), toInt64S_eq aList (by omega), Option.bind_some, e1, e2, eqRing_self, eqS_self]
      simp
end Go.VG
