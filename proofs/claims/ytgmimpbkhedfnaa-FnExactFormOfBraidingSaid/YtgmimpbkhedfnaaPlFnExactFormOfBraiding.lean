/- The plain law of FnExactFormOfBraiding. No condition but the readings'. -/
import Derived.Test.YtgmimpbkhedfnaaPlBraidMark
import Derived.Test.YtgmimpbkhedfnaaPlOwn1
import Derived.Test.YtgmimpbkhedfnaaPlClone
set_option linter.all false
namespace Go.VG
section
variable {o : List Int} {m : Int} {V : List (List (List Int))} {c : List (List Int)}
theorem specGroup (hp : ∀ x ∈ o, 1 ≤ x) (h1 : 1 ≤ o.length) (h8 : prodL o ≤ 8) : Says (p_spec_l10Orders o) (o.length ≤ 4 ∧ ∀ k, k < o.length → 2 ≤ o.getD k 0 ∧ o.getD k 0 ≤ 16) := by
  unfold p_spec_l10Orders p_spec_l09Orders
  by_cases h4 : o.length ≤ 4
  · have e : (decide ((o.length : Int) < 1) || decide ((o.length : Int) > 4)) = false := by simp only [Bool.or_eq_false_iff, decide_eq_false_iff_not]; omega
    simp only [e, Bool.false_eq_true, if_false]
    have key : ∀ (q k : Nat) (s : Int), k + q = o.length → 1 ≤ s → s * prodL (o.drop k) ≤ 8 →
        (forN (fun k s => p_spec_l09Orders_L1 o k s) q k s = some (.fin (s * prodL (o.drop k))) ∧ ∀ j, k ≤ j → j < o.length → 2 ≤ o.getD j 0 ∧ o.getD j 0 ≤ 16) ∨
        (forN (fun k s => p_spec_l09Orders_L1 o k s) q k s = some (.ret false) ∧ ¬ ∀ j, k ≤ j → j < o.length → 2 ≤ o.getD j 0 ∧ o.getD j 0 ≤ 16) := by
      intro q
      induction q with
      | zero =>
        intro k s hk hs hP
        have : o.drop k = [] := List.drop_eq_nil_of_le (by omega)
        rw [this]
        exact .inl ⟨by simp [forN, prodL], fun j h1 h2 => by omega⟩
      | succ q ih =>
        intro k s hk hs hP
        have hkl : k < o.length := by omega
        have hx := hp _ (getD_mem (d := (0 : Int)) hkl)
        have hpos : 1 ≤ prodL (o.drop (k + 1)) := prodL_pos fun x hx => hp x (List.mem_of_mem_drop hx)
        rw [getD_drop_step hkl] at hP ⊢
        rw [← Int.mul_assoc] at hP ⊢
        by_cases hr : 2 ≤ o.getD k 0 ∧ o.getD k 0 ≤ 16
        · have er : (decide (o.getD k 0 ≥ 2) && decide (o.getD k 0 ≤ 16)) = true := by simpa using hr
          have hsx : 1 ≤ s * o.getD k 0 := by
            have := Int.mul_le_mul hs hx (by decide) (by omega)
            omega
          have h9 := le_mul_r (a := s * o.getD k 0) (by omega) hpos
          have hb : p_spec_l09Orders_L1 o k s = some (.next (s * o.getD k 0)) := by
            simp only [p_spec_l09Orders_L1, p_spec_l01In, idx_getD o 0 hkl, Option.bind_some, er, Bool.not_true, Bool.false_eq_true, if_false]
            rw [w64_small (by omega) (by omega)]
          rw [forN_next1 hb]
          rcases ih (k + 1) (s * o.getD k 0) (by omega) hsx hP with ⟨e, h⟩ | ⟨e, h⟩
          · refine .inl ⟨e, fun j j1 j2 => ?_⟩
            by_cases hj : j = k
            · subst hj; exact hr
            · exact h j (by omega) j2
          · exact .inr ⟨e, fun hh => h fun j j1 j2 => hh j (by omega) j2⟩
        · have er : (decide (o.getD k 0 ≥ 2) && decide (o.getD k 0 ≤ 16)) = false := by
            cases hh : (decide (o.getD k 0 ≥ 2) && decide (o.getD k 0 ≤ 16)) with
            | false => rfl
            | true => exact absurd (by simpa using hh) hr
          have hb : p_spec_l09Orders_L1 o k s = some (.ret false) := by
            simp only [p_spec_l09Orders_L1, p_spec_l01In, idx_getD o 0 hkl, Option.bind_some, er, Bool.not_false, if_true]
          exact .inr ⟨forN_ret1 hb, fun hh => hr (hh k (Nat.le_refl _) hkl)⟩
    have := key o.length 0 1 (by omega) (by decide) (by simpa using h8)
    simp only [List.drop_zero, Int.one_mul] at this
    rcases this with ⟨e, h⟩ | ⟨e, h⟩
    · rw [e]
      have e16 : decide (prodL o ≤ 16) = true := decide_eq_true (by omega)
      simp only [Option.bind_some, onRes, e16]
      exact ⟨true, rfl, ⟨fun _ => ⟨h4, fun k hk => h k (Nat.zero_le _) hk⟩, fun _ => rfl⟩⟩
    · rw [e]
      exact ⟨false, rfl, ⟨fun hh => (by cases hh), fun hh => absurd (fun j _ j2 => hh.2 j j2) h⟩⟩
  · have e : (decide ((o.length : Int) < 1) || decide ((o.length : Int) > 4)) = true := by
      have : decide ((o.length : Int) > 4) = true := decide_eq_true (by omega)
      rw [this, Bool.or_true]
    simp only [e, if_true]
    exact ⟨false, rfl, ⟨fun hh => (by cases hh), fun hh => absurd hh.1 h4⟩⟩
theorem implGroup (h : CocOK o m V) : Says (p_impl_isGroup o) (o.length ≤ 4 ∧ ∀ k, k < o.length → 2 ≤ o.getD k 0 ∧ o.getD k 0 ≤ 16) := by
  unfold p_impl_isGroup
  have hs := h.small
  by_cases h4 : o.length ≤ 4
  · have e : decide ((o.length : Int) ≤ 4) = true := decide_eq_true (by omega)
    obtain ⟨b, f1, f2⟩ := allWithin_says o 2 16
    simp only [e, if_true, f1, Option.bind_some]
    cases b
    · simp only [Bool.false_eq_true, if_false, Option.bind_some]
      exact ⟨false, rfl, ⟨fun hh => (by cases hh), fun hh => absurd (f2.2 hh.2) (by simp)⟩⟩
    · have hall := f2.1 rfl
      obtain ⟨s, g1, g2, g3⟩ := implSize (o := o)
      have hsz : s = V.length := by
        have := g2.2 ⟨h.ne, h.pos, by rw [h.size]; omega⟩
        rw [g3 this, h.size]
      have h2 : 2 ≤ prodL o := by
        have hne := h.ne
        have e0 : o = o.getD 0 0 :: o.drop 1 := by
          cases o with
          | nil => simp at hne
          | cons x l => rfl
        have hx := hall 0 (by omega)
        have hpos : 1 ≤ prodL (o.drop 1) := prodL_pos fun x hx => h.pos x (List.mem_of_mem_drop hx)
        rw [e0]
        simp only [prodL]
        have := le_mul_r (a := o.getD 0 0) (by omega) hpos
        omega
      have hsize := h.size
      have ec : (decide (s ≥ 2) && decide (s ≤ 16)) = true := by
        have : 2 ≤ s ∧ s ≤ 16 := by omega
        simpa using this
      simp only [if_true, g1, p_impl_within, ec, Option.bind_some]
      exact ⟨true, rfl, ⟨fun _ => ⟨h4, hall⟩, fun _ => rfl⟩⟩
  · have e : decide ((o.length : Int) ≤ 4) = false := decide_eq_false (by omega)
    simp only [e, Bool.false_eq_true, if_false, Option.bind_some]
    exact ⟨false, rfl, ⟨fun hh => (by cases hh), fun hh => absurd hh.1 h4⟩⟩
theorem form_eq (hl : (o.length : Int) ≤ 1048576) : ∃ r, p_spec_FormOfBraiding o m V c = some r ∧ p_impl_FormOfBraiding o m V c = some r ∧ (r.1.length : Int) ≤ 1048576 ∧ (r.2.2.1.length : Int) ≤ 8 := by
  unfold p_spec_FormOfBraiding p_impl_FormOfBraiding
  obtain ⟨b, e1, e2, hb⟩ := braid_eq (o := o) (m := m) (V := V) (c := c) hl
  rw [e1, e2]
  simp only [Option.bind_some]
  cases b
  · exact ⟨([], 0, [], 1), rfl, rfl, by simp, by simp⟩
  obtain ⟨h, hp⟩ := hb rfl
  have hs := h.small
  have hcl := hp.1.1
  have hsg := specGroup h.pos h.ne (by rw [h.size]; omega)
  obtain ⟨d, f1, f2⟩ := hsg
  have f3 : p_impl_isGroup o = some d := by rw [← f1]; exact ((implGroup h).eq (specGroup h.pos h.ne (by rw [h.size]; omega)))
  have hdv : ∃ q, p_spec_l01Divisor m = some q ∧ p_impl_isOrder m = some q := by
    unfold p_spec_l01Divisor p_impl_isOrder
    have hm := h.mod
    have e : decide (m ≥ 1) = true := decide_eq_true (by omega)
    have hne : m ≠ 0 := by omega
    simp only [e, if_true, remI, ne_eq, hne, not_false_eq_true, Option.bind_some]
    exact ⟨_, rfl, rfl⟩
  obtain ⟨q, q1, q2⟩ := hdv
  have loop : ∃ l, forN (R := Unit) (fun k s => p_spec_FormOfBraiding_L1 c k s) c.length 0 ([] : List Int) = some (.fin l) ∧ forN (R := Unit) (fun k s => p_impl_FormOfBraiding_L1 c k s) c.length 0 ([] : List Int) = some (.fin l) ∧ (l.length : Int) ≤ 8 := by
    refine ⟨(List.range V.length).map (fun i => at2 c i i), ?_, ?_, by simp; omega⟩
    · rw [hcl]
      refine forN_app (fun i => at2 c i i) fun i hi => ?_
      simp only [p_spec_FormOfBraiding_L1, hp.i1 hi, hp.i2 hi hi, Option.bind_some]
      rw [appL_range (fun i => at2 c i i) (by omega)]
      rfl
    · rw [hcl]
      refine forN_app (fun i => at2 c i i) fun i hi => ?_
      simp only [p_impl_FormOfBraiding_L1, hp.i1 hi, hp.i2 hi hi, Option.bind_some]
      rw [appL_range (fun i => at2 c i i) (by omega)]
      rfl
  obtain ⟨l, l1, l2, l3⟩ := loop
  simp only [Bool.not_true, Bool.false_eq_true, if_false, f1, f3, q1, q2, Option.bind_some, own1_eq o (by omega), clone1_eq o (by omega), l1, l2, onRes]
  cases d
  · exact ⟨([], 0, [], 5), rfl, rfl, by simp, by simp⟩
  cases q
  · exact ⟨([], 0, [], 5), rfl, rfl, by simp, by simp⟩
  exact ⟨_, rfl, rfl, hl, l3⟩
end
theorem eqMetric_self (a : List Int) (m : Int) (v : List Int) : p_laws_eqMetric a m v a m v = some true := by simp [p_laws_eqMetric, eqS_self]
theorem markMetric_held (a : List Int) (m m2 : Int) (v : List Int) (ha : (a.length : Int) ≤ 1048576) (hv : (v.length : Int) ≤ 1048576) : ∃ q, p_laws_markMetric a m v 1 = some q ∧ 0 ≤ q.1 ∧ p_laws_heldMetric q.2.1 m2 q.2.2 1 = some q.1 := by
  unfold p_laws_markMetric p_laws_heldMetric
  obtain ⟨l1, e1, _, h1⟩ := markS_held a 1 (by decide) (by omega)
  obtain ⟨l2, e2, _, h2⟩ := markS_held v (1 + a.length) (by omega) (by omega)
  rw [e1]
  simp only [Option.bind_some, e2]
  have n1 : ¬ (1 + (a.length : Int)) < 0 := by omega
  have n2 : ¬ (1 + (a.length : Int) + (v.length : Int)) < 0 := by omega
  exact ⟨_, rfl, by simp only; omega, by simp only [h1, Option.bind_some, n1, n2, decide_false, Bool.false_eq_true, if_false, h2]⟩
theorem plain_FnExactFormOfBraiding (aB_Cocycle_Orders : (List Int)) (aB_Cocycle_Modulus : Int) (aB_Cocycle_Values : (List (List (List Int)))) (aB_Values : (List (List Int))) (h0 : Good1 .i64 aB_Cocycle_Orders) (h1 : InR .i64 aB_Cocycle_Modulus) (h2 : Good3 .i64 aB_Cocycle_Values) (h3 : Good2 .i64 aB_Values) : p_laws_FnExactFormOfBraiding aB_Cocycle_Orders aB_Cocycle_Modulus aB_Cocycle_Values aB_Values = some true := by
  unfold p_laws_FnExactFormOfBraiding
  obtain ⟨r, e, hr⟩ := szBraiding_spec (m := aB_Cocycle_Modulus) h0 h2 h3
  rw [e]
  simp only [Option.bind_some]
  by_cases hr0 : r < 0
  · simp [hr0]
  · obtain ⟨et, ho, hV, hc⟩ := hr (by omega)
    obtain ⟨x, e1, e2, g3, g4⟩ := form_eq (o := aB_Cocycle_Orders) (m := aB_Cocycle_Modulus) (V := aB_Cocycle_Values) (c := aB_Values) ho
    obtain ⟨q, e4, e5⟩ := markBraiding_ok aB_Cocycle_Orders aB_Cocycle_Modulus aB_Cocycle_Values aB_Values ho hV hc
    obtain ⟨qc, w1, w2, w3⟩ := markMetric_held x.1 x.2.1 x.2.1 x.2.2.1 g3 (by omega)
    have hq : ¬ q.1 < 0 := by omega
    have hp : ¬ qc.1 < 0 := by omega
    simp only [hr0, decide_false, Bool.false_eq_true, if_false, et, Option.bind_some, e1, e2, eqBraiding_self, eqMetric_self, e4, w1, w3]
    simp [hq, hp]
end Go.VG
