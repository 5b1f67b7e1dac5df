/- The plain law of FnExactBoundsOf. No condition but the readings'. -/
import Derived.Test.YtlcedidbkhedjaaPlWeights
set_option linter.all false
namespace Go.VG
section
variable {T : List (List (List Int))}
theorem bounds_eq (h : Cube T) {i : Int} (h0 : 0 ≤ i) (h1 : i < T.length) {w : List Int} (hw : w.length = T.length) : ∃ r, p_spec_l04Bounds T i w = some r ∧ p_impl_Ring_boundsOf T i w = some r := by
  have hn := h.1
  obtain ⟨a, rfl⟩ : ∃ a : Nat, i = (a : Int) := ⟨i.toNat, by omega⟩
  have ha : a < T.length := by omega
  have tot : ∃ s, forN (R := Unit) (fun k (s : Int × Int × Int × Int) => p_impl_Ring_boundsOf_L1 (T.getD a []) w k s.1 s.2.1 s.2.2.1 s.2.2.2) T.length 0 ((0 : Int), (0 : Int), (0 : Int), (0 : Int)) = some (.fin s) ∧ True := by
    refine forN_inv (fun _ _ => True) trivial fun j s hj _ => ?_
    obtain ⟨v, e, _⟩ := forN_inv (R := Unit) (body := fun k s => p_impl_Ring_boundsOf_L2 ((T.getD a []).getD j []) w k s) (N := T.length) (s := 0) (fun _ _ => True) trivial fun k s hk _ => by
      simp only [p_impl_Ring_boundsOf_L2, h.i3 ha hj hk, idx_getD w 0 (by omega : k < w.length), Option.bind_some]
      exact ⟨_, rfl, trivial⟩
    simp only [p_impl_Ring_boundsOf_L1, h.i2 ha hj, Option.bind_some, h.row ha hj, e, onRes, idx_getD w 0 (by omega : j < w.length)]
    by_cases c1 : ((j : Int) == 0) = true
    · simp only [c1, if_true, Option.bind_some]
      exact ⟨_, rfl, trivial⟩
    · simp only [c1, if_false, Option.bind_some]
      by_cases c2 : decide (w64 (v * s.2.1) < w64 (s.1 * w.getD j 0)) = true <;> simp only [c2, if_true, if_false, Option.bind_some] <;>
      (by_cases c3 : decide (w64 (v * s.2.2.2) > w64 (s.2.2.1 * w.getD j 0)) = true <;> simp only [c3, if_true, if_false, Option.bind_some] <;> exact ⟨_, rfl, trivial⟩)
  obtain ⟨s, es, _⟩ := tot
  unfold p_spec_l04Bounds p_impl_Ring_boundsOf
  rw [h.i1 ha, hw]
  simp only [Option.bind_some, h.mat ha, es, onRes]
  rw [forN_congr (b' := fun k (s : Int × Int × Int × Int) => p_impl_Ring_boundsOf_L1 (T.getD a []) w k s.1 s.2.1 s.2.2.1 s.2.2.2) T.length 0 _ (fun j s hj => by
    have hj : j < T.length := by omega
    simp only [p_spec_l04Bounds_L1, p_impl_Ring_boundsOf_L1, h.i2 ha hj, Option.bind_some, h.row ha hj, hw]
    rw [forN_congr (b' := fun k s => p_impl_Ring_boundsOf_L2 ((T.getD a []).getD j []) w k s) T.length 0 (0 : Int) (fun k s hk => by
      have hk : k < T.length := by omega
      simp only [p_spec_l04Bounds_L2, p_impl_Ring_boundsOf_L2, h.i1 ha, h.i2 ha hj, h.i3 ha hj hk, Option.bind_some])]), es]
  exact ⟨_, rfl, rfl⟩
end
theorem boundsOf_eq (T : List (List (List Int))) (i t : Int) : ∃ x, p_spec_BoundsOf T i t = some x ∧ p_impl_BoundsOf T i t = some x := by
  unfold p_spec_BoundsOf p_impl_BoundsOf
  obtain ⟨b, e1, hb⟩ := specIs (T := T)
  have e2 : p_impl_IsRing T = some b := by rw [← e1]; exact (implIs.eq specIs)
  rw [e1, e2]
  simp only [Option.bind_some]
  cases b
  · exact ⟨_, rfl, rfl⟩
  · have hr := hb.1 rfl
    have hn := hr.cube.1
    have el : w64 ((T.length : Int) - 1) = (T.length : Int) - 1 := w64_small (by omega) (by omega)
    simp only [Bool.not_true, Bool.false_eq_true, if_false, p_spec_l03Label, p_impl_Ring_isLabel, p_spec_l01In, p_impl_within, Option.bind_some, el]
    by_cases hi : 0 ≤ i ∧ i ≤ (T.length : Int) - 1
    · have ei : (decide (i ≥ 0) && decide (i ≤ (T.length : Int) - 1)) = true := by simpa using hi
      simp only [ei, Bool.not_true, Bool.false_eq_true, if_false, Option.bind_some]
      by_cases ht : 0 ≤ t ∧ t ≤ 20
      · have ec : (decide (t ≥ 0) && decide (t ≤ 20)) = true := by simpa using ht
        simp only [ec, Bool.not_true, Bool.false_eq_true, if_false]
        rcases weights_eq hr.cube ht.1 ht.2 with ⟨e1, e2⟩ | ⟨v, hv, e1, e2⟩
        · rw [e1, e2]; exact ⟨_, rfl, rfl⟩
        · obtain ⟨r, e3, e4⟩ := bounds_eq hr.cube hi.1 (by omega) hv
          rw [e1, e2]
          simp only [Option.bind_some, Bool.not_true, Bool.false_eq_true, if_false, bne_self_eq_false, e3, e4]
          exact ⟨_, rfl, rfl⟩
      · have ec : (decide (t ≥ 0) && decide (t ≤ 20)) = false := by
          cases hh : (decide (t ≥ 0) && decide (t ≤ 20)) with
          | false => rfl
          | true => exact absurd (by simpa using hh) ht
        simp only [ec, Bool.not_false, if_true]
        exact ⟨_, rfl, rfl⟩
    · have ei : (decide (i ≥ 0) && decide (i ≤ (T.length : Int) - 1)) = false := by
        cases hh : (decide (i ≥ 0) && decide (i ≤ (T.length : Int) - 1)) with
        | false => rfl
        | true => exact absurd (by simpa using hh) hi
      simp only [ei, Bool.not_false, if_true, Option.bind_some]
      exact ⟨_, rfl, rfl⟩
theorem eqBounds_self (a b c d : Int) : p_laws_eqBounds a b c d a b c d = some true := by simp [p_laws_eqBounds]
theorem plain_FnExactBoundsOf (aR_Table : (List (List (List Int)))) (aI : Int) (aT : Int) (h0 : Good3 .i64 aR_Table) (h1 : InR .i64 aI) (h2 : InR .i64 aT) : p_laws_FnExactBoundsOf aR_Table aI aT = some true := by
  unfold p_laws_FnExactBoundsOf
  obtain ⟨r, e, hr, hs⟩ := szRing_spec aR_Table 1048576 (by decide) (by decide) h0
  rw [e]
  simp only [Option.bind_some]
  by_cases hr0 : r < 0
  · simp [hr0]
  · simp only [hr0, decide_false, Bool.false_eq_true, if_false]
    obtain ⟨x, e1, e2⟩ := boundsOf_eq aR_Table aI aT
    simp only [toRing_eq aR_Table hs (by omega), Option.bind_some, e1, e2, eqRing_self, eqBounds_self]
    simp
end Go.VG
