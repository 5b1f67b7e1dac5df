/- The weights: model and code step alike, and stop alike. -/
import Derived.Test.YtlcedidbkhedjaaPlRing2
set_option linter.all false
namespace Go.VG
section
variable {T : List (List (List Int))}
theorem next_eq (h : Cube T) {w : List Int} (hw : w.length = T.length) : p_spec_l04Next T w = p_impl_Ring_nextWeights T w := by
  unfold p_spec_l04Next p_impl_Ring_nextWeights
  rw [hw]
  congr 1
  funext x10
  rw [forN_congr (b := fun k s => p_spec_l04Next_L1 T w k s) (b' := fun k s => p_impl_Ring_nextWeights_L1 T w k s) T.length 0 x10 (fun i s hi => by
    have hi : i < T.length := by omega
    simp only [p_spec_l04Next_L1, p_impl_Ring_nextWeights_L1, h.i1 hi, Option.bind_some, h.mat hi, hw]
    rw [forN_congr (b := fun k s => p_spec_l04Next_L2 T i w k s) (b' := fun k s => p_impl_Ring_nextWeights_L2 (T.getD i []) w k s) T.length 0 s (fun j s hj => by
      have hj : j < T.length := by omega
      simp only [p_spec_l04Next_L2, p_impl_Ring_nextWeights_L2, h.i2 hi hj, Option.bind_some, h.row hi hj, hw]
      rw [forN_congr (b := fun k s => p_spec_l04Next_L3 j T i w k s) (b' := fun k s => p_impl_Ring_nextWeights_L3 ((T.getD i []).getD j []) j w k s) T.length 0 s (fun k s hk => by
        have hk : k < T.length := by omega
        simp only [p_spec_l04Next_L3, p_impl_Ring_nextWeights_L3, h.i1 hi, h.i2 hi hj, h.i3 hi hj hk, Option.bind_some])])])]
theorem next_ok (h : Cube T) {w : List Int} (hw : w.length = T.length) : ∃ v, p_impl_Ring_nextWeights T w = some v ∧ v.length = T.length := by
  unfold p_impl_Ring_nextWeights
  have hn := h.1
  rw [hw, mkL_some' 0 (by omega)]
  simp only [Option.bind_some]
  obtain ⟨s, h1, h2⟩ := forN_inv (R := Unit) (body := fun k s => p_impl_Ring_nextWeights_L1 T w k s) (N := T.length) (s := List.replicate T.length 0) (fun _ s => s.length = T.length) (by simp) (fun i s hi hs => by
    simp only [p_impl_Ring_nextWeights_L1, h.i1 hi, Option.bind_some, h.mat hi]
    obtain ⟨s, h1, h2⟩ := forN_inv (R := Unit) (body := fun k s => p_impl_Ring_nextWeights_L2 (T.getD i []) w k s) (N := T.length) (s := s) (fun _ s => s.length = T.length) hs (fun j s hj hs => by
      simp only [p_impl_Ring_nextWeights_L2, h.i2 hi hj, Option.bind_some, h.row hi hj]
      obtain ⟨s, h1, h2⟩ := forN_inv (R := Unit) (body := fun k s => p_impl_Ring_nextWeights_L3 ((T.getD i []).getD j []) j w k s) (N := T.length) (s := s) (fun _ s => s.length = T.length) hs (fun k s hk hs => by
        simp only [p_impl_Ring_nextWeights_L3, h.i3 hi hj hk, idx_getD s 0 (by omega : j < s.length), idx_getD w 0 (by omega : k < w.length), Option.bind_some]
        exact ⟨_, rfl, by simpa using hs⟩)
      rw [h1]
      exact ⟨s, rfl, h2⟩)
    rw [h1]
    exact ⟨s, rfl, h2⟩)
  rw [h1]
  exact ⟨s, rfl, h2⟩
theorem repeat_one {n : Nat} (h0 : 1 ≤ n) (h1 : n ≤ 16) : p_slices_Repeat_Lint64_int64 [1] (n : Int) = some (List.replicate n 1) := by
  have key : ∀ m : Nat, p_math_bits_Mul (IntKind.u64.wrap (([1] : List Int).length : Int)) (IntKind.u64.wrap (m : Int)) = some (0, (m : Int)) → mkL (w64 (m : Int)) (0 : Int) = some (List.replicate m 0) →
      iterW (R := Unit) (fun s : List Int × Int => p_slices_Repeat_Lint64_int64_L1 s.1 s.2) 8 ((cpyL (List.replicate m 0) (0 : Int) [1]), (cpyN (List.replicate m (0 : Int)) (0 : Int) [(1 : Int)])) = some (.fin (List.replicate m 1, (m : Int))) → m ≤ 16 → p_slices_Repeat_Lint64_int64 [1] (m : Int) = some (List.replicate m 1) := by
    intro m e1 e2 e3 hm
    unfold p_slices_Repeat_Lint64_int64
    have c1 : decide ((m : Int) < 0) = false := by simp
    have c2 : (decide ((0 : Int) > 0) || decide ((m : Int) > 9223372036854775807)) = false := by simp; omega
    simp only [c1, e1, c2, Bool.false_eq_true, if_false, Option.bind_some, e2]
    rw [whileC_of e3]
    rfl
  rcases (by omega : n = 1 ∨ n = 2 ∨ n = 3 ∨ n = 4 ∨ n = 5 ∨ n = 6 ∨ n = 7 ∨ n = 8 ∨ n = 9 ∨ n = 10 ∨ n = 11 ∨ n = 12 ∨ n = 13 ∨ n = 14 ∨ n = 15 ∨ n = 16) with h | h | h | h | h | h | h | h | h | h | h | h | h | h | h | h <;> subst h <;> exact key _ (by rfl) (by rfl) (by rfl) (by omega)
theorem max_spec {x : List Int} (h : 1 ≤ x.length) : ∃ m, p_slices_Max_Lint64_int64 x = some m ∧ (∀ k, k < x.length → x.getD k 0 ≤ m) ∧ ∃ k, k < x.length ∧ x.getD k 0 = m := by
  unfold p_slices_Max_Lint64_int64
  have e : decide ((x.length : Int) < 1) = false := by simp; omega
  simp only [e, Bool.false_eq_true, if_false, Option.bind_some, idx_zero x 0 (by omega : 0 < x.length)]
  have e2 : ((x.length : Int) - 1).toNat = x.length - 1 := by omega
  rw [e2]
  obtain ⟨s, h1, h2, h3⟩ := forN_inv (R := Unit) (body := fun k s => p_slices_Max_Lint64_int64_L1 x k s) (N := x.length - 1) (s := x.getD 0 0) (fun j s => (∀ k, k < j + 1 → x.getD k 0 ≤ s) ∧ ∃ k, k < x.length ∧ x.getD k 0 = s)
    ⟨fun k hk => by have : k = 0 := by omega
                    subst this; exact Int.le_refl _, 0, by omega, rfl⟩ (fun j s hj hs => by
      have ei : (1 : Int) + (j : Int) = ((j + 1 : Nat) : Int) := by omega
      simp only [p_slices_Max_Lint64_int64_L1, ei, idx_getD x 0 (by omega : j + 1 < x.length), Option.bind_some]
      refine ⟨_, rfl, fun k hk => ?_, ?_⟩
      · have := hs.1 k
        by_cases hkj : k = j + 1
        · subst hkj; split <;> omega
        · have := this (by omega)
          split <;> omega
      · split
        · exact ⟨j + 1, by omega, rfl⟩
        · exact hs.2)
  rw [h1]
  exact ⟨s, rfl, fun k hk => h2 k (by omega), h3⟩
/-- The two walks of the steps, one beside the other. -/
theorem steps_eq (h : Cube T) : ∀ (c k : Nat) (w : List Int), c ≤ 20 → w.length = T.length →
    (iterW (fun s : List Int × Int => p_spec_l04Weights_L2 T s.1 s.2) (c + 1) (w, (c : Int)) = some (.ret ([], false)) ∧ forN (fun k s => p_impl_Ring_weightsOf_L1 T k s) c k w = some (.ret ([], 3))) ∨
    ∃ v, v.length = T.length ∧ iterW (fun s : List Int × Int => p_spec_l04Weights_L2 T s.1 s.2) (c + 1) (w, (c : Int)) = some (.fin (v, 0)) ∧ forN (fun k s => p_impl_Ring_weightsOf_L1 T k s) c k w = some (.fin v)
  | 0, k, w, _, hw => .inr ⟨w, hw, by simp [iterW, p_spec_l04Weights_L2], rfl⟩
  | c + 1, k, w, hc, hw => by
    have hn := h.1
    obtain ⟨v, e, hv⟩ := next_ok h hw
    have ed : decide (((c + 1 : Nat) : Int) > 0) = true := by simp
    have ew : w64 (((c + 1 : Nat) : Int) - 1) = (c : Int) := by rw [w64_small (by omega) (by omega)]; omega
    obtain ⟨m, em, hm, k0, hk0, hk1⟩ := max_spec (x := v) (by omega)
    have hchk := forN_chk (R := List Int × Bool) (Bad := fun r => r = ([], false)) (body := fun k s => p_spec_l04Weights_L3 v k) (N := v.length) (P := fun j => ¬ v.getD j 0 > 1000000) fun j hj _ => by
      simp only [p_spec_l04Weights_L3, idx_getD v 0 hj, Option.bind_some]
      exact ChkC.congr (ChkC.ite rfl) (by simp)
    have es : p_spec_l04Next T w = some v := by rw [next_eq h hw, e]
    have eb : p_impl_Ring_weightsOf_L1 T k w = if decide (m > 1000000) = true then some (.ret ([], 3)) else some (.next v) := by
      simp only [p_impl_Ring_weightsOf_L1, e, em, Option.bind_some]
    rcases hchk with ⟨h1, h2⟩ | ⟨h1, r, h2, h3⟩
    · have hm' : decide (m > 1000000) = false := by have := h1 k0 hk0; rw [hk1] at this; simpa using this
      rw [hm'] at eb
      have e3 : p_spec_l04Weights_L2 T w ((c + 1 : Nat) : Int) = some (.next (v, (c : Int))) := by
        simp only [p_spec_l04Weights_L2, ed, if_true, es, Option.bind_some, h2, onRes, ew]
      rw [forN_next1 (body := fun k s => p_impl_Ring_weightsOf_L1 T k s) (by simpa using eb)]
      have e4 : iterW (fun s : List Int × Int => p_spec_l04Weights_L2 T s.1 s.2) (c + 1 + 1) (w, ((c + 1 : Nat) : Int)) = iterW (fun s : List Int × Int => p_spec_l04Weights_L2 T s.1 s.2) (c + 1) (v, (c : Int)) := by
        conv => lhs; unfold iterW
        simp only [e3]
      rw [e4]
      exact steps_eq h c (k + 1) v (by omega) hv
    · subst h3
      have hm' : decide (m > 1000000) = true := by
        apply Classical.byContradiction
        intro hh
        apply h1
        intro j hj
        have := hm j hj
        simp at hh
        omega
      rw [hm'] at eb
      have e3 : p_spec_l04Weights_L2 T w ((c + 1 : Nat) : Int) = some (.ret ([], false)) := by
        simp only [p_spec_l04Weights_L2, ed, if_true, es, Option.bind_some, h2, onRes]
      rw [forN_ret1 (body := fun k s => p_impl_Ring_weightsOf_L1 T k s) (by simpa using eb)]
      have e4 : iterW (fun s : List Int × Int => p_spec_l04Weights_L2 T s.1 s.2) (c + 1 + 1) (w, ((c + 1 : Nat) : Int)) = some (.ret ([], false)) := by
        conv => lhs; unfold iterW
        simp only [e3]
      exact .inl ⟨e4, rfl⟩
theorem ones_eq {n : Nat} (hn : n ≤ 16) : forN (R := Unit) (fun k s => p_spec_l04Weights_L1 k s) n 0 ([] : List Int) = some (.fin (List.replicate n 1)) := by
  have := forN_det (R := Unit) (N := n) (body := fun k s => p_spec_l04Weights_L1 k s) (fun k => List.replicate k (1 : Int)) (fun j hj => by
    simp only [p_spec_l04Weights_L1]
    rw [show appL (List.replicate j (1 : Int)) [1] = some (List.replicate (j + 1) 1) from by simp [appL, List.replicate_succ']; omega]
    rfl)
  simpa using this
/-- The weights at t steps, or none. -/
theorem weights_eq (h : Cube T) {t : Int} (h0 : 0 ≤ t) (h1 : t ≤ 20) :
    (p_spec_l04Weights T t = some ([], false) ∧ p_impl_Ring_weightsOf T t = some ([], 3)) ∨ ∃ v, v.length = T.length ∧ p_spec_l04Weights T t = some (v, true) ∧ p_impl_Ring_weightsOf T t = some (v, 0) := by
  have hn := h.1
  unfold p_spec_l04Weights p_impl_Ring_weightsOf
  rw [ones_eq hn.2, repeat_one hn.1 hn.2]
  simp only [Option.bind_some, onRes]
  have et : ((t.toNat : Nat) : Int) = t := by omega
  have := steps_eq h t.toNat 0 (List.replicate T.length 1) (by omega) (by simp)
  rw [et] at this
  rcases this with ⟨e1, e2⟩ | ⟨v, hv, e1, e2⟩
  · exact .inl ⟨by rw [whileC_of e1]; rfl, by rw [e2]; rfl⟩
  · exact .inr ⟨v, hv, by rw [whileC_of e1]; rfl, by rw [e2]; rfl⟩
end
end Go.VG
