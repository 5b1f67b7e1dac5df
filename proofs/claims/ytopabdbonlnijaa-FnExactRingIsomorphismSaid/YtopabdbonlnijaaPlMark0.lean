/- Marks: what a law writes into slices that it has handed out or been given, and finds again. No condition but sizes. -/
import Derived.Test.YtopabdbonlnijaaPlMarkL
set_option linter.all false
namespace Go.VG
theorem markS_held (a : List Int) (k : Int) (h0 : 0 ≤ k) (h1 : k + a.length ≤ 9000000000000000000) : ∃ l, p_laws_markInt64S a k = some (k + a.length, l) ∧ l.length = a.length ∧ p_laws_heldInt64S l k = some (k + a.length) := by
  obtain ⟨s, e, h2, h3, h4⟩ := forN_inv (R := Unit) (N := a.length) (s := (a, k)) (body := fun k s => p_laws_markInt64S_L1 k s.1 s.2) (fun j s => s.1.length = a.length ∧ s.2 = k + j ∧ forN (fun k x => p_laws_heldInt64S_L1 s.1 k x) j 0 k = some (.fin (k + j)))
    ⟨rfl, by simp, by simp [forN]⟩ (fun j s hj hs => by
      obtain ⟨g1, g2, g3⟩ := hs
      have hj' : j < s.1.length := by omega
      simp only [p_laws_markInt64S_L1, idx_getD s.1 0 hj', Option.bind_some, Int.toNat_natCast]
      refine ⟨_, rfl, by simp [g1], ?_, ?_⟩
      · rw [g2, w64_small (by omega) (by omega)]; omega
      · refine forN_snoc (s1 := k + j) ?_ ?_ ?_
        · rw [← g3]
          refine forN_congr' j 0 k (fun i x hi => ?_)
          simp only [p_laws_heldInt64S_L1]
          rw [idx_getD _ 0 (by simp; omega : i < (s.1.set j s.2).length), idx_getD _ 0 (by omega : i < s.1.length), getD_set_ne _ _ _ (by omega)]
        · simp only [p_laws_heldInt64S_L1, Nat.zero_add]
          rw [idx_getD _ 0 (by simp; omega : j < (s.1.set j s.2).length), getD_set_eq _ _ _ hj', g2, w64_small (by omega) (by omega)]
          simp
          omega
        · intro i x hi x' hb
          simp only [p_laws_heldInt64S_L1] at hb
          cases hx : idx (s.1.set j s.2) (i : Int) with
          | none => rw [hx] at hb; cases hb
          | some y => rw [hx] at hb; simp only [Option.bind_some] at hb; split at hb <;> cases hb)
  refine ⟨s.1, ?_, h2, ?_⟩
  · unfold p_laws_markInt64S
    rw [e]
    simp [onRes, h3]
  · unfold p_laws_heldInt64S
    rw [h2, h4]; rfl

theorem markSS_ok (M : Nat) (hM : M ≤ 1048576) (a : List (List Int)) (k : Int) (h0 : 0 ≤ k) (ha : a.length ≤ M) (hr : ∀ x ∈ a, x.length ≤ M) (h1 : k + 1099511627776 ≤ 8000000000000000000) :
    ∃ l r, p_laws_markInt64SS a k = some (r, l) ∧ k ≤ r ∧ r ≤ k + 1099511627776 := by
  obtain ⟨s, e, h2, h3, h4, h5⟩ := forN_inv (R := Unit) (N := a.length) (s := (a, k)) (body := fun k s => p_laws_markInt64SS_L1 k s.1 s.2) (fun j s => s.1.length = a.length ∧ k ≤ s.2 ∧ s.2 ≤ k + j * 1048576 ∧ ∀ i, j ≤ i → i < a.length → s.1.getD i [] = a.getD i [])
    ⟨rfl, Int.le_refl _, by simp, fun _ _ _ => rfl⟩ (fun j s hj hs => by
      obtain ⟨g1, g2, g3, g4⟩ := hs
      have hrow := hr _ (getD_mem (d := []) hj)
      have hl : ((a.getD j []).length : Int) ≤ 1048576 := by omega
      have hjM : (j : Int) ≤ 1048575 := by omega
      obtain ⟨l, e1, e2, _⟩ := markS_held (a.getD j []) s.2 (by omega) (by omega)
      simp only [p_laws_markInt64SS_L1, idx_getD s.1 [] (by omega : j < s.1.length), g4 j (Nat.le_refl _) hj, Option.bind_some, e1, Int.toNat_natCast]
      refine ⟨_, rfl, by simp [g1], by simp only; omega, by simp only [Int.natCast_add]; omega, fun i hi hi' => ?_⟩
      simp only
      rw [getD_set_ne _ _ _ (by omega)]; exact g4 i (by omega) hi')
  refine ⟨s.1, s.2, ?_, h3, by omega⟩
  unfold p_laws_markInt64SS
  rw [e]; rfl
theorem markSSS_ok (M : Nat) (hM : M ≤ 1048576) (a : List (List (List Int))) (k : Int) (h0 : 0 ≤ k) (ha : a.length ≤ M) (hr : ∀ x ∈ a, x.length ≤ M ∧ ∀ y ∈ x, y.length ≤ M) (h1 : k ≤ 4000000000000000000) :
    ∃ l r, p_laws_markInt64SSS a k = some (r, l) ∧ k ≤ r ∧ r ≤ k + 1152921504606846976 := by
  obtain ⟨s, e, h2, h3, h4, h5⟩ := forN_inv (R := Unit) (N := a.length) (s := (a, k)) (body := fun k s => p_laws_markInt64SSS_L1 k s.1 s.2) (fun j s => s.1.length = a.length ∧ k ≤ s.2 ∧ s.2 ≤ k + j * 1099511627776 ∧ ∀ i, j ≤ i → i < a.length → s.1.getD i [] = a.getD i [])
    ⟨rfl, Int.le_refl _, by simp, fun _ _ _ => rfl⟩ (fun j s hj hs => by
      obtain ⟨g1, g2, g3, g4⟩ := hs
      have hrow := hr _ (getD_mem (d := []) hj)
      have hjM : (j : Int) ≤ 1048575 := by omega
      obtain ⟨l, r, e1, e2, e3⟩ := markSS_ok M hM (a.getD j []) s.2 (by omega) hrow.1 hrow.2 (by omega)
      simp only [p_laws_markInt64SSS_L1, idx_getD s.1 [] (by omega : j < s.1.length), g4 j (Nat.le_refl _) hj, Option.bind_some, e1, Int.toNat_natCast]
      refine ⟨_, rfl, by simp [g1], by simp only; omega, by simp only [Int.natCast_add]; omega, fun i hi hi' => ?_⟩
      simp only
      rw [getD_set_ne _ _ _ (by omega)]; exact g4 i (by omega) hi')
  refine ⟨s.1, s.2, ?_, h3, by omega⟩
  unfold p_laws_markInt64SSS
  rw [e]; rfl
end Go.VG
