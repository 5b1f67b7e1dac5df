/- The ring test: the model's and the code's twins say the same, and what they say. No condition. -/
import Derived.Test.YtopabdbonlnijaaPlCom
import Derived.Test.YtopabdbonlnijaaPlRing0
set_option linter.all false
namespace Go.VG

def at3 (T : List (List (List Int))) (i j k : Nat) : Int := ((T.getD i []).getD j []).getD k 0
def RowOK (n : Nat) (r : List Int) : Prop := r.length = n ∧ ∀ k, k < n → 0 ≤ r.getD k 0 ∧ r.getD k 0 ≤ 1000
def MatOK (n : Nat) (m : List (List Int)) : Prop := m.length = n ∧ ∀ j, j < n → RowOK n (m.getD j [])
def Cube (T : List (List (List Int))) : Prop := (1 ≤ T.length ∧ T.length ≤ 16) ∧ ∀ i, i < T.length → MatOK T.length (T.getD i [])

section
variable {T : List (List (List Int))}
theorem Cube.mat (h : Cube T) {i : Nat} (hi : i < T.length) : (T.getD i []).length = T.length := (h.2 i hi).1
theorem Cube.row (h : Cube T) {i j : Nat} (hi : i < T.length) (hj : j < T.length) : ((T.getD i []).getD j []).length = T.length := ((h.2 i hi).2 j hj).1
theorem Cube.rng (h : Cube T) {i j k : Nat} (hi : i < T.length) (hj : j < T.length) (hk : k < T.length) : 0 ≤ at3 T i j k ∧ at3 T i j k ≤ 1000 := ((h.2 i hi).2 j hj).2 k hk
theorem Cube.i1 (h : Cube T) {i : Nat} (hi : i < T.length) : idx T (i : Int) = some (T.getD i []) := idx_getD _ _ hi
theorem Cube.i2 (h : Cube T) {i j : Nat} (hi : i < T.length) (hj : j < T.length) : idx (T.getD i []) (j : Int) = some ((T.getD i []).getD j []) := idx_getD _ _ (by rw [h.mat hi]; exact hj)
theorem Cube.i3 (h : Cube T) {i j k : Nat} (hi : i < T.length) (hj : j < T.length) (hk : k < T.length) : idx ((T.getD i []).getD j []) (k : Int) = some (at3 T i j k) := idx_getD _ _ (by rw [h.row hi hj]; exact hk)
theorem Cube.i10 (h : Cube T) : idx T (0 : Int) = some (T.getD 0 []) := h.i1 (i := 0) (by have := h.1.1; omega)
theorem Cube.i20 (h : Cube T) {i : Nat} (hi : i < T.length) : idx (T.getD i []) (0 : Int) = some ((T.getD i []).getD 0 []) := h.i2 (j := 0) hi (by have := h.1.1; omega)
theorem Cube.i30 (h : Cube T) {i j : Nat} (hi : i < T.length) (hj : j < T.length) : idx ((T.getD i []).getD j []) (0 : Int) = some (at3 T i j 0) := h.i3 (k := 0) hi hj (by have := h.1.1; omega)

theorem specCube : Says (p_spec_l03Cube T) (Cube T) := by
  unfold p_spec_l03Cube
  by_cases hn : 1 ≤ T.length ∧ T.length ≤ 16
  · have e : (decide ((T.length : Int) < 1) || decide ((T.length : Int) > 16)) = false := by simp; omega
    rw [e]
    simp only [Bool.false_eq_true, if_false]
    refine Says.congr (Chk.says (forN_chk (P := fun i => MatOK T.length (T.getD i [])) fun i hi _ => ?_)) ⟨fun h => ⟨hn, h⟩, fun h => h.2⟩
    simp only [p_spec_l03Cube_L1, idx_getD T [] hi, Option.bind_some]
    refine ChkC.congr (ChkC.iteAnd rfl fun hl => ChkC.loop (forN_chk (P := fun j => RowOK T.length ((T.getD i []).getD j [])) fun j hj _ => ?_)) ?_
    · have hl' := (bne_len _ _).1 hl
      simp only [p_spec_l03Cube_L2, idx_getD (T.getD i []) [] (by omega : j < (T.getD i []).length), Option.bind_some]
      refine ChkC.congr (ChkC.iteAnd rfl fun hl2 => ChkC.loop (forN_chk (P := fun k => 0 ≤ ((T.getD i []).getD j []).getD k 0 ∧ ((T.getD i []).getD j []).getD k 0 ≤ 1000) fun k hk _ => ?_)) ?_
      · have hl2' := (bne_len _ _).1 hl2
        simp only [p_spec_l03Cube_L3, p_spec_l01In, idx_getD ((T.getD i []).getD j []) 0 (by omega : k < ((T.getD i []).getD j []).length), Option.bind_some]
        exact ChkC.congr (ChkC.ite rfl) (by simp)
      · rw [bne_len]; rfl
    · rw [bne_len]; rfl
  · have e : (decide ((T.length : Int) < 1) || decide ((T.length : Int) > 16)) = true := by simp; omega
    rw [e]
    exact ⟨false, rfl, by simp; intro h; exact hn h.1⟩

theorem isCube_says : Says (p_impl_isCube T) (Cube T) := by
  unfold p_impl_isCube
  have := forN_chk (N := T.length) (R := Bool) (Bad := fun r => r = false) (body := fun k s => p_impl_isCube_L1 T k) (P := fun i => MatOK T.length (T.getD i [])) fun i hi _ => by
    simp only [p_impl_isCube_L1, idx_getD T [] hi, Option.bind_some]
    refine ChkC.congr (ChkC.bindB (Says.or fun hl => Says.id (indexFunc_l (Q := fun j => ¬ RowOK T.length ((T.getD i []).getD j [])) fun j hj => ?_)) rfl) ?_
    · simp only [p_impl_isCube_c1]
      refine Says.congr (Says.id (Says.or fun hl2 => Says.not (allWithin_says _ 0 1000))) ?_
      rw [← Bool.not_eq_false, bne_len]
      constructor
      · rintro (h | h) hr
        · exact h hr.1
        · exact h (fun k hk => hr.2 k (by rw [← hr.1]; exact hk))
      · intro h
        by_cases hl : ((T.getD i []).getD j []).length = T.length
        · exact .inr fun hh => h ⟨hl, fun k hk => hh k (by rw [hl]; exact hk)⟩
        · exact .inl hl
    · rw [← Bool.not_eq_false, bne_len]
      constructor
      · intro h
        have hl : (T.getD i []).length = T.length := Decidable.byContradiction fun hc => h (.inl hc)
        exact ⟨hl, fun j hj => Classical.byContradiction fun hc => h (.inr ⟨j, by omega, hc⟩)⟩
      · rintro hm (h | ⟨j, hj, h⟩)
        · exact h hm.1
        · exact h (hm.2 j (by rw [← hm.1]; exact hj))
  rcases this with ⟨h1, h2⟩ | ⟨h1, r, h2, rfl⟩
  · rw [h2]
    refine ⟨_, rfl, ?_⟩
    simp only [Bool.and_eq_true, decide_eq_true_eq]
    exact ⟨fun h => ⟨⟨by omega, by omega⟩, h1⟩, fun h => ⟨by have := h.1; omega, by have := h.1; omega⟩⟩
  · rw [h2]
    exact ⟨false, rfl, by simp; exact fun h => h1 h.2⟩
end
end Go.VG
