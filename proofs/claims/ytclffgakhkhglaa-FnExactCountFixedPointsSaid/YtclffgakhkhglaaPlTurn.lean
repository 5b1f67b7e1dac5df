/- Transposed matrices, unit matrices, grids of zeros: the model's and the code's. No condition but sizes. -/
import Derived.Test.YtclffgakhkhglaaPlGrid
import Derived.Test.YtclffgakhkhglaaPlOpp
set_option linter.all false
namespace Go.VG
/-- A matrix's entry. -/
def at2 (m : List (List Int)) (i j : Nat) : Int := (m.getD i []).getD j 0
def Sq (n : Nat) (m : List (List Int)) : Prop := m.length = n ∧ ∀ i, i < n → (m.getD i []).length = n
def turnM (n : Nat) (m : List (List Int)) : List (List Int) := grid (fun j i => at2 m i j) n n
theorem Sq.eq {n : Nat} {m : List (List Int)} (h : Sq n m) : m = grid (at2 m) n n := eq_grid h.1 h.2
theorem Sq.i1 {n : Nat} {m : List (List Int)} (h : Sq n m) {i : Nat} (hi : i < n) : idx m (i : Int) = some (m.getD i []) := idx_getD _ _ (by rw [h.1]; exact hi)
theorem Sq.i2 {n : Nat} {m : List (List Int)} (h : Sq n m) {i j : Nat} (hi : i < n) (hj : j < n) : idx (m.getD i []) (j : Int) = some (at2 m i j) := idx_getD _ _ (by rw [h.2 i hi]; exact hj)
theorem grid_sq (f : Nat → Nat → Int) (n : Nat) : Sq n (grid f n n) := ⟨grid_len, fun i hi => by rw [grid_getD hi, rowG_len]⟩
theorem at2_grid {f : Nat → Nat → Int} {r c i j : Nat} (hi : i < r) (hj : j < c) : at2 (grid f r c) i j = f i j := by
  unfold at2; rw [grid_getD hi]; exact vecG_getD hj

section
variable {n : Nat} {m : List (List Int)}
theorem specTurn (h : Sq n m) (h1 : 1 ≤ n) (h2 : n ≤ 1048576) : p_spec_l02Turn m = some (turnM n m) := by
  unfold p_spec_l02Turn
  have e0 : idx m (0 : Int) = some (m.getD 0 []) := h.i1 (i := 0) (by omega)
  have hw : whileC (R := Unit) (fun s => p_spec_l02Turn_L1 m s.1 s.2) (([] : List (List Int)), (0 : Int)) = some (.fin (turnM n m, (n : Int))) := by
    refine whileC_det (R := Unit) n (fun k => ((List.range k).map (rowG (fun j i => at2 m i j) n), (k : Int))) (fun j hj => ?_) ?_
    · have hc : decide ((j : Int) < ((m.getD 0 []).length : Int)) = true := by rw [h.2 0 (by omega)]; simp; omega
      simp only [p_spec_l02Turn_L1, e0, Option.bind_some, hc, if_true]
      rw [h.1, forN_app (R := Unit) (fun i => at2 m i j) (fun i hi => by
        simp only [p_spec_l02Turn_L2, h.i1 hi, h.i2 hi hj, Option.bind_some, appL_range (fun i => at2 m i j) (by omega : i ≤ 1048576)])]
      simp only [Option.bind_some, onRes]
      rw [show (List.range n).map (fun i => at2 m i j) = rowG (fun j i => at2 m i j) n j from rfl, appL_range (rowG (fun j i => at2 m i j) n) (by omega)]
      simp only [Option.bind_some]
      rw [w64_small (by omega) (by omega)]
      rfl
    · have hc : decide ((n : Int) < ((m.getD 0 []).length : Int)) = false := by rw [h.2 0 (by omega)]; simp
      simp only [p_spec_l02Turn_L1, e0, Option.bind_some, hc, Bool.false_eq_true, if_false]
      rfl
  rw [hw]; rfl
theorem zerosN {r c : Nat} (hr : r ≤ 1048576) (hc : c ≤ 1048576) : p_impl_zeros (r : Int) (c : Int) = some (grid (fun _ _ => 0) r c) := by
  unfold p_impl_zeros
  rw [Int.toNat_natCast, zeros_eq hr (by omega) (body := fun k s => p_impl_zeros_L1 (c : Int) k s) (fun _ _ => rfl)]
  rfl
theorem implTurn (h : Sq n m) (h1 : 1 ≤ n) (h2 : n ≤ 1048576) : p_impl_transpose m = some (turnM n m) := by
  unfold p_impl_transpose
  have e0 : idx m (0 : Int) = some (m.getD 0 []) := h.i1 (i := 0) (by omega)
  rw [e0]
  simp only [Option.bind_some]
  rw [h.2 0 (by omega), h.1, zerosN h2 h2]
  simp only [Option.bind_some]
  have e : forN (fun k s => p_impl_transpose_L1 m k s) n 0 (grid (fun _ _ => 0) n n) = some (.fin (grid (fun j i => if i < n then at2 m i j else 0) n n)) := by
    refine forN_det (R := Unit) (fun k => grid (fun j i => if i < k then at2 m i j else 0) n n) (fun k hk => ?_)
    simp only [p_impl_transpose_L1, h.i1 hk, Option.bind_some]
    rw [h.2 k hk]
    have ei : forN (fun i s => p_impl_transpose_L2 (m.getD k []) k i s) n 0 (grid (fun j i => if i < k then at2 m i j else 0) n n) = some (.fin (grid (fun j i => if i < k ∨ (i = k ∧ j < n) then at2 m i j else 0) n n)) := by
      have := forN_det (R := Unit) (N := n) (body := fun i s => p_impl_transpose_L2 (m.getD k []) k i s) (fun q => grid (fun j i => if i < k ∨ (i = k ∧ j < q) then at2 m i j else 0) n n) (fun q hq => by
        simp only [p_impl_transpose_L2, h.i2 hk hq, grid_idx hq, rowG_idx hk, Option.bind_some, Int.toNat_natCast]
        rw [grid_set hq hk]
        congr 2
        refine grid_congr fun a ha b hb => ?_
        simp only [up2]
        by_cases hab : a = q ∧ b = k
        · obtain ⟨rfl, rfl⟩ := hab
          simp
        · simp only [hab, if_false]
          have : (b < k ∨ b = k ∧ a < q + 1) ↔ (b < k ∨ b = k ∧ a < q) := by omega
          simp only [this])
      simpa using this
    rw [ei]
    simp only [Option.bind_some, onRes]
    congr 2
    refine grid_congr fun a ha b hb => ?_
    have : (b < k ∨ b = k ∧ a < n) ↔ b < k + 1 := by omega
    simp only [this]
  rw [e]
  simp only [Option.bind_some, onRes]
  congr 1
  exact grid_congr fun a ha b hb => by simp [hb]
theorem turn_sq (n : Nat) (m : List (List Int)) : Sq n (turnM n m) := grid_sq _ _
end
end Go.VG
