/- Rests in the model; sizes of cubes. No condition. -/
import Derived.Test.YtgmimpbkhedfnaaPlBraidBy
set_option linter.all false
namespace Go.VG
theorem mod_eq {m : Int} (hm : 1 ≤ m ∧ m ≤ 1000) {n : Int} (hn : -1000000 ≤ n ∧ n ≤ 1000000) : p_spec_l18Mod n m = some (n % m) := rest_eq hm hn [] []
theorem cube_sizes {f : Nat → Nat → Nat → Int} {n : Nat} (h : n ≤ 8) : (cubeG f n n n).length ≤ 8 ∧ ∀ x ∈ cubeG f n n n, x.length ≤ 8 ∧ ∀ y ∈ x, y.length ≤ 8 := by
  refine ⟨by rw [cubeG_len]; exact h, fun x hx => ?_⟩
  simp only [cubeG, List.mem_map] at hx
  obtain ⟨i, _, rfl⟩ := hx
  refine ⟨by rw [grid_len]; exact h, fun y hy => ?_⟩
  simp only [grid, List.mem_map] at hy
  obtain ⟨j, _, rfl⟩ := hy
  rw [rowG_len]; exact h
theorem grid_sizes {f : Nat → Nat → Int} {n : Nat} (h : n ≤ 8) : (grid f n n).length ≤ 8 ∧ ∀ x ∈ grid f n n, x.length ≤ 8 := by
  refine ⟨by rw [grid_len]; exact h, fun y hy => ?_⟩
  simp only [grid, List.mem_map] at hy
  obtain ⟨j, _, rfl⟩ := hy
  rw [rowG_len]; exact h
end Go.VG
