/- A braiding told by a function. No condition. -/
import Derived.Test.YtgmimpbkhedfnaaPlCocBy
set_option linter.all false
namespace Go.VG
section
variable {o : List Int} {m : Int}
/-- A braiding told by a function of two elements. -/
theorem braidingBy_eq {V : List (List (List Int))} (h : CocOK o m V) {number : Int → Int → Option Int} {F : Nat → Nat → Int} (hF : ∀ i j, i < V.length → j < V.length → number (i : Int) (j : Int) = some (F i j) ∧ -1000000 ≤ F i j ∧ F i j ≤ 1000000) :
    p_impl_braidingBy o m V number = some (o, m, V, grid (fun i j => F i j % m) V.length V.length) := by
  have hs := h.small
  have hm := h.mod
  unfold p_impl_braidingBy
  rw [zeros_grid hs]
  simp only [Option.bind_some, grid_len]
  rw [fill2 (inner := fun i j s => p_impl_braidingBy_L2 i number o m V j s) _ (fun i j => F i j % m) (fun i hi j hj g hg => by
    obtain ⟨f1, f2, f3⟩ := hF i j hi hj
    simp only [p_impl_braidingBy_L2, grid_idx hi, f1, Option.bind_some, rowG_idx hj, Int.toNat_natCast]
    rw [rest_eq hm ⟨f2, f3⟩]
    simp only [Option.bind_some]
    rw [grid_set hi hj]) (fun i hi g => by simp only [p_impl_braidingBy_L1, grid_len])]
  rfl
end
end Go.VG
