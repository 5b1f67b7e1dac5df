/- A cocycle told by a function. No condition. -/
import Derived.Test.YtmofhdohclbidaaPlCoc2
import Derived.Test.YtmofhdohclbidaaPlFill
import Derived.Test.YtmofhdohclbidaaPlCube
import Derived.Test.YtmofhdohclbidaaPlClone
set_option linter.all false
namespace Go.VG
section
variable {o : List Int} {m : Int} {V W : List (List (List Int))}
theorem CocOK.asCube (h : CocOK o m V) : V = cubeG (c3 V) V.length V.length V.length := by
  have e : (List.range V.length).map (fun i => V.getD i []) = V := map_range_getD V []
  conv => lhs; rw [← e]
  refine List.map_congr_left fun i hi => ?_
  have hi' : i < V.length := by simpa using hi
  exact eq_grid (h.rows i hi').1 (fun j hj => ((h.rows i hi').2 j hj).1)
theorem zeros_grid {n : Nat} (h : n ≤ 8) : p_impl_zeros (n : Int) (n : Int) = some (grid (fun _ _ => 0) n n) := by
  unfold p_impl_zeros
  simp only [Int.toNat_natCast]
  rw [zeros_eq (body := fun k s => p_impl_zeros_L1 (n : Int) k s) (by omega) (by omega) (fun k x => rfl)]
  rfl
theorem groupSize_eq (h : CocOK o m V) : p_impl_groupSize o = some (V.length : Int) := by
  obtain ⟨s, e, h1, h2⟩ := implSize (o := o)
  have hs := h.small
  have := h1.2 ⟨h.ne, h.pos, by rw [h.size]; omega⟩
  rw [e, h2 this, h.size]
/-- A cocycle told by a function of three elements. -/
theorem cocycleBy_eq (h : CocOK o m V) (ho : (o.length : Int) ≤ 1048576) {number : Int → Int → Int → Option Int} {F : Nat → Nat → Nat → Int} (hF : ∀ i j k, i < V.length → j < V.length → k < V.length → number (i : Int) (j : Int) (k : Int) = some (F i j k) ∧ -1000000 ≤ F i j k ∧ F i j k ≤ 1000000) :
    p_impl_cocycleBy o m number = some (o, m, cubeG (fun i j k => F i j k % m) V.length V.length V.length) := by
  have hs := h.small
  have hm := h.mod
  unfold p_impl_cocycleBy
  rw [clone1_eq o (by omega), groupSize_eq h]
  simp only [Option.bind_some, Int.toNat_natCast]
  rw [forN_app (R := Unit) (fun i => grid (fun j k => F i j k % m) V.length V.length) (fun i hi => by
    simp only [p_impl_cocycleBy_L1, zeros_grid hs, Option.bind_some, Int.toNat_natCast]
    rw [fill2 (inner := fun j k s => p_impl_cocycleBy_L3 j number i o m ((List.range i).map fun i => grid (fun j k => F i j k % m) V.length V.length) k s) _ (fun j k => F i j k % m) (fun j hj k hk g hg => by
      obtain ⟨f1, f2, f3⟩ := hF i j k hi hj hk
      simp only [p_impl_cocycleBy_L3, grid_idx hj, f1, Option.bind_some, rowG_idx hk, Int.toNat_natCast]
      rw [rest_eq hm ⟨f2, f3⟩]
      simp only [Option.bind_some]
      rw [grid_set hj hk]) (fun j hj g => by simp only [p_impl_cocycleBy_L2, Int.toNat_natCast])]
    simp only [Option.bind_some, onRes]
    rw [appL_range (fun i => grid (fun j k => F i j k % m) V.length V.length) (by omega)]
    rfl)]
  rfl
end
end Go.VG
