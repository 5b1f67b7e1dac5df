/- The components of a ring: the code's and the model's. Plain. -/
import Derived.Test.YtaghjfegbooceaaDoorPlCompTog
import Derived.Test.YtaghjfegbooceaaDoorPlAdj
set_option linter.all false
namespace Go.VG
section
variable {T : List (List (List Int))}
theorem adj_lt (h : RingOK T) : adj T < 2 ^ T.length := cl_lt h (adjW_lt h)
theorem adj_fix (h : RingOK T) : spr T (adj T) = adj T := cl_fix h (adjW_lt h)
def compL (T : List (List (List Int))) : List Int := vecG (VK T.length (rbC T (adj T))) T.length
theorem specComps (h : RingOK T) : p_spec_l05Cosets T ((adj T : Nat) : Int) = some (compL T) := specCosets h (adj_lt h) (cos_eqv h (adj_fix h))
theorem implComps (h : RingOK T) : p_impl_Ring_components T = some (compL T) := by
  unfold p_impl_Ring_components
  rw [supports_eq h.cube, duals_eq h.cube, implAdj h]
  simp only [Option.bind_some]
  rw [implClasses (cos_eqv h (adj_fix h)) rfl h.n16 (fun i j hij hj => compTog h (adj_lt h) (by omega) hj)]
  rfl
end
end Go.VG
