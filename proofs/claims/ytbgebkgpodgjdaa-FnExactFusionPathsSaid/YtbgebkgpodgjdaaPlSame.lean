/- Equality of slices, as the model and the library ask it. No condition. -/
import Derived.Test.YtbgebkgpodgjdaaPlRing2
set_option linter.all false
namespace Go.VG
theorem sameS_says (a b : List Int) : Says (p_spec_l01Same a b) (a = b) := eqS_says a b
theorem equal_says (a b : List Int) : Says (p_slices_Equal_Lint64_int64 a b) (a = b) := eqS_says a b
end Go.VG
