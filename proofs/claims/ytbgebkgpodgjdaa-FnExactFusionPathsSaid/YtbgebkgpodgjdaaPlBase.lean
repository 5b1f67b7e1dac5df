/- Rows of a table. No condition. -/
import Derived.Test.YtbgebkgpodgjdaaPlRing2
import Derived.Test.YtbgebkgpodgjdaaPlBase0
set_option linter.all false
namespace Go.VG
def rowOf (T : List (List (List Int))) (i j : Nat) : List Int := (T.getD i []).getD j []
def oppR (T : List (List (List Int))) (i : Nat) : List (List Int) := (List.range T.length).map (fun j => rowOf T j i)
def oppT (T : List (List (List Int))) : List (List (List Int)) := (List.range T.length).map (oppR T)
end Go.VG
