/- Rows whose places are told, and two rows that change places. No condition. -/
import Derived.Test.YtjjjljlobfpbnaaVgCat
set_option linter.all false
namespace Go.VG
open Go.RowKit (Below)

section
variable {P : Program} {n : Nat} {Q : Post} {f : Fr} {w w0 : World} {T : TypeId} {As : List Ent} {ops : Array Oper} {rest : List Oper} {pos : String} {after : Array Edge}

/-! ### Two rows change places -/

/-! ### The rest of a slice from a place on: its value and its window -/
end
end Go.VG
