/- Marks in a ring. No condition but sizes. -/
import Derived.Test.YtopabdbonlnijaaPlCom
import Derived.Test.YtopabdbonlnijaaPlMark0
set_option linter.all false
namespace Go.VG
theorem markRing_ok (a : List (List (List Int))) (k : Int) {r : Int} (h : Sz3 a 1048576 r) (hr : 0 ≤ r) (h0 : 0 ≤ k) (h1 : k ≤ 4000000000000000000) : ∃ l r, p_laws_markRing a k = some (r, l) ∧ k ≤ r ∧ r ≤ k + 1152921504606846976 := by
  obtain ⟨h2, h3⟩ := h.2 hr
  obtain ⟨l, r, e, h4, h5⟩ := markSSS_ok 1048576 (Nat.le_refl _) a k h0 (by omega) (fun x hx => ⟨by have := (h3 x hx).1; omega, fun y hy => by have := (h3 x hx).2 y hy; omega⟩) h1
  exact ⟨l, r, by unfold p_laws_markRing; rw [e]; rfl, h4, h5⟩
end Go.VG
