/- The same, of rings. No condition but lengths. -/
import Derived.Test.YtopabdbonlnijaaPlCom0
set_option linter.all false
namespace Go.VG
theorem szRing_spec (a : List (List (List Int))) (left : Int) (h0 : 0 ≤ left) (h1 : left ≤ 1048576) (hg : Good3 .i64 a) : ∃ r, p_laws_szRing a left = some r ∧ -1 ≤ r ∧ Sz3 a left r := by
  obtain ⟨r, e1, e2, e3⟩ := szInt64SSS_spec a left h0 h1 hg.1 (fun x hx => ⟨(hg.2 x hx).1, fun y hy => ((hg.2 x hx).2 y hy).1⟩)
  unfold p_laws_szRing
  rw [e1]
  simp only [Option.bind_some]
  by_cases h : r < 0
  · refine ⟨-1, by simp [h], by omega, by have := e3.1; omega, fun h => by omega⟩
  · exact ⟨r, by simp [h], e2, e3⟩

/-! ### Copies -/

theorem toRing_eq (a : List (List (List Int))) {r : Int} (h : Sz3 a 1048576 r) (hr : 0 ≤ r) : p_laws_toRing a = some a := by
  unfold p_laws_toRing
  rw [toInt64SSS_eq a (h.2 hr).1 (h.2 hr).2]
  rfl

theorem eqRing_self (a : List (List (List Int))) : p_laws_eqRing a a = some true := by
  unfold p_laws_eqRing; rw [eqSSS_self]; rfl
end Go.VG
