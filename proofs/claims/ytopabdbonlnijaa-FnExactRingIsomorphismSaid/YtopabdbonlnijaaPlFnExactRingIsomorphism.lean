/- The plain law of FnExactRingIsomorphism: the code's answer is the model's. No condition but the readings'. -/
import Derived.Test.YtopabdbonlnijaaPlIsoMaps
import Derived.Test.YtopabdbonlnijaaPlMark
set_option linter.all false
namespace Go.VG
theorem szRing_lower {a : List (List (List Int))} {left r : Int} (h : Sz3 a left r) (hl : left ≤ 1048576) (hr : 0 ≤ r) : Sz3 a 1048576 r :=
  ⟨by have := h.1; omega, fun h0 => ⟨by have := (h.2 h0).1; omega, fun x hx => ⟨by have := ((h.2 h0).2 x hx).1; omega, fun y hy => by have := ((h.2 h0).2 x hx).2 y hy; omega⟩⟩⟩
theorem plain_FnExactRingIsomorphism (aR_Table : (List (List (List Int)))) (aS_Table : (List (List (List Int)))) (h0 : Good3 .i64 aR_Table) (h1 : Good3 .i64 aS_Table) : p_laws_FnExactRingIsomorphism aR_Table aS_Table = some true := by
  unfold p_laws_FnExactRingIsomorphism
  obtain ⟨r, e, hr, hs⟩ := szRing_spec aR_Table 1048576 (by decide) (by decide) h0
  rw [e]
  simp only [Option.bind_some]
  by_cases hr0 : r < 0
  · simp [hr0]
  · have hr1 := hs.1
    obtain ⟨r2, e2', hr2, hs2'⟩ := szRing_spec aS_Table r (by omega) (by omega) h1
    simp only [hr0, decide_false, Bool.false_eq_true, if_false, e2', Option.bind_some]
    by_cases hr20 : r2 < 0
    · simp [hr20]
    · simp only [hr20, decide_false, Bool.false_eq_true, if_false]
      have hs2 := szRing_lower hs2' (by omega) (by omega)
      obtain ⟨x, e1, e2, e3⟩ := iso_eq aR_Table aS_Table
      obtain ⟨m, q, e4, e5, e6⟩ := markRing_ok aR_Table 1 hs (by omega) (by decide) (by decide)
      obtain ⟨m2, q2, e4', e5', e6'⟩ := markRing_ok aS_Table q hs2 (by omega) (by omega) (by omega)
      obtain ⟨l, e7, e8, e9⟩ := markS_held x.1 1 (by decide) (by omega)
      have hq : ¬ q2 < 0 := by omega
      have hp : ¬ (1 + (x.1.length : Int)) < 0 := by omega
      simp only [toRing_eq aR_Table hs (by omega), toRing_eq aS_Table hs2 (by omega), Option.bind_some, e1, e2, eqRing_self, eqS_self, e4, e4', e7, e9]
      simp [hq, hp]
end Go.VG
