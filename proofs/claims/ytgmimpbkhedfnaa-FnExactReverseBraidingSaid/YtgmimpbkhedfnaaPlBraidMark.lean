/- Marks in a braiding. No condition but sizes. -/
import Derived.Test.YtgmimpbkhedfnaaPlBraid
import Derived.Test.YtgmimpbkhedfnaaPlMark0
set_option linter.all false
namespace Go.VG
theorem markBraiding_ok (o : List Int) (m : Int) (V : List (List (List Int))) (c : List (List Int)) (ho : (o.length : Int) ≤ 1048576) (hV : (V.length : Int) ≤ 1048576 ∧ ∀ x ∈ V, (x.length : Int) ≤ 1048576 ∧ ∀ y ∈ x, (y.length : Int) ≤ 1048576) (hc : (c.length : Int) ≤ 1048576 ∧ ∀ x ∈ c, (x.length : Int) ≤ 1048576) :
    ∃ q, p_laws_markBraiding o m V c 1 = some q ∧ 0 ≤ q.1 := by
  unfold p_laws_markBraiding p_laws_markCocycle
  obtain ⟨l1, e1, _, _⟩ := markS_held o 1 (by decide) (by omega)
  rw [e1]
  simp only [Option.bind_some]
  obtain ⟨l2, r2, e2, h2, h3⟩ := markSSS_ok 1048576 (Nat.le_refl _) V (1 + o.length) (by omega) (by omega) (fun x hx => ⟨by have := (hV.2 x hx).1; omega, fun y hy => by have := (hV.2 x hx).2 y hy; omega⟩) (by omega)
  rw [e2]
  simp only [Option.bind_some]
  obtain ⟨l3, r3, e3, h4, h5⟩ := markSS_ok 1048576 (Nat.le_refl _) c r2 (by omega) (by omega) (fun x hx => by have := hc.2 x hx; omega) (by omega)
  rw [e3]
  exact ⟨_, rfl, by omega⟩
end Go.VG
