/- Marks in a cocycle of the code's own. No condition but sizes. -/
import Derived.Test.YtgmimpbkhedfnaaPlCoc2
import Derived.Test.YtgmimpbkhedfnaaPlHeld3
set_option linter.all false
namespace Go.VG
theorem markCocycle_held (o : List Int) (m m2 : Int) (V : List (List (List Int))) (ho : (o.length : Int) ≤ 1048576) (hV : V.length ≤ 8 ∧ ∀ x ∈ V, x.length ≤ 8 ∧ ∀ y ∈ x, y.length ≤ 8) :
    ∃ q, p_laws_markCocycle o m V 1 = some q ∧ 0 ≤ q.1 ∧ p_laws_heldCocycle q.2.1 m2 q.2.2 1 = some q.1 := by
  unfold p_laws_markCocycle p_laws_heldCocycle
  obtain ⟨l1, e1, _, h1⟩ := markS_held o 1 (by decide) (by omega)
  obtain ⟨r2, l2, e2, h2, h3, h4⟩ := markSSS_held V (1 + o.length) (by omega) (by omega) (fun x hx => ⟨by have := (hV.2 x hx).1; omega, fun y hy => by have := (hV.2 x hx).2 y hy; omega⟩) (by omega)
  rw [e1]
  simp only [Option.bind_some, e2]
  refine ⟨_, rfl, by omega, ?_⟩
  have n1 : ¬ (1 + (o.length : Int)) < 0 := by omega
  have n2 : ¬ r2 < 0 := by omega
  simp only [h1, Option.bind_some, n1, decide_false, Bool.false_eq_true, if_false, h4, n2]
end Go.VG
