/- Marks in a braiding of the code's own. No condition but sizes. -/
import Derived.Test.YtgmimpbkhedfnaaPlCocHeld
set_option linter.all false
namespace Go.VG
theorem markBraiding_held (o : List Int) (m m2 : Int) (V : List (List (List Int))) (c : List (List Int)) (ho : (o.length : Int) ≤ 1048576) (hV : V.length ≤ 8 ∧ ∀ x ∈ V, x.length ≤ 8 ∧ ∀ y ∈ x, y.length ≤ 8) (hc : c.length ≤ 8 ∧ ∀ x ∈ c, x.length ≤ 8) :
    ∃ q, p_laws_markBraiding o m V c 1 = some q ∧ 0 ≤ q.1 ∧ p_laws_heldBraiding q.2.1 m2 q.2.2.1 q.2.2.2 1 = some q.1 := by
  unfold p_laws_markBraiding p_laws_heldBraiding p_laws_markCocycle p_laws_heldCocycle
  obtain ⟨l1, e1, _, h1⟩ := markS_held o 1 (by decide) (by omega)
  obtain ⟨r2, l2, e2, h2, h3, h4⟩ := markSSS_held V (1 + o.length) (by omega) (by omega) (fun x hx => ⟨by have := (hV.2 x hx).1; omega, fun y hy => by have := (hV.2 x hx).2 y hy; omega⟩) (by omega)
  obtain ⟨r3, l3, e3, h5, h6, h7⟩ := markSS_held c r2 (by omega) (by omega) (fun x hx => by have := hc.2 x hx; omega) (by omega)
  rw [e1]
  simp only [Option.bind_some, e2, e3]
  have n1 : ¬ (1 + (o.length : Int)) < 0 := by omega
  have n2 : ¬ r2 < 0 := by omega
  have n3 : ¬ r3 < 0 := by omega
  exact ⟨_, rfl, by omega, by simp only [h1, Option.bind_some, n1, n2, n3, decide_false, Bool.false_eq_true, if_false, h4, h7]⟩
end Go.VG
