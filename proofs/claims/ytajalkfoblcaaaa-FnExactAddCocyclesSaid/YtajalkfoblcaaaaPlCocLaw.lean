/- Cocycles: the laws' helpers. No condition. -/
import Derived.Test.YtajalkfoblcaaaaPlCoc2
import Derived.Test.YtajalkfoblcaaaaPlMark0
set_option linter.all false
namespace Go.VG
section
variable {o : List Int} {m : Int} {V : List (List (List Int))}
theorem szCocycle_spec (left : Int) (hl : 0 ≤ left ∧ left ≤ 1048576) (h0 : Good1 .i64 o) (h2 : Good3 .i64 V) : ∃ r, p_laws_szCocycle o m V left = some r ∧ r ≤ left ∧
    (0 ≤ r → p_laws_toCocycle o m V = some (o, m, V) ∧ (o.length : Int) ≤ 1048576 ∧ ((V.length : Int) ≤ 1048576 ∧ ∀ x ∈ V, (x.length : Int) ≤ 1048576 ∧ ∀ y ∈ x, (y.length : Int) ≤ 1048576)) := by
  unfold p_laws_szCocycle
  obtain ⟨r1, e1, l1, s1, s1'⟩ := szInt64S_spec o left hl.1 hl.2 h0.1
  rw [e1]
  simp only [Option.bind_some]
  by_cases n1 : r1 < 0
  · simp only [n1, decide_true, if_true]
    exact ⟨-1, rfl, by omega, by omega⟩
  simp only [n1, decide_false, Bool.false_eq_true, if_false]
  obtain ⟨r2, e2, l2, s2, s2'⟩ := szInt64SSS_spec V r1 (by omega) (by omega) h2.1 (fun x hx => ⟨(h2.2 x hx).1, fun y hy => ((h2.2 x hx).2 y hy).1⟩)
  rw [e2]
  simp only [Option.bind_some]
  by_cases n2 : r2 < 0
  · simp only [n2, decide_true, if_true]
    exact ⟨-1, rfl, by omega, by omega⟩
  simp only [n2, decide_false, Bool.false_eq_true, if_false]
  refine ⟨r2, rfl, by omega, fun _ => ?_⟩
  have g1 := s1' (by omega)
  obtain ⟨g2, g3⟩ := s2' (by omega)
  have v1 : (V.length : Int) ≤ 1048576 ∧ ∀ x ∈ V, (x.length : Int) ≤ 1048576 ∧ ∀ y ∈ x, (y.length : Int) ≤ 1048576 := ⟨by omega, fun x hx => ⟨by have := (g3 x hx).1; omega, fun y hy => by have := (g3 x hx).2 y hy; omega⟩⟩
  refine ⟨?_, by omega, v1⟩
  simp only [p_laws_toCocycle, toInt64S_eq o (by omega), toInt64SSS_eq V v1.1 v1.2, Option.bind_some]
theorem eqCocycle_self : p_laws_eqCocycle o m V o m V = some true := by
  simp [p_laws_eqCocycle, eqS_self, eqSSS_self]
theorem markCocycle_ok (ho : (o.length : Int) ≤ 1048576) (hV : (V.length : Int) ≤ 1048576 ∧ ∀ x ∈ V, (x.length : Int) ≤ 1048576 ∧ ∀ y ∈ x, (y.length : Int) ≤ 1048576) (k : Int) (hk : 1 ≤ k ∧ k ≤ 2000000000000000000) :
    ∃ q, p_laws_markCocycle o m V k = some q ∧ 0 ≤ q.1 ∧ q.1 ≤ k + 1152921504608000000 := by
  unfold p_laws_markCocycle
  obtain ⟨l1, e1, _, _⟩ := markS_held o k (by omega) (by omega)
  rw [e1]
  simp only [Option.bind_some]
  obtain ⟨l2, r2, e2, h2, h3⟩ := markSSS_ok 1048576 (Nat.le_refl _) V (k + o.length) (by omega) (by omega) (fun x hx => ⟨by have := (hV.2 x hx).1; omega, fun y hy => by have := (hV.2 x hx).2 y hy; omega⟩) (by omega)
  rw [e2]
  exact ⟨_, rfl, by omega, by omega⟩
end
end Go.VG
