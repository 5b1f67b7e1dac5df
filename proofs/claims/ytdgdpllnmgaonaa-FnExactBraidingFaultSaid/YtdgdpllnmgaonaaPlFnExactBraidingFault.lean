/- The plain law of FnExactBraidingFault. No condition but the readings'. -/
import Derived.Test.YtdgdpllnmgaonaaPlBraidMark
set_option linter.all false
namespace Go.VG
theorem braidFault_eq {o : List Int} {m : Int} {V : List (List (List Int))} {c : List (List Int)} (hl : (o.length : Int) ≤ 1048576) : ∃ x, p_spec_BraidingFault o m V c = some x ∧ p_impl_BraidingFault o m V c = some x ∧ (x.1.length : Int) ≤ 4 := by
  unfold p_spec_BraidingFault p_impl_BraidingFault
  obtain ⟨b, e1, e2, hb⟩ := shape_eq (o := o) (m := m) (V := V) (c := c) hl
  rw [e1, e2]
  simp only [Option.bind_some]
  cases b
  · exact ⟨([], 1), rfl, rfl, by simp⟩
  · obtain ⟨hc, hp⟩ := hb rfl
    obtain ⟨r, e3, e4, hr⟩ := bfault_eq hc hl hp
    simp only [Bool.not_true, Bool.false_eq_true, if_false, e3, e4, Option.bind_some, len0_empty]
    cases hh : r.isEmpty
    · simp only [Bool.false_eq_true, if_false]; exact ⟨_, rfl, rfl, hr⟩
    · simp only [if_true]; exact ⟨_, rfl, rfl, by simp⟩
theorem plain_FnExactBraidingFault (aB_Cocycle_Orders : (List Int)) (aB_Cocycle_Modulus : Int) (aB_Cocycle_Values : (List (List (List Int)))) (aB_Values : (List (List Int))) (h0 : Good1 .i64 aB_Cocycle_Orders) (h1 : InR .i64 aB_Cocycle_Modulus) (h2 : Good3 .i64 aB_Cocycle_Values) (h3 : Good2 .i64 aB_Values) : p_laws_FnExactBraidingFault aB_Cocycle_Orders aB_Cocycle_Modulus aB_Cocycle_Values aB_Values = some true := by
  unfold p_laws_FnExactBraidingFault
  obtain ⟨r, e, hr⟩ := szBraiding_spec (m := aB_Cocycle_Modulus) h0 h2 h3
  rw [e]
  simp only [Option.bind_some]
  by_cases hr0 : r < 0
  · simp [hr0]
  · obtain ⟨et, ho, hV, hc⟩ := hr (by omega)
    obtain ⟨x, e1, e2, e3⟩ := braidFault_eq (o := aB_Cocycle_Orders) (m := aB_Cocycle_Modulus) (V := aB_Cocycle_Values) (c := aB_Values) ho
    obtain ⟨q, e4, e5⟩ := markBraiding_ok aB_Cocycle_Orders aB_Cocycle_Modulus aB_Cocycle_Values aB_Values ho hV hc
    obtain ⟨l, e7, e8, e9⟩ := markS_held x.1 1 (by decide) (by omega)
    have hq : ¬ q.1 < 0 := by omega
    have hp : ¬ (1 + (x.1.length : Int)) < 0 := by omega
    simp only [hr0, decide_false, Bool.false_eq_true, if_false, et, Option.bind_some, e1, e2, eqBraiding_self, eqS_self, e4, e7, e9]
    simp [hq, hp]
end Go.VG
