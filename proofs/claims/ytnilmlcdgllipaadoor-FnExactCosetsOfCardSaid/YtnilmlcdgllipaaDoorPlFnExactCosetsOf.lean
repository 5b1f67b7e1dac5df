/- The plain law of FnExactCosetsOf: the code's answer is the model's. No condition but the readings'. -/
import Derived.Test.YtnilmlcdgllipaaDoorPlCosTog
import Derived.Test.YtnilmlcdgllipaaDoorPlMark
set_option linter.all false
namespace Go.VG
theorem cosOf_eq (T : List (List (List Int))) (s : Int) : ∃ r, p_spec_CosetsOf T s = some r ∧ p_impl_CosetsOf T s = some r ∧ (r.1.length : Int) ≤ 16 := by
  unfold p_spec_CosetsOf p_impl_CosetsOf
  rw [specCode, implCode]
  simp only [Option.bind_some]
  cases hc : (codeS T s != 0)
  · obtain ⟨h, m, rfl, hm⟩ := codeS_ok hc
    have hn := h.n16
    simp only [Bool.false_eq_true, if_false, specIsSub h hm, closed_eq h hm, Option.bind_some]
    by_cases hf : spr T m = m
    · have e1 : (((cl T (m ||| 1) : Nat) : Int) != (m : Int)) = false := by
        have := (cl_is h hm).2 hf
        simp; omega
      simp only [e1, hf, decide_true, Bool.not_true, Bool.false_eq_true, if_false, supports_eq h.cube, specCosets h hm (cos_eqv h hf), Option.bind_some]
      rw [implClasses (cos_eqv h hf) rfl hn (fun i j hij hj => cosTog h hm (by omega) hj)]
      exact ⟨_, rfl, rfl, by simp only [vecG_len]; omega⟩
    · have e1 : (((cl T (m ||| 1) : Nat) : Int) != (m : Int)) = true := by
        have : ¬ cl T (m ||| 1) = m := fun e => hf ((cl_is h hm).1 e)
        simp; omega
      simp only [e1, hf, decide_false, Bool.not_false, if_true]
      exact ⟨_, rfl, rfl, by simp⟩
  · simp
theorem plain_FnExactCosetsOf (aR_Table : (List (List (List Int)))) (aSet : Int) (h0 : Good3 .i64 aR_Table) (h1 : InR .i64 aSet) : p_laws_FnExactCosetsOf aR_Table aSet = some true := by
  unfold p_laws_FnExactCosetsOf
  obtain ⟨r, e, hr, hs⟩ := szRing_spec aR_Table 1048576 (by decide) (by decide) h0
  rw [e]
  simp only [Option.bind_some]
  by_cases hr0 : r < 0
  · simp [hr0]
  · simp only [hr0, decide_false, Bool.false_eq_true, if_false]
    obtain ⟨x, e1, e2, e3⟩ := cosOf_eq aR_Table aSet
    obtain ⟨m, q, e4, e5, e6⟩ := markRing_ok aR_Table 1 hs (by omega) (by decide) (by decide)
    obtain ⟨l, e7, e8, e9⟩ := markS_held x.1 1 (by decide) (by omega)
    have hq : ¬ q < 0 := by omega
    have hp : ¬ (1 + (x.1.length : Int)) < 0 := by omega
    simp only [toRing_eq aR_Table hs (by omega), Option.bind_some, e1, e2, eqRing_self, eqS_self, e4, e7, e9]
    simp [hq, hp]
end Go.VG
