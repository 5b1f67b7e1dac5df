/- Commutative rings: the code for them; lists of labels. No condition. -/
import Derived.Test.YtbgebkgpodgjdaaPlOpp
set_option linter.all false
namespace Go.VG
def CommOK (T : List (List (List Int))) : Prop := ∀ i, i < T.length → ∀ j, j < T.length → rowOf T i j = rowOf T j i
section
variable {T : List (List (List Int))}
theorem spec_comm (h : Cube T) : Says (p_spec_l03Commutative T) (CommOK T) := by
  unfold p_spec_l03Commutative
  refine Says.congr (Chk.says (forN_chk (P := fun i => ∀ j, j < i → rowOf T i j = rowOf T j i) fun i hi _ => ?_)) ?_
  · simp only [p_spec_l03Commutative_L1, Int.toNat_natCast]
    refine ChkC.loop (forN_chk fun j hj _ => ?_)
    simp only [p_spec_l03Commutative_L2, h.i1 hi, h.i2 hi (by omega : j < T.length), h.i1 (by omega : j < T.length), h.i2 (by omega : j < T.length) hi, Option.bind_some]
    exact ChkC.bindNot (sameS_says _ _) rfl
  · constructor
    · intro hh i hi j hj
      rcases Nat.lt_trichotomy i j with hlt | rfl | hlt
      · exact (hh j hj i hlt).symm
      · rfl
      · exact hh i hi j hlt
    · intro hh i hi j hj
      exact hh i hi j (by omega)
theorem impl_comm (h : Cube T) : Says (p_impl_Ring_isCommutative T) (CommOK T) := by
  unfold p_impl_Ring_isCommutative
  rw [opposite_eq h]
  exact Says.congr (Says.id (equalTables_says T (oppT T))) (eq_opp h)

/-- The code: 0 for a commutative ring. -/
theorem code_eq (T : List (List (List Int))) : ∃ c, p_spec_l08Code T = some c ∧ p_impl_commuteCode T = some c ∧ (c = 0 ↔ RingOK T ∧ CommOK T) := by
  unfold p_spec_l08Code p_impl_commuteCode
  obtain ⟨b, e1, hb⟩ := specIs (T := T)
  have e2 : p_impl_IsRing T = some b := by rw [← e1]; exact (implIs.eq specIs)
  rw [e1, e2]
  cases b
  · exact ⟨1, rfl, rfl, by simp; intro h; exact absurd (hb.2 h) (by simp)⟩
  · have hr := hb.1 rfl
    obtain ⟨b, e1, hc⟩ := spec_comm hr.cube
    have e2 : p_impl_Ring_isCommutative T = some b := by rw [← e1]; exact (impl_comm hr.cube).eq (spec_comm hr.cube)
    simp only [Option.bind_some, Bool.not_true, Bool.false_eq_true, if_false, e1, e2]
    cases b
    · exact ⟨5, rfl, rfl, by simp; intro _ h; exact absurd (hc.2 h) (by simp)⟩
    · exact ⟨0, rfl, rfl, by simp [hr, hc.1 rfl]⟩

end
end Go.VG
