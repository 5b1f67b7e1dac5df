/- The plain law of FnExactIsCommutativeRing: the code's answer is the model's. No condition but the readings'. -/
import Derived.Test.YtppnedfpdobgiaaPlOpp
set_option linter.all false
namespace Go.VG
section
variable {T : List (List (List Int))}
theorem specComm (h : Cube T) : Says (p_spec_l03Commutative T) (∀ i, i < T.length → ∀ j, j < T.length → rowOf T i j = rowOf T j i) := by
  unfold p_spec_l03Commutative
  refine Says.congr (Chk.says (forN_chk (P := fun i => ∀ j, j < i → rowOf T i j = rowOf T j i) fun i hi _ => ?_)) ?_
  · simp only [p_spec_l03Commutative_L1, Int.toNat_natCast]
    refine ChkC.loop (forN_chk fun j hj _ => ?_)
    simp only [p_spec_l03Commutative_L2, h.i1 hi, h.i2 hi (by omega : j < T.length), h.i1 (by omega : j < T.length), h.i2 (by omega : j < T.length) hi, Option.bind_some]
    exact ChkC.bindNot (sameS_says _ _) rfl
  · constructor
    · intro hh i hi j hj
      rcases Nat.lt_trichotomy i j with hlt | rfl | hlt
      · exact (hh j hj i hlt).symm
      · rfl
      · exact hh i hi j hlt
    · intro hh i hi j hj
      exact hh i hi j (by omega)
theorem implComm (h : Cube T) : Says (p_impl_Ring_isCommutative T) (∀ i, i < T.length → ∀ j, j < T.length → rowOf T i j = rowOf T j i) := by
  unfold p_impl_Ring_isCommutative
  rw [opposite_eq h]
  exact Says.congr (Says.id (equalTables_says T (oppT T))) (eq_opp h)
theorem comm_eq (T : List (List (List Int))) : ∃ r, p_spec_IsCommutativeRing T = some r ∧ p_impl_IsCommutativeRing T = some r := by
  unfold p_spec_IsCommutativeRing p_impl_IsCommutativeRing
  obtain ⟨b, e1, hb⟩ := specIs (T := T)
  have e2 : p_impl_IsRing T = some b := by rw [← e1]; exact (implIs.eq specIs)
  rw [e1, e2]
  cases b
  · exact ⟨_, rfl, rfl⟩
  · have hr := hb.1 rfl
    obtain ⟨b, e1, _⟩ := specComm hr.cube
    have e2 : p_impl_Ring_isCommutative T = some b := by rw [← e1]; exact (implComm hr.cube).eq (specComm hr.cube)
    simp only [Option.bind_some, Bool.not_true, Bool.false_eq_true, if_false, e1, e2]
    exact ⟨_, rfl, rfl⟩
end
theorem plain_FnExactIsCommutativeRing (aR_Table : (List (List (List Int)))) (h0 : Good3 .i64 aR_Table) : p_laws_FnExactIsCommutativeRing aR_Table = some true := by
  unfold p_laws_FnExactIsCommutativeRing
  obtain ⟨r, e, hr, hs⟩ := szRing_spec aR_Table 1048576 (by decide) (by decide) h0
  rw [e]
  simp only [Option.bind_some]
  by_cases hr0 : r < 0
  · simp [hr0]
  · simp only [hr0, decide_false, Bool.false_eq_true, if_false]
    obtain ⟨x, e1, e2⟩ := comm_eq aR_Table
    simp only [toRing_eq aR_Table hs (by omega), Option.bind_some, e1, e2, eqRing_self]
    simp
end Go.VG
