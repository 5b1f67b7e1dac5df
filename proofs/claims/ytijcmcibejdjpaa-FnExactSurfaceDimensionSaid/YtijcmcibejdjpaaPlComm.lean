/- Commutative rings: the code for them; lists of labels. No condition. -/
import Derived.Test.YtijcmcibejdjpaaPlOpp
set_option linter.all false
namespace Go.VG
def CommOK (T : List (List (List Int))) : Prop := ∀ i, i < T.length → ∀ j, j < T.length → rowOf T i j = rowOf T j i
section
variable {T : List (List (List Int))}
theorem spec_comm (h : Cube T) : Says (p_spec_l03Commutative T) (CommOK T) := by
  unfold p_spec_l03Commutative
  refine Says.congr (Chk.says (forN_chk (P := fun i => ∀ j, j < i → rowOf T i j = rowOf T j i) fun i hi _ => ?_)) ?_
  · simp only [p_spec_l03Commutative_L1, Int.toNat_natCast]
    refine ChkC.loop (forN_chk fun j hj _ => ?_)
    simp only [p_spec_l03Commutative_L2, h.i1 hi, h.i2 hi (by omega : j < T.length), h.i1 (by omega : j < T.length), h.i2 (by omega : j < T.length) hi, Option.bind_some]
    exact ChkC.bindNot (sameS_says _ _) rfl
  · constructor
    · intro hh i hi j hj
      rcases Nat.lt_trichotomy i j with hlt | rfl | hlt
      · exact (hh j hj i hlt).symm
      · rfl
      · exact hh i hi j hlt
    · intro hh i hi j hj
      exact hh i hi j (by omega)
theorem impl_comm (h : Cube T) : Says (p_impl_Ring_isCommutative T) (CommOK T) := by
  unfold p_impl_Ring_isCommutative
  rw [opposite_eq h]
  exact Says.congr (Says.id (equalTables_says T (oppT T))) (eq_opp h)

/-- The code: 0 for a commutative ring. -/
theorem code_eq (T : List (List (List Int))) : ∃ c, p_spec_l08Code T = some c ∧ p_impl_commuteCode T = some c ∧ (c = 0 ↔ RingOK T ∧ CommOK T) := by
  unfold p_spec_l08Code p_impl_commuteCode
  obtain ⟨b, e1, hb⟩ := specIs (T := T)
  have e2 : p_impl_IsRing T = some b := by rw [← e1]; exact (implIs.eq specIs)
  rw [e1, e2]
  cases b
  · exact ⟨1, rfl, rfl, by simp; intro h; exact absurd (hb.2 h) (by simp)⟩
  · have hr := hb.1 rfl
    obtain ⟨b, e1, hc⟩ := spec_comm hr.cube
    have e2 : p_impl_Ring_isCommutative T = some b := by rw [← e1]; exact (impl_comm hr.cube).eq (spec_comm hr.cube)
    simp only [Option.bind_some, Bool.not_true, Bool.false_eq_true, if_false, e1, e2]
    cases b
    · exact ⟨5, rfl, rfl, by simp; intro _ h; exact absurd (hc.2 h) (by simp)⟩
    · exact ⟨0, rfl, rfl, by simp [hr, hc.1 rfl]⟩

def LabOK (n : Nat) (l : List Int) : Prop := ∀ k, k < l.length → 0 ≤ l.getD k 0 ∧ l.getD k 0 ≤ (n : Int) - 1
theorem specLabs {n : Nat} (hn : 1 ≤ n ∧ n ≤ 16) (l : List Int) : Says (p_spec_l15Labels (n : Int) l) (LabOK n l ∧ l.length ≤ 8) := by
  unfold p_spec_l15Labels
  have := forN_chk (N := l.length) (R := Bool) (Bad := fun r => r = false) (body := fun k s => p_spec_l15Labels_L1 l (n : Int) k) (P := fun k => 0 ≤ l.getD k 0 ∧ l.getD k 0 ≤ (n : Int) - 1) fun k hk _ => by
    simp only [p_spec_l15Labels_L1, p_spec_l01In, idx_getD l 0 hk, Option.bind_some, w64_small (x := (n : Int) - 1) (by omega) (by omega)]
    exact ChkC.congr (ChkC.ite rfl) (by simp)
  rcases this with ⟨h1, e⟩ | ⟨h1, r, e, rfl⟩ <;> rw [e] <;> simp only [Option.bind_some, onRes]
  · exact ⟨_, rfl, by simp only [decide_eq_true_eq]; exact ⟨fun h => ⟨h1, by omega⟩, fun h => by have := h.2; omega⟩⟩
  · exact ⟨false, rfl, by simp; intro h; exact absurd h h1⟩
theorem implLabs (h : Cube T) (l : List Int) : Says (p_impl_Ring_areLabels T l) (LabOK T.length l) := by
  have := h.1
  unfold p_impl_Ring_areLabels
  rw [w64_small (by omega) (by omega)]
  exact Says.id (allWithin_says l 0 _)
end
end Go.VG
