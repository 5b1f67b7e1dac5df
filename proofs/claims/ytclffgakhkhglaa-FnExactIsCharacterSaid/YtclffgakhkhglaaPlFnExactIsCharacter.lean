/- The plain law of FnExactIsCharacter: the code's answer is the model's. No condition but the readings'. -/
import Derived.Test.YtclffgakhkhglaaPlChar
set_option linter.all false
namespace Go.VG
open Classical in
theorem list1_eq (T : List (List (List Int))) (x : List Int) {c : Int} (h : p_spec_l08Code T = some c) : p_spec_l08List T false [x] = some (if c ≠ 0 then c else if x.length = T.length ∧ NumOK x then 0 else 2) := by
  unfold p_spec_l08List
  rw [h]
  simp only [Option.bind_some]
  by_cases h0 : c = 0
  · subst h0
    have e0 : p_spec_l08List_L1 [x] T false 0 0 = some (.next ((if x.length = T.length ∧ NumOK x then 0 else 2), 1)) := by
      obtain ⟨b, e2, hb⟩ := specNums x
      have ei : idx [x] (0 : Int) = some x := rfl
      simp only [p_spec_l08List_L1, ei, Option.bind_some, e2]
      by_cases hl : x.length = T.length
      · have e1 : ((x.length : Int) != (T.length : Int)) = false := (bne_len _ _).2 hl
        cases b
        · have : ¬ NumOK x := fun hh => by have := hb.2 hh; cases this
          simp [e1, hl, this]; decide
        · have := hb.1 rfl
          simp [e1, hl, this]; decide
      · have e1 : ((x.length : Int) != (T.length : Int)) = true := by simp; omega
        simp [e1, hl]; decide
    rw [show whileC (R := Unit) (fun s => p_spec_l08List_L1 [x] T false s.1 s.2) ((0 : Int), (0 : Int)) = some (.fin ((if x.length = T.length ∧ NumOK x then 0 else 2), 1)) from
      whileC_of (iterW_next (n := 1) e0 (iterW_brk (by simp [p_spec_l08List_L1])))]
    simp [onRes]
  · rw [show whileC (R := Unit) (fun s => p_spec_l08List_L1 [x] T false s.1 s.2) (c, (0 : Int)) = some (.fin (c, 0)) from
      whileC_of (iterW_brk (by simp [p_spec_l08List_L1, h0]))]
    simp [onRes, h0]
theorem isChr_eq (T : List (List (List Int))) (x : List Int) : ∃ r, p_spec_IsCharacter T x = some r ∧ p_impl_IsCharacter T x = some r := by
  unfold p_spec_IsCharacter p_impl_IsCharacter
  obtain ⟨c, e1, e2, hc⟩ := code_eq T
  rw [list1_eq T x e1, e2]
  simp only [Option.bind_some]
  by_cases h0 : c = 0
  · subst h0
    obtain ⟨hr, _⟩ := hc.1 rfl
    obtain ⟨b, e3, hb⟩ : Says (p_impl_Ring_isList T x) (x.length = T.length ∧ NumOK x) := by
      unfold p_impl_Ring_isList
      refine Says.congr (Says.id (Says.and fun _ => Says.id (implNums x))) ?_
      simp only [beq_iff_eq]
      exact ⟨fun h => ⟨by have := h.1; omega, h.2⟩, fun h => ⟨by have := h.1; omega, h.2⟩⟩
    rw [e3]
    cases b
    · have : ¬ (x.length = T.length ∧ NumOK x) := fun hh => by have := hb.2 hh; cases this
      simp only [ne_eq, not_true_eq_false, if_false, this]
      exact ⟨(false, 2), by simp, by simp⟩
    · have hh := hb.1 rfl
      obtain ⟨b, e4, hb4⟩ := specChr hr.cube hh.1 hh.2
      have e5 : p_impl_Ring_isCharacter T x = some b := by rw [← e4]; exact (implChr hr.cube hh.1 hh.2).eq (specChr hr.cube hh.1 hh.2)
      simp only [ne_eq, not_true_eq_false, if_false, hh, and_self, if_true, e4, e5]
      exact ⟨(b, 0), by simp, by simp⟩
  · have h2 : (c != 0) = true := by simpa using h0
    simp only [h2, ne_eq, h0, not_false_eq_true, if_true]
    exact ⟨_, rfl, rfl⟩
theorem plain_FnExactIsCharacter (aR_Table : (List (List (List Int)))) (aX : (List Int)) (h0 : Good3 .i64 aR_Table) (h1 : Good1 .i64 aX) : p_laws_FnExactIsCharacter aR_Table aX = some true := by
  unfold p_laws_FnExactIsCharacter
  by_cases hl : (aX.length : Int) > 1048576
  · simp [hl]
  · simp only [hl, decide_false, Bool.false_eq_true, if_false]
    obtain ⟨r, e, hr, hs⟩ := szRing_spec aR_Table 1048576 (by decide) (by decide) h0
    rw [e]
    simp only [Option.bind_some]
    by_cases hr0 : r < 0
    · simp [hr0]
    · simp only [hr0, decide_false, Bool.false_eq_true, if_false]
      obtain ⟨x, e1, e2⟩ := isChr_eq aR_Table aX
      simp only [toRing_eq aR_Table hs (by omega), toInt64S_eq aX (by omega), Option.bind_some, e1, e2, eqRing_self, eqS_self]
      simp
end Go.VG
