/- The plain law of FnExactGenusNumbers. No condition but the readings'. -/
import Derived.Test.YtijcmcibejdjpaaPlSurf
import Derived.Test.YtijcmcibejdjpaaPlMark
set_option linter.all false
namespace Go.VG
theorem genus_eq (T : List (List (List Int))) (m : Int) (hm : InR .i64 m) : ∃ x, p_spec_GenusNumbers T m = some x ∧ p_impl_GenusNumbers T m = some x ∧ (x.1.length : Int) ≤ 21 := by
  unfold p_spec_GenusNumbers p_impl_GenusNumbers
  obtain ⟨c, e1, e2, hc⟩ := code_eq T
  rw [e1, e2]
  simp only [Option.bind_some]
  by_cases h0 : c = 0
  · subst h0
    obtain ⟨hr, _⟩ := hc.1 rfl
    have hn := hr.cube.1
    simp only [bne_self_eq_false, beq_self_eq_true, if_true, Bool.false_eq_true, if_false, p_spec_l01In, p_impl_within, Option.bind_some]
    by_cases hg : 0 ≤ m ∧ m ≤ 20
    · have ec : (decide (m ≥ 0) && decide (m ≤ 20)) = true := by simpa using hg
      simp only [ec, Bool.not_true, Bool.false_eq_true, if_false, bne_self_eq_false]
      obtain ⟨q, rfl⟩ : ∃ q : Nat, m = (q : Int) := ⟨m.toNat, by omega⟩
      have ew : (w64 ((q : Int) + 1)).toNat = q + 1 := by rw [w64_small (by omega) (by omega)]; omega
      rw [ew]
      have := whileC_up (R := List Int × Int) (R' := List Int × Int) (step := fun s => p_spec_GenusNumbers_L1 (q : Int) T s.1 s.2) (b' := fun k s => p_impl_GenusNumbers_L1 T k s) (I := fun j s => s.length = j) (N := q + 1) (r := ([], 3)) (r' := ([], 3)) (fun j s hj hs => by
        have ed : decide ((j : Int) ≤ (q : Int)) = true := decide_eq_true (by omega)
        have ewk : w64 ((j : Int) + 1) = ((j + 1 : Nat) : Int) := by rw [w64_small (by omega) (by omega)]; omega
        simp only [p_spec_GenusNumbers_L1, p_impl_GenusNumbers_L1, ed, if_true, ewk]
        rcases number_rel hr (labels := []) (fun k hk => by simp at hk) (g := j) (by omega) with ⟨e, e'⟩ | ⟨v, hv, e, e'⟩
        · rw [e, e']; exact .inl ⟨rfl, rfl⟩
        · rw [e, e']
          have en : decide (v < 0) = false := decide_eq_false (by omega)
          have ea : appL s [v] = some (s ++ [v]) := by simp [appL]; omega
          simp only [Option.bind_some, Bool.not_true, Bool.false_eq_true, if_false, en, ea]
          exact .inr ⟨s ++ [v], by simp [hs], by simp, by simp⟩) (fun s hs => by
        have ed : decide (((q + 1 : Nat) : Int) ≤ (q : Int)) = false := decide_eq_false (by omega)
        simp only [p_spec_GenusNumbers_L1, ed, Bool.false_eq_true, if_false]) [] rfl
      rcases this with ⟨e, e'⟩ | ⟨s, hs, e, e'⟩
      · rw [e, e']; exact ⟨([], 3), rfl, rfl, by simp⟩
      · rw [e, e']; exact ⟨(s, 0), rfl, rfl, by simp [hs]; omega⟩
    · have ec : (decide (m ≥ 0) && decide (m ≤ 20)) = false := by
        cases hh : (decide (m ≥ 0) && decide (m ≤ 20)) with
        | false => rfl
        | true => exact absurd (by simpa using hh) hg
      simp only [ec, Bool.not_false, if_true]
      exact ⟨([], 2), rfl, rfl, by simp⟩
  · have h1 : (c == 0) = false := by simpa using h0
    have h2 : (c != 0) = true := by simpa using h0
    simp only [h1, h2, Bool.false_eq_true, if_false, if_true, Option.bind_some]
    exact ⟨_, rfl, rfl, by simp⟩
theorem plain_FnExactGenusNumbers (aR_Table : (List (List (List Int)))) (aMost : Int) (h0 : Good3 .i64 aR_Table) (h1 : InR .i64 aMost) : p_laws_FnExactGenusNumbers aR_Table aMost = some true := by
  unfold p_laws_FnExactGenusNumbers
  obtain ⟨r, e, hr, hs⟩ := szRing_spec aR_Table 1048576 (by decide) (by decide) h0
  rw [e]
  simp only [Option.bind_some]
  by_cases hr0 : r < 0
  · simp [hr0]
  · simp only [hr0, decide_false, Bool.false_eq_true, if_false]
    obtain ⟨x, e1, e2, e3⟩ := genus_eq aR_Table aMost h1
    obtain ⟨m, q, e4, e5, e6⟩ := markRing_ok aR_Table 1 hs (by omega) (by decide) (by decide)
    obtain ⟨l, e7, e8, e9⟩ := markS_held x.1 1 (by decide) (by omega)
    have hq : ¬ q < 0 := by omega
    have hp : ¬ (1 + (x.1.length : Int)) < 0 := by omega
    simp only [toRing_eq aR_Table hs (by omega), Option.bind_some, e1, e2, eqRing_self, eqS_self, e4, e7, e9]
    simp [hq, hp]
end Go.VG
