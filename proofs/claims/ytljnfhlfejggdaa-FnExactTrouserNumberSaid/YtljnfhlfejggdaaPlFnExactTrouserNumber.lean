/- The plain law of FnExactTrouserNumber: the code's answer is the model's. No condition but the readings'. -/
import Derived.Test.YtljnfhlfejggdaaPlComm
set_option linter.all false
namespace Go.VG
theorem specDuals {T : List (List (List Int))} (h : Cube T) : p_spec_l03Duals T = some (duL T) := by
  unfold p_spec_l03Duals
  rw [forN_app (du T) (fun j hj => by
    simp only [p_spec_l03Duals_L1, (dual_spec h hj).1, Option.bind_some, app_range (du T) (by have := h.1.2; omega : j ≤ 1048576)])]
  rfl
theorem trouser_eq (T : List (List (List Int))) (i j k : Int) : ∃ r, p_spec_TrouserNumber T i j k = some r ∧ p_impl_TrouserNumber T i j k = some r := by
  unfold p_spec_TrouserNumber p_impl_TrouserNumber
  obtain ⟨c, e1, e2, hc⟩ := code_eq T
  rw [e1, e2]
  simp only [Option.bind_some]
  by_cases h0 : c = 0
  · subst h0
    obtain ⟨hr, _⟩ := hc.1 rfl
    obtain ⟨b, e3, hb⟩ := specLabs hr.cube.1 [i, j, k]
    obtain ⟨b', e4, hb'⟩ := implLabs hr.cube [i, j, k]
    have ebb : b' = b := by rw [Bool.eq_iff_iff, hb, hb']; simp
    rw [ebb] at e4
    rw [e3, e4]
    simp only [Option.bind_some]
    cases b
    · exact ⟨(0, 2), by simp, by simp⟩
    · obtain ⟨hl, _⟩ := hb.1 rfl
      have hi := hl 0 (by simp); have hj := hl 1 (by simp); have hk := hl 2 (by simp)
      simp at hi hj hk
      have ei : idx T i = some (T.getD i.toNat []) := idx_toNat _ _ hi.1 (by omega)
      have ej : idx (T.getD i.toNat []) j = some ((T.getD i.toNat []).getD j.toNat []) := idx_toNat _ _ hj.1 (by rw [hr.cube.mat (by omega)]; omega)
      have ek : idx (duL T) k = some ((duL T).getD k.toNat 0) := idx_toNat _ _ hk.1 (by rw [duL_len]; omega)
      have ekn : k = ((k.toNat : Nat) : Int) := by omega
      have edu : idx (duL T) k = some (du T k.toNat) := by
        have := duL_idx (T := T) (i := k.toNat) (by omega)
        rwa [← ekn] at this
      have hd := du_lt hr.cube (i := k.toNat) (by omega)
      have hd0 := hr.du0 (i := k.toNat) (by omega)
      have el : idx ((T.getD i.toNat []).getD j.toNat []) (du T k.toNat) = some (((T.getD i.toNat []).getD j.toNat []).getD (du T k.toNat).toNat 0) := idx_toNat _ _ hd0 (by rw [hr.cube.row (by omega) (by omega)]; exact hd.2)
      simp only [p_spec_l15Trousers, specDuals hr.cube, duals_eq hr.cube, ei, ej, edu, el, Option.bind_some]
      exact ⟨_, by simp; rfl, by simp⟩
  · have h1 : (c == 0) = false := by simpa using h0
    have h2 : (c != 0) = true := by simpa using h0
    simp only [h1, h2, Bool.false_eq_true, if_false, if_true, Option.bind_some]
    exact ⟨_, rfl, rfl⟩
theorem plain_FnExactTrouserNumber (aR_Table : (List (List (List Int)))) (aI : Int) (aJ : Int) (aK : Int) (h0 : Good3 .i64 aR_Table) (h1 : InR .i64 aI) (h2 : InR .i64 aJ) (h3 : InR .i64 aK) : p_laws_FnExactTrouserNumber aR_Table aI aJ aK = some true := by
  unfold p_laws_FnExactTrouserNumber
  obtain ⟨r, e, hr, hs⟩ := szRing_spec aR_Table 1048576 (by decide) (by decide) h0
  rw [e]
  simp only [Option.bind_some]
  by_cases hr0 : r < 0
  · simp [hr0]
  · simp only [hr0, decide_false, Bool.false_eq_true, if_false]
    obtain ⟨x, e1, e2⟩ := trouser_eq aR_Table aI aJ aK
    simp only [toRing_eq aR_Table hs (by omega), Option.bind_some, e1, e2, eqRing_self]
    simp
end Go.VG
