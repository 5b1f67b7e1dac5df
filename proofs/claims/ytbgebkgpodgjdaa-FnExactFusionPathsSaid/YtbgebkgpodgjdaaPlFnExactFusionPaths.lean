/- The plain law of FnExactFusionPaths. No condition but the readings'. -/
import Derived.Test.YtbgebkgpodgjdaaPlPaths
import Derived.Test.YtbgebkgpodgjdaaPlHeld2
import Derived.Test.YtbgebkgpodgjdaaPlMark
set_option linter.all false
namespace Go.VG
section
variable {T : List (List (List Int))} {Lb : List Int}
theorem labels_all (hT : Cube T) : ∃ b, ((p_spec_l15Labels (T.length : Int) Lb).bind fun x => some (!x)) = some b ∧ (p_impl_Ring_areLabels T Lb) = some (decide (∀ i, i < Lb.length → 0 ≤ Lb.getD i 0 ∧ Lb.getD i 0 < T.length)) ∧ (b = false ↔ (∀ i, i < Lb.length → 0 ≤ Lb.getD i 0 ∧ Lb.getD i 0 < T.length) ∧ Lb.length ≤ 8) := by
  have hn := hT.1
  have ew : w64 ((T.length : Int) - 1) = (T.length : Int) - 1 := w64_small (by omega) (by omega)
  have himpl : p_impl_Ring_areLabels T Lb = some (decide (∀ i, i < Lb.length → 0 ≤ Lb.getD i 0 ∧ Lb.getD i 0 < T.length)) := by
    unfold p_impl_Ring_areLabels
    rw [ew]
    obtain ⟨b, e, hb⟩ := allWithin_says Lb 0 ((T.length : Int) - 1)
    rw [e]
    simp only [Option.bind_some]
    congr 1
    have : (b = true) ↔ (∀ i, i < Lb.length → 0 ≤ Lb.getD i 0 ∧ Lb.getD i 0 < T.length) := by
      rw [hb]
      constructor <;> intro h i hi <;> have := h i hi <;> omega
    cases b
    · symm; rw [decide_eq_false_iff_not]; exact fun h => absurd (this.2 h) (by simp)
    · symm; rw [decide_eq_true_eq]; exact this.1 rfl
  unfold p_spec_l15Labels
  rcases forN_chk (R := Bool) (Bad := fun r => r = false) (body := fun k s => p_spec_l15Labels_L1 Lb (T.length : Int) k) (N := Lb.length) (P := fun j => 0 ≤ Lb.getD j 0 ∧ Lb.getD j 0 < T.length) (fun j hj _ => by
    simp only [p_spec_l15Labels_L1, p_spec_l01In, idx_getD Lb 0 hj, Option.bind_some, ew]
    exact ChkC.congr (ChkC.ite rfl) (by simp; omega)) with ⟨h1, e⟩ | ⟨h1, r, e, rfl⟩
  · rw [e]
    refine ⟨!decide ((Lb.length : Int) ≤ 8), rfl, himpl, ?_⟩
    simp only [Bool.not_eq_false', decide_eq_true_eq]
    constructor
    · intro h; exact ⟨h1, by omega⟩
    · intro h; omega
  · rw [e]
    refine ⟨true, rfl, himpl, ⟨fun h => (by cases h), fun h => absurd h.1 h1⟩⟩
theorem paths_eq (T : List (List (List Int))) (Lb : List Int) (hLl : Lb.length ≤ 1048576) : ∃ r, p_spec_FusionPaths T Lb = some r ∧ p_impl_FusionPaths T Lb = some r ∧ r.1.length ≤ 2001 ∧ ∀ x ∈ r.1, x.length ≤ 8 := by
  unfold p_spec_FusionPaths p_impl_FusionPaths p_spec_l15List p_impl_pathCode p_spec_l08Code p_impl_commuteCode
  obtain ⟨b, e1, hb⟩ := specIs (T := T)
  have e2 : p_impl_IsRing T = some b := by rw [← e1]; exact (implIs.eq specIs)
  rw [e1, e2]
  simp only [Option.bind_some]
  cases b
  · exact ⟨([], 1), rfl, rfl, by simp, by simp⟩
  have hT := hb.1 rfl
  obtain ⟨c, g1, hc⟩ := spec_comm hT.cube
  have g2 : p_impl_Ring_isCommutative T = some c := by rw [← g1]; exact ((impl_comm hT.cube).eq (spec_comm hT.cube))
  simp only [Bool.not_true, Bool.false_eq_true, if_false, g1, g2, Option.bind_some]
  cases c
  · exact ⟨([], 5), rfl, rfl, by simp, by simp⟩
  have t0 : ((0 : Int) == 0) = true := rfl
  have t1 : ((0 : Int) != 0) = false := rfl
  obtain ⟨l, f1, f2, f3⟩ := labels_all (T := T) (Lb := Lb) hT.cube
  simp only [Bool.not_true, Bool.false_eq_true, if_false, Option.bind_some, t0, t1, if_true]
  by_cases hok : 1 ≤ Lb.length ∧ Lb.length ≤ 8 ∧ ∀ i, i < Lb.length → 0 ≤ Lb.getD i 0 ∧ Lb.getD i 0 < T.length
  · have hLb : LbOK T Lb := ⟨⟨hok.1, hok.2.1⟩, hok.2.2⟩
    have z : ((Lb.length : Int) == 0) = false := by rw [beq_eq_false_iff_ne]; omega
    have lf : l = false := f3.2 ⟨hok.2.2, hok.2.1⟩
    subst lf
    have d1 : (decide ((Lb.length : Int) < 1) || decide ((Lb.length : Int) > 8)) = false := by simp only [Bool.or_eq_false_iff, decide_eq_false_iff_not]; omega
    have d2 : decide (∀ i, i < Lb.length → 0 ≤ Lb.getD i 0 ∧ Lb.getD i 0 < T.length) = true := decide_eq_true hok.2.2
    rw [d2] at f2
    simp only [z, Bool.false_eq_true, if_false, f1, f2, d1, Option.bind_some, Bool.not_true, t1, specEndsT hT hLb, implEndsT hT hLb]
    have h0 : 0 < Lb.length := by omega
    have i0 : idx Lb (0 : Int) = some ((lb Lb 0 : Nat) : Int) := hLb.idx h0
    have j0 : idx (ends T Lb) (0 : Int) = some (rowE T Lb 0) := ends_idx (i := 0) h0
    have hl0 := hLb.lt h0
    have hls : LsP T [lb Lb 0] := ⟨by simp, fun x hx => by simp at hx; subst hx; exact hl0⟩
    obtain ⟨k, hk⟩ := fuel_ge (n := Lb.length - 1) (by omega)
    have hk' : fuelN = Lb.length - 1 + 1 + k := by omega
    have cp : castP [lb Lb 0] = [((lb Lb 0 : Nat) : Int)] := rfl
    have es : p_spec_l15Grow T Lb (ends T Lb) [((lb Lb 0 : Nat) : Int)] [] = some (tk ([] ++ comp T Lb (Lb.length - 1) [lb Lb 0])) := by
      unfold p_spec_l15Grow
      rw [hk', ← cp]
      exact specGrow hT hLb (Lb.length - 1) k [lb Lb 0] [] hls (by simp; omega) (by simp)
    have ei : p_impl_FusionPaths_c1 [((lb Lb 0 : Nat) : Int)] (ends T Lb) [] Lb T = some ([((lb Lb 0 : Nat) : Int)], tk ([] ++ if en T Lb 0 (lb Lb 0) = true then comp T Lb (Lb.length - 1) [lb Lb 0] else [])) := by
      unfold p_impl_FusionPaths_c1
      rw [hk', ← cp]
      exact implGrow hT hLb (Lb.length - 1) k [lb Lb 0] [] hls (by simp; omega) (by simp)
    simp only [i0, j0, rowE_idx hl0, es, ei, Option.bind_some, List.nil_append]
    have hlen : ∀ x ∈ tk (comp T Lb (Lb.length - 1) [lb Lb 0]), x.length ≤ 8 := fun x hx => by
      have := comp_len (T := T) (Lb := Lb) _ _ x (List.mem_of_mem_take hx)
      simp at this; omega
    cases en T Lb 0 (lb Lb 0) with
    | false =>
      have e0 : tk [] = [] := rfl
      simp only [Bool.false_eq_true, if_false, e0, Option.bind_some]
      exact ⟨([], 0), rfl, rfl, by simp, by simp⟩
    | true =>
      simp only [if_true, Option.bind_some]
      by_cases hbig : ((tk (comp T Lb (Lb.length - 1) [lb Lb 0])).length : Int) > 2000
      · simp only [hbig, decide_true, if_true]
        exact ⟨([], 3), rfl, rfl, by simp, by simp⟩
      · simp only [hbig, decide_false, Bool.false_eq_true, if_false]
        exact ⟨_, rfl, rfl, tk_len _, hlen⟩
  · have spec2 : ((if ((Lb.length : Int) == 0) = true then some true else (p_spec_l15Labels (T.length : Int) Lb).bind fun x => some (!x)) : Option Bool) = some true := by
      by_cases hz : Lb.length = 0
      · have z : ((Lb.length : Int) == 0) = true := by rw [beq_iff_eq]; omega
        rw [z]; rfl
      · have z : ((Lb.length : Int) == 0) = false := by rw [beq_eq_false_iff_ne]; omega
        rw [z]
        simp only [Bool.false_eq_true, if_false, f1]
        cases l
        · exact absurd ⟨by omega, (f3.1 rfl).2, (f3.1 rfl).1⟩ hok
        · rfl
    have impl2 : ((if (decide ((Lb.length : Int) < 1) || decide ((Lb.length : Int) > 8)) = true then some true else (p_impl_Ring_areLabels T Lb).bind fun x => some (!x)) : Option Bool) = some true := by
      by_cases hz : 1 ≤ Lb.length ∧ Lb.length ≤ 8
      · have d1 : (decide ((Lb.length : Int) < 1) || decide ((Lb.length : Int) > 8)) = false := by simp only [Bool.or_eq_false_iff, decide_eq_false_iff_not]; omega
        have d2 : decide (∀ i, i < Lb.length → 0 ≤ Lb.getD i 0 ∧ Lb.getD i 0 < T.length) = false := decide_eq_false fun h => hok ⟨hz.1, hz.2, h⟩
        rw [d2] at f2
        rw [d1, f2]
        rfl
      · have d1 : (decide ((Lb.length : Int) < 1) || decide ((Lb.length : Int) > 8)) = true := by simp only [Bool.or_eq_true, decide_eq_true_eq]; omega
        rw [d1]; rfl
    rw [spec2, impl2]
    exact ⟨([], 2), rfl, rfl, by simp, by simp⟩
end
theorem plain_FnExactFusionPaths (aR_Table : (List (List (List Int)))) (aLabels : (List Int)) (h0 : Good3 .i64 aR_Table) (h1 : Good1 .i64 aLabels) : p_laws_FnExactFusionPaths aR_Table aLabels = some true := by
  unfold p_laws_FnExactFusionPaths
  by_cases hl : (aLabels.length : Int) > 1048576
  · simp [hl]
  simp only [hl, decide_false, Bool.false_eq_true, if_false]
  obtain ⟨r, e, hr, hs⟩ := szRing_spec aR_Table 1048576 (by decide) (by decide) h0
  rw [e]
  simp only [Option.bind_some]
  by_cases hr0 : r < 0
  · simp [hr0]
  · simp only [hr0, decide_false, Bool.false_eq_true, if_false]
    obtain ⟨x, e1, e2, e3, e3'⟩ := paths_eq aR_Table aLabels (by omega)
    obtain ⟨m, q, e4, e5, e6⟩ := markRing_ok aR_Table 1 hs (by omega) (by decide) (by decide)
    obtain ⟨l1, e7, _, _⟩ := markS_held aLabels q (by omega) (by omega)
    obtain ⟨y, l, e8, e9, e10, e11⟩ := markSS_held x.1 1 (by decide) (by omega) (fun z hz => by have := e3' z hz; omega) (by decide)
    have hq : ¬ (q + (aLabels.length : Int)) < 0 := by omega
    have hy : ¬ y < 0 := by omega
    simp only [toRing_eq aR_Table hs (by omega), toInt64S_eq aLabels (by omega), Option.bind_some, e1, e2, eqRing_self, eqS_self, eqSS_self, e4, e7, e8, e11]
    simp [hq, hy]
end Go.VG
