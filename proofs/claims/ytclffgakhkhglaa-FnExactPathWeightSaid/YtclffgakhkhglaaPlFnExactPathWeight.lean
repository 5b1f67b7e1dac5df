/- The plain law of FnExactPathWeight: the code's answer is the model's. No condition but the readings'. -/
import Derived.Test.YtclffgakhkhglaaPlPath
set_option linter.all false
namespace Go.VG
/-- A path's numbers one by one: the model stops at the first that is too great, the code goes on and remembers. -/
theorem weigh {sp : Nat → Int → Option (Ctl Int (Int × Int))} {im : Nat → (Int × Bool) → Option (Ctl (Int × Bool) (Int × Int))} {N : Nat} {num : Nat → Int} (hn : ∀ k, k < N → 1 ≤ num k)
    (hs : ∀ k x, k < N → 0 ≤ x → x ≤ 1000000000000000 → sp k x = some (if decide (x > 1000000000000000 / num k) = true then .ret (0, 3) else .next (x * num k)))
    (hi : ∀ k x b, k < N → 0 ≤ x → x ≤ 1000000000000000 → im k (x, b) = some (.next ((if x * num k < 1000000000000000 then x * num k else 1000000000000000), (b || decide (x > 1000000000000000 / num k))))) :
    ∀ (c k : Nat) (x : Int), k + c = N → 0 ≤ x → x ≤ 1000000000000000 →
      (∃ y, forN sp c k x = some (.fin y) ∧ forN im c k (x, false) = some (.fin (y, false))) ∨ (forN sp c k x = some (.ret (0, 3)) ∧ ∃ z, forN im c k (x, false) = some (.fin (z, true))) := by
  have great : ∀ (c k : Nat) (x : Int), k + c = N → 0 ≤ x → x ≤ 1000000000000000 → ∃ z, forN im c k (x, true) = some (.fin (z, true)) := by
    intro c
    induction c with
    | zero => intro k x _ _ _; exact ⟨x, rfl⟩
    | succ c ih =>
      intro k x hk h0 h1
      have hnk := hn k (by omega)
      simp only [forN, hi k x true (by omega) h0 h1, Bool.true_or]
      refine ih (k + 1) _ (by omega) ?_ ?_
      · split
        · exact Int.mul_nonneg h0 (by omega)
        · omega
      · split <;> omega
  intro c
  induction c with
  | zero => intro k x _ _ _; exact .inl ⟨x, rfl, rfl⟩
  | succ c ih =>
    intro k x hk h0 h1
    have hnk := hn k (by omega)
    simp only [forN, hs k x (by omega) h0 h1, hi k x false (by omega) h0 h1, Bool.false_or]
    by_cases hg : x > 1000000000000000 / num k
    · simp only [hg, decide_true, if_true]
      refine .inr ⟨by first | rfl | trivial, great c (k + 1) _ (by omega) ?_ ?_⟩
      · split
        · exact Int.mul_nonneg h0 (by omega)
        · omega
      · split <;> omega
    · simp only [hg, decide_false, Bool.false_eq_true, if_false]
      have hle : x * num k ≤ 1000000000000000 := (Int.le_ediv_iff_mul_le (by omega)).1 (by omega)
      have e : (if x * num k < 1000000000000000 then x * num k else 1000000000000000) = x * num k := by split <;> omega
      rw [e]
      exact ih (k + 1) _ (by omega) (Int.mul_nonneg h0 (by omega)) hle
/-- A number 0 on the way. -/
theorem weigh0 {im : Nat → (Int × Bool) → Option (Ctl (Int × Bool) (Int × Int))} {N : Nat} {num : Nat → Int}
    (hz : ∀ k x b, k < N → num k = 0 → im k (x, b) = some (.ret (0, 0)))
    (hi : ∀ k x b, k < N → num k ≠ 0 → 0 ≤ x → x ≤ 1000000000000000 → ∃ x' b', im k (x, b) = some (.next (x', b')) ∧ 0 ≤ x' ∧ x' ≤ 1000000000000000) :
    ∀ (c k : Nat) (x : Int) (b : Bool), k + c = N → 0 ≤ x → x ≤ 1000000000000000 → (∃ j, k ≤ j ∧ j < N ∧ num j = 0) → forN im c k (x, b) = some (.ret (0, 0)) := by
  intro c
  induction c with
  | zero => rintro k x b hk _ _ ⟨j, h1, h2, _⟩; omega
  | succ c ih =>
    rintro k x b hk h0 h1 ⟨j, hj1, hj2, hj3⟩
    by_cases hz0 : num k = 0
    · simp only [forN, hz k x b (by omega) hz0]
    · obtain ⟨x', b', e, g1, g2⟩ := hi k x b (by omega) hz0 h0 h1
      simp only [forN, e]
      refine ih (k + 1) x' b' (by omega) g1 g2 ⟨j, ?_, hj2, hj3⟩
      by_cases hkj : k = j
      · subst hkj; exact absurd hj3 hz0
      · omega
theorem quo_small {b : Int} (h : 1 ≤ b) : quoI .i64 1000000000000000 b = some (1000000000000000 / b) := by
  have hb : b ≠ 0 := by omega
  simp only [quoI, ne_eq, hb, not_false_eq_true, if_true]
  rw [Int.tdiv_eq_ediv_of_nonneg (by decide)]
  have h1 : 0 ≤ 1000000000000000 / b := Int.ediv_nonneg (by decide) (by omega)
  have h2 : 1000000000000000 / b ≤ 1000000000000000 := Int.ediv_le_self _ (by decide)
  exact congrArg some (w64_small (by omega) (by omega))
theorem pathWeight_eq (T : List (List (List Int))) (labels path : List Int) : ∃ r, p_spec_PathWeight T labels path = some r ∧ p_impl_PathWeight T labels path = some r := by
  obtain ⟨c, e1, e2, hc⟩ := list_code T labels
  unfold p_spec_PathWeight p_impl_PathWeight
  rw [e1, e2]
  simp only [Option.bind_some]
  by_cases h0 : c = 0
  · subst h0
    obtain ⟨⟨hr, hcm⟩, hl1, hl8, hL⟩ := hc.1 rfl
    have hn := hr.cube.1
    simp only [beq_self_eq_true, if_true, bne_self_eq_false, Bool.false_eq_true, if_false]
    obtain ⟨b, e3, hb⟩ := specLabs hn path
    obtain ⟨b', e4, hb'⟩ := implLabs hr.cube path
    by_cases hpl : path.length = labels.length
    · have el : ((path.length : Int) != (labels.length : Int)) = false := (bne_len _ _).2 hpl
      simp only [el, Bool.false_eq_true, if_false, e3, e4, Option.bind_some]
      by_cases hP : LabOK T.length path
      · rw [hb.2 ⟨hP, by omega⟩, hb'.2 hP]
        simp only [Bool.not_true, Bool.false_eq_true, if_false, Option.bind_some, bne_self_eq_false, idx_zero path 0 (by omega : 0 < path.length), idx_zero labels 0 (by omega : 0 < labels.length)]
        have elast : w64 ((path.length : Int) - 1) = ((path.length - 1 : Nat) : Int) := by rw [w64_small (by omega) (by omega)]; omega
        rw [elast]
        simp only [idx_getD path 0 (by omega : path.length - 1 < path.length), Option.bind_some]
        generalize hq : (if (path.getD 0 0 != labels.getD 0 0) = true then some true else some (path.getD (path.length - 1) 0 != 0)) = q
        obtain ⟨bb, rfl⟩ : ∃ bb, q = some bb := by rw [← hq]; split <;> exact ⟨_, rfl⟩
        simp only [Option.bind_some]
        cases bb
        · simp only [Bool.false_eq_true, if_false]
          have eN : ((path.length : Int) - 1).toNat = path.length - 1 := by omega
          rw [eN]
          let num : Nat → Int := fun k => at3 T (path.getD k 0).toNat (labels.getD (k + 1) 0).toNat (path.getD (k + 1) 0).toNat
          have idxs : ∀ k, k < path.length - 1 → idx path (w64 ((1 + (k : Int)) - 1)) = some (path.getD k 0) ∧ idx labels ((1 : Int) + k) = some (labels.getD (k + 1) 0) ∧ idx path ((1 : Int) + k) = some (path.getD (k + 1) 0) ∧
              idx T (path.getD k 0) = some (T.getD (path.getD k 0).toNat []) ∧ idx (T.getD (path.getD k 0).toNat []) (labels.getD (k + 1) 0) = some ((T.getD (path.getD k 0).toNat []).getD (labels.getD (k + 1) 0).toNat []) ∧
              idx ((T.getD (path.getD k 0).toNat []).getD (labels.getD (k + 1) 0).toNat []) (path.getD (k + 1) 0) = some (num k) ∧ 0 ≤ num k ∧ num k ≤ 1000 := by
            intro k hk
            have hp0 := hP k (by omega); have hp1 := hP (k + 1) (by omega); have hl1 := hL (k + 1) (by omega)
            have w1 : w64 ((1 + (k : Int)) - 1) = (k : Int) := by rw [w64_small (by omega) (by omega)]; omega
            have w2 : (1 : Int) + k = ((k + 1 : Nat) : Int) := by omega
            have a1 : (path.getD k 0).toNat < T.length := by omega
            have a2 : (labels.getD (k + 1) 0).toNat < T.length := by omega
            have a3 : (path.getD (k + 1) 0).toNat < T.length := by omega
            rw [w1, w2]
            refine ⟨idx_getD _ _ (by omega), idx_getD _ _ (by omega), idx_getD _ _ (by omega), idx_toNat _ _ hp0.1 (by omega), idx_toNat _ _ hl1.1 (by rw [hr.cube.mat a1]; omega), idx_toNat _ _ hp1.1 (by rw [hr.cube.row a1 a2]; omega), hr.cube.rng a1 a2 a3⟩
          have hI : ∀ k x b, k < path.length - 1 → num k ≠ 0 → 0 ≤ x → x ≤ 1000000000000000 → p_impl_PathWeight_L1 path T labels k x b = some (.next ((if x * num k < 1000000000000000 then x * num k else 1000000000000000), (b || decide (x > 1000000000000000 / num k)))) := by
            intro k x b hk hz h0 h1
            obtain ⟨g1, g2, g3, g4, g5, g6, g7, g8⟩ := idxs k hk
            have hz' : (num k == 0) = false := by simpa using hz
            simp only [p_impl_PathWeight_L1, g1, g2, g3, g4, g5, g6, Option.bind_some, hz', Bool.false_eq_true, if_false, quo_small (by omega : 1 ≤ num k)]
            have hm := prod_pos_bound h0 h1 g7 g8
            rw [w64_small (by omega) (by omega)]
            cases b <;> simp
          have hZ : ∀ k x b, k < path.length - 1 → num k = 0 → p_impl_PathWeight_L1 path T labels k x b = some (.ret (0, 0)) := by
            intro k x b hk hz
            obtain ⟨g1, g2, g3, g4, g5, g6, g7, g8⟩ := idxs k hk
            have hz' : (num k == 0) = true := by simpa using hz
            simp only [p_impl_PathWeight_L1, g1, g2, g3, g4, g5, g6, Option.bind_some, hz', if_true]
          have hS : ∀ k x, k < path.length - 1 → num k ≠ 0 → 0 ≤ x → x ≤ 1000000000000000 → p_spec_PathWeight_L2 path T labels k x = some (if decide (x > 1000000000000000 / num k) = true then .ret (0, 3) else .next (x * num k)) := by
            intro k x hk hz h0 h1
            obtain ⟨g1, g2, g3, g4, g5, g6, g7, g8⟩ := idxs k hk
            simp only [p_spec_PathWeight_L2, g1, g2, g3, g4, g5, g6, Option.bind_some, quo_small (by omega : 1 ≤ num k)]
            have hm := prod_pos_bound h0 h1 g7 g8
            rw [w64_small (by omega) (by omega)]
            split <;> rfl
          have hC := forN_chk (N := path.length - 1) (R := Int × Int) (Bad := fun r => r = (0, 0)) (body := fun k s => p_spec_PathWeight_L1 path T labels k) (P := fun k => num k ≠ 0) fun k hk _ => by
            obtain ⟨g1, g2, g3, g4, g5, g6, g7, g8⟩ := idxs k hk
            simp only [p_spec_PathWeight_L1, g1, g2, g3, g4, g5, g6, Option.bind_some]
            exact ChkC.congr (ChkC.ite rfl) (by simp)
          rcases hC with ⟨hall, e5⟩ | ⟨hex, r, e5, rfl⟩ <;> rw [e5] <;> simp only [Option.bind_some, onRes]
          · rcases weigh (sp := fun k s => p_spec_PathWeight_L2 path T labels k s) (im := fun k s => p_impl_PathWeight_L1 path T labels k s.1 s.2) (N := path.length - 1) (num := num) (fun k hk => by have := (idxs k hk).2.2.2.2.2.2.1; have := hall k hk; omega)
              (fun k x hk h0 h1 => hS k x hk (hall k hk) h0 h1) (fun k x b hk h0 h1 => hI k x b hk (hall k hk) h0 h1) (path.length - 1) 0 1 (by omega) (by decide) (by decide) with ⟨y, e6, e7⟩ | ⟨e6, z, e7⟩
            · rw [e6, e7]; exact ⟨(y, 0), rfl, rfl⟩
            · rw [e6, e7]; exact ⟨(0, 3), rfl, rfl⟩
          · have hex' : ∃ j, 0 ≤ j ∧ j < path.length - 1 ∧ num j = 0 := Classical.byContradiction fun hh => hex fun j hj hz => hh ⟨j, by omega, hj, hz⟩
            have hstep : ∀ k x b, k < path.length - 1 → num k ≠ 0 → 0 ≤ x → x ≤ 1000000000000000 → ∃ x' b', p_impl_PathWeight_L1 path T labels k x b = some (.next (x', b')) ∧ 0 ≤ x' ∧ x' ≤ 1000000000000000 := by
              intro k x b hk hz h0 h1
              have h7 := (idxs k hk).2.2.2.2.2.2.1
              have h8 := Int.mul_nonneg h0 h7
              exact ⟨_, _, hI k x b hk hz h0 h1, by split <;> omega, by split <;> omega⟩
            have e7 := weigh0 (im := fun k s => p_impl_PathWeight_L1 path T labels k s.1 s.2) (N := path.length - 1) (num := num) hZ hstep (path.length - 1) 0 1 false (by omega) (by decide) (by decide) hex'
            rw [e7]
            exact ⟨(0, 0), rfl, rfl⟩
        · exact ⟨(0, 0), rfl, rfl⟩
      · have q1 : b = false := by cases b with | false => rfl | true => exact absurd (hb.1 rfl).1 hP
        have q2 : b' = false := by cases b' with | false => rfl | true => exact absurd (hb'.1 rfl) hP
        rw [q1, q2]
        exact ⟨(0, 2), rfl, rfl⟩
    · have el : ((path.length : Int) != (labels.length : Int)) = true := by simp; omega
      simp only [el, if_true]
      exact ⟨(0, 2), rfl, rfl⟩
  · have h1 : (c == 0) = false := by simpa using h0
    have h2 : (c != 0) = true := by simpa using h0
    simp only [h1, h2, Bool.false_eq_true, if_false, if_true, Option.bind_some]
    exact ⟨_, rfl, rfl⟩
theorem plain_FnExactPathWeight (aR_Table : (List (List (List Int)))) (aLabels : (List Int)) (aPath : (List Int)) (h0 : Good3 .i64 aR_Table) (h1 : Good1 .i64 aLabels) (h2 : Good1 .i64 aPath) : p_laws_FnExactPathWeight aR_Table aLabels aPath = some true := by
  unfold p_laws_FnExactPathWeight
  by_cases hl : (aLabels.length : Int) > 1048576
  · simp [hl]
  by_cases hl2 : (aPath.length : Int) > 1048576
  · simp [hl2]
  simp only [hl, hl2, decide_false, Bool.false_eq_true, if_false]
  obtain ⟨r, e, hr, hs⟩ := szRing_spec aR_Table 1048576 (by decide) (by decide) h0
  rw [e]
  simp only [Option.bind_some]
  by_cases hr0 : r < 0
  · simp [hr0]
  · simp only [hr0, decide_false, Bool.false_eq_true, if_false]
    obtain ⟨x, e1, e2⟩ := pathWeight_eq aR_Table aLabels aPath
    simp only [toRing_eq aR_Table hs (by omega), toInt64S_eq aLabels (by omega), toInt64S_eq aPath (by omega), Option.bind_some, e1, e2, eqRing_self, eqS_self]
    simp
end Go.VG
