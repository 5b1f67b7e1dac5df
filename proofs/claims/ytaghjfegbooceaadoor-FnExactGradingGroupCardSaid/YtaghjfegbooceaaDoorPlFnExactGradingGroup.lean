/- The plain law of FnExactGradingGroup: the code's answer is the model's. No condition but the readings'. -/
import Derived.Test.YtaghjfegbooceaaDoorPlGrade
import Derived.Test.YtaghjfegbooceaaDoorPlSubOK
import Derived.Test.YtaghjfegbooceaaDoorPlHeld2
import Derived.Test.YtaghjfegbooceaaDoorPlMark
set_option linter.all false
namespace Go.VG
/-! ### Numbers of classes -/
section
variable {n : Nat} {rb : Nat → Nat → Bool}
def VN (n : Nat) (rb : Nat → Nat → Bool) (k : Nat) : Nat := cntK n rb (fsK n rb k)
theorem VK_VN (k : Nat) : VK n rb k = ((VN n rb k : Nat) : Int) := rfl
theorem cntK_mono {i j : Nat} (h : i ≤ j) : cntK n rb i ≤ cntK n rb j := by
  obtain ⟨d, rfl⟩ : ∃ d, j = i + d := ⟨j - i, by omega⟩
  clear h
  induction d with
  | zero => exact Nat.le_refl _
  | succ d ih => rw [← Nat.add_assoc]; simp only [cntK]; omega
theorem Eqv.V_old (h : Eqv n rb) {k : Nat} (hk : k < n) (ho : fsK n rb k < k) : VN n rb k < cntK n rb k := by
  have hs : cntK n rb (fsK n rb k + 1) = cntK n rb (fsK n rb k) + 1 := by simp only [cntK]; rw [if_pos (h.fs_fs hk)]
  have := cntK_mono (n := n) (rb := rb) (i := fsK n rb k + 1) (j := k) (by omega)
  unfold VN; omega
theorem V_new {k : Nat} (ho : fsK n rb k = k) : VN n rb k = cntK n rb k := by unfold VN; rw [ho]
theorem cntK_new {k : Nat} (ho : fsK n rb k = k) : cntK n rb (k + 1) = cntK n rb k + 1 := by simp only [cntK]; rw [if_pos ho]
theorem cntK_old {k : Nat} (ho : fsK n rb k ≠ k) : cntK n rb (k + 1) = cntK n rb k := by simp only [cntK]; rw [if_neg ho]; rfl
/-- The numbers given so far, and the next. -/
theorem Eqv.lt_next (h : Eqv n rb) {k : Nat} (hk : k < n) (x : Nat) : x < cntK n rb (k + 1) ↔ x < cntK n rb k ∨ x = VN n rb k := by
  have hle := h.fs_le hk
  by_cases ho : fsK n rb k = k
  · rw [cntK_new ho, V_new ho]; omega
  · have := h.V_old hk (by omega)
    rw [cntK_old ho]; omega
theorem Eqv.V_lt (h : Eqv n rb) {k : Nat} (hk : k < n) : VN n rb k < cntK n rb n := by
  have := (h.lt_next hk (VN n rb k)).2 (.inr rfl)
  have := cntK_mono (n := n) (rb := rb) (i := k + 1) (j := n) (by omega)
  omega
theorem Eqv.V_is (h : Eqv n rb) {k : Nat} (hk : k < n) : VN n rb k = cntK n rb k ↔ fsK n rb k = k := by
  have hle := h.fs_le hk
  constructor
  · intro e
    apply Decidable.byContradiction
    intro hc
    have := h.V_old hk (by omega); omega
  · exact V_new
/-- Labels of one number are of one class. -/
theorem Eqv.V_inj (h : Eqv n rb) {i j : Nat} (hi : i < n) (hj : j < n) (e : VN n rb i = VN n rb j) : rb i j = true := by
  have key : ∀ {p q : Nat}, p < n → q < n → fsK n rb p < fsK n rb q → VN n rb p ≠ VN n rb q := fun {p q} hp hq hlt => by
    have hs : cntK n rb (fsK n rb p + 1) = cntK n rb (fsK n rb p) + 1 := by simp only [cntK]; rw [if_pos (h.fs_fs hp)]
    have := cntK_mono (n := n) (rb := rb) (i := fsK n rb p + 1) (j := fsK n rb q) (by omega)
    unfold VN; omega
  have ef : fsK n rb i = fsK n rb j := by
    rcases Nat.lt_trichotomy (fsK n rb i) (fsK n rb j) with h1 | h1 | h1
    · exact absurd e (key hi hj h1)
    · exact h1
    · exact absurd e.symm (key hj hi h1)
  have a := h.fs_le hi
  have b := h.fs_le hj
  have r1 := h.fs_rel hi
  have r2 := h.fs_rel hj
  rw [ef] at r1
  exact h.trans i _ j hi (by omega) hj (h.symm _ i (by omega) hi r1) r2
theorem Eqv.V_eq (h : Eqv n rb) {i j : Nat} (hi : i < n) (hj : j < n) (hr : rb i j = true) : VN n rb j = VN n rb i := by unfold VN; rw [h.fs_eq hi hj hr]
/-- The first label of a number. -/
def repN (n : Nat) (rb : Nat → Nat → Bool) (a : Nat) : Nat := fstN (fun i => decide (VN n rb i = a)) n
theorem rep_ok {k : Nat} (hk : k < n) : repN n rb (VN n rb k) < n ∧ VN n rb (repN n rb (VN n rb k)) = VN n rb k := by
  have hs := fstN_spec (fun i => decide (VN n rb i = VN n rb k)) n
  have hle : repN n rb (VN n rb k) ≤ k := by
    apply Decidable.byContradiction
    intro hc
    have := hs.2.2 k (by unfold repN at hc; omega)
    simp at this
  refine ⟨by omega, ?_⟩
  have := hs.2.1 (by unfold repN at hle; omega)
  exact of_decide_eq_true this
end

section
variable {T : List (List (List Int))}
def cnA (T : List (List (List Int))) (k : Nat) : Nat := cntK T.length (rA T) k
def vA (T : List (List (List Int))) (k : Nat) : Nat := VN T.length (rA T) k
/-- The first label of a product. -/
def fpN (T : List (List (List Int))) (i j : Nat) : Nat := fstN (fun k => decide (0 < at3 T i j k)) T.length
theorem fp_ok (h : RingOK T) {i j : Nat} (hi : i < T.length) (hj : j < T.length) : fpN T i j < T.length ∧ Oc T i j (fpN T i j) ∧ ∀ k, k < fpN T i j → at3 T i j k = 0 := by
  have hs := fstN_spec (fun k => decide (0 < at3 T i j k)) T.length
  obtain ⟨k, hk, hp⟩ := h.some hi hj
  have hle : fpN T i j ≤ k := by
    apply Decidable.byContradiction
    intro hc
    have := hs.2.2 k (by unfold fpN at hc; omega)
    unfold Oc at hp; simp at this; omega
  refine ⟨by omega, ?_, fun q hq => ?_⟩
  · have := hs.2.1 (by unfold fpN at hle; omega)
    unfold Oc fpN; simpa using this
  · have := hs.2.2 q hq
    have h0 := (h.cube.rng hi hj (k := q) (by omega)).1
    simp at this; omega
/-- The group's table. -/
def gA (T : List (List (List Int))) (a b : Nat) : Nat := vA T (fpN T (repN T.length (rA T) a) (repN T.length (rA T) b))
theorem gA_eq (h : RingOK T) {i j k : Nat} (hi : i < T.length) (hj : j < T.length) (hk : k < T.length) (hp : Oc T i j k) : vA T k = gA T (vA T i) (vA T j) := by
  have he := rA_eqv h
  obtain ⟨a1, a2⟩ := rep_ok (rb := rA T) hi
  obtain ⟨b1, b2⟩ := rep_ok (rb := rA T) hj
  obtain ⟨f1, f2, _⟩ := fp_ok h a1 b1
  have r1 := he.V_inj a1 hi a2
  have r2 := he.V_inj b1 hj b2
  exact he.V_eq f1 hk (prod_two h a1 b1 f1 hi hj hk r1 r2 f2 hp)
theorem cn_le (k : Nat) : cnA T k ≤ k := cntK_le _ _ k
theorem compL_idx {k : Nat} (hk : k < T.length) : idx (compL T) (k : Int) = some ((vA T k : Nat) : Int) := vecG_idx hk
theorem compL_len : (compL T).length = T.length := vecG_len

/-! ### The model's loops -/
theorem specGrade (h : RingOK T) : forN (R := Unit) (fun k s => p_spec_GradingGroup_L1 (compL T) T k s) T.length 0 [] = some (.fin (grid (fun a b => ((gA T a b : Nat) : Int)) (cnA T T.length) (cnA T T.length))) := by
  have he := rA_eqv h
  have hn := h.n16
  have := forN_det (R := Unit) (N := T.length) (body := fun k s => p_spec_GradingGroup_L1 (compL T) T k s) (fun i => grid (fun a b => ((gA T a b : Nat) : Int)) (cnA T i) (cnA T T.length)) (fun i hi => by
    have hci := cn_le (T := T) i
    simp only [p_spec_GradingGroup_L1, compL_idx hi, Option.bind_some, grid_len]
    by_cases hv : vA T i = cnA T i
    · have ho : fsK T.length (rA T) i = i := (he.V_is hi).1 hv
      have e0 : (((vA T i : Nat) : Int) != ((cnA T i : Nat) : Int)) = false := by simp; omega
      simp only [e0, Bool.false_eq_true, if_false, compL_len]
      have s2 := forN_det (R := Unit) (N := T.length) (body := fun k s => p_spec_GradingGroup_L2 (compL T) T i k s) (fun j => rowG (fun a b => ((gA T a b : Nat) : Int)) (cnA T j) (vA T i)) (fun j hj => by
        have hcj := cn_le (T := T) j
        simp only [p_spec_GradingGroup_L2, compL_idx hj, Option.bind_some, rowG_len]
        by_cases hw : vA T j = cnA T j
        · have ho' : fsK T.length (rA T) j = j := (he.V_is hj).1 hw
          have e1 : (((vA T j : Nat) : Int) != ((cnA T j : Nat) : Int)) = false := by simp; omega
          obtain ⟨f1, f2, f3⟩ := fp_ok h hi hj
          have hp : ¬ at3 T i j (fpN T i j) = 0 := by unfold Oc at f2; omega
          have sw := whileC_det (R := Unit) (step := fun s => p_spec_GradingGroup_L3 T i j s) (fpN T i j) (fun k => (k : Int)) (s' := ((fpN T i j : Nat) : Int)) (fun k hk => by
            have e5 : w64 ((k : Int) + 1) = ((k + 1 : Nat) : Int) := by rw [w64_small (by omega) (by omega)]; rfl
            simp only [p_spec_GradingGroup_L3, h.cube.i1 hi, h.cube.i2 hi hj, h.cube.i3 hi hj (by omega : k < T.length), Option.bind_some, f3 k hk, beq_self_eq_true, if_true, e5]) (by
            have e6 : (at3 T i j (fpN T i j) == 0) = false := by simpa using hp
            simp only [p_spec_GradingGroup_L3, h.cube.i1 hi, h.cube.i2 hi hj, h.cube.i3 hi hj f1, Option.bind_some, e6, Bool.false_eq_true, if_false])
          have sw' : whileC (R := Unit) (fun s => p_spec_GradingGroup_L3 T i j s) (0 : Int) = _ := sw
          simp only [e1, Bool.false_eq_true, if_false]
          rw [sw']
          simp only [Option.bind_some, onRes, compL_idx f1]
          have eg : ((vA T (fpN T i j) : Nat) : Int) = ((gA T (vA T i) (cnA T j) : Nat) : Int) := by rw [gA_eq h hi hj f1 f2, hw]
          have ec : cnA T (j + 1) = cnA T j + 1 := cntK_new ho'
          rw [eg, ec]
          have := app_range (fun b => ((gA T (vA T i) b : Nat) : Int)) (by omega : cnA T j ≤ 1048576)
          have this' : appL (rowG (fun a b => ((gA T a b : Nat) : Int)) (cnA T j) (vA T i)) [((gA T (vA T i) (cnA T j) : Nat) : Int)] = _ := this
          rw [this']
          rfl
        · have e1 : (((vA T j : Nat) : Int) != ((cnA T j : Nat) : Int)) = true := by simp; omega
          have ho' : fsK T.length (rA T) j ≠ j := fun e => hw ((he.V_is hj).2 e)
          have ec : cnA T (j + 1) = cnA T j := cntK_old ho'
          simp only [e1, if_true, ec])
      have s2' : forN (R := Unit) (fun k s => p_spec_GradingGroup_L2 (compL T) T i k s) T.length 0 [] = _ := s2
      rw [s2']
      simp only [Option.bind_some, onRes]
      have ec : cnA T (i + 1) = cnA T i + 1 := cntK_new ho
      rw [hv, ec]
      have := app_range (fun a => rowG (fun a b => ((gA T a b : Nat) : Int)) (cnA T T.length) a) (by omega : cnA T i ≤ 1048576)
      have this' : appL (grid (fun a b => ((gA T a b : Nat) : Int)) (cnA T i) (cnA T T.length)) [rowG (fun a b => ((gA T a b : Nat) : Int)) (cnA T T.length) (cnA T i)] = _ := this
      rw [this']
      rfl
    · have e1 : (((vA T i : Nat) : Int) != ((cnA T i : Nat) : Int)) = true := by simp; omega
      have ho : fsK T.length (rA T) i ≠ i := fun e => hv ((he.V_is hi).2 e)
      have ec : cnA T (i + 1) = cnA T i := cntK_old ho
      simp only [e1, if_true, ec])
  exact this

/-! ### The code's loops -/
theorem implMany (h : RingOK T) : forN (R := Unit) (fun k s => p_impl_GradingGroup_L1 (compL T) k s) T.length 0 (0 : Int) = some (.fin ((cnA T T.length : Nat) : Int)) := by
  have he := rA_eqv h
  have hn := h.n16
  have := forN_det (R := Unit) (N := T.length) (body := fun k s => p_impl_GradingGroup_L1 (compL T) k s) (fun i => ((cnA T i : Nat) : Int)) (fun i hi => by
    have hci := cn_le (T := T) i
    have hv : vA T i ≤ cnA T i := by
      have hle := he.fs_le hi
      by_cases ho : fsK T.length (rA T) i = i
      · exact Nat.le_of_eq (V_new ho)
      · exact Nat.le_of_lt (he.V_old hi (by omega))
    have e5 : w64 (((vA T i : Nat) : Int) + 1) = ((vA T i + 1 : Nat) : Int) := by rw [w64_small (by omega) (by omega)]; rfl
    simp only [p_impl_GradingGroup_L1, compL_idx hi, Option.bind_some, e5]
    congr 2
    have hl := he.lt_next hi
    by_cases ho : fsK T.length (rA T) i = i
    · have e1 : vA T i = cnA T i := V_new ho
      have ec : cnA T (i + 1) = cnA T i + 1 := cntK_new ho
      rw [if_pos (by omega)]; omega
    · have e1 : vA T i < cnA T i := he.V_old hi (by have := he.fs_le hi; omega)
      have ec : cnA T (i + 1) = cnA T i := cntK_old ho
      rw [if_neg (by omega)]; omega)
  exact this
theorem implCell (h : RingOK T) {i j : Nat} (hi : i < T.length) (hj : j < T.length) {g : Nat → Nat → Int} : p_impl_GradingGroup_L3 (compL T) ((vA T i : Nat) : Int) (grid (supI T) T.length T.length) i j (grid g (cnA T T.length) (cnA T T.length)) = some (.next (grid (up2 g (vA T i) (vA T j) ((gA T (vA T i) (vA T j) : Nat) : Int)) (cnA T T.length) (cnA T T.length))) := by
  have he := rA_eqv h
  have hn := h.n16
  have vi : vA T i < cnA T T.length := he.V_lt hi
  have vj : vA T j < cnA T T.length := he.V_lt hj
  have hs := supp_lt (T := T) i j
  obtain ⟨k0, hk0, hp0⟩ := h.some hi hj
  obtain ⟨q, hq, _⟩ := ln_ex (m := supp T i j) hk0 ((supp_bit i j k0).2 ⟨hk0, hp0⟩)
  have hz : 0 < kn (supp T i j) T.length := by omega
  obtain ⟨l1, l2⟩ := ln_at hz
  have hp := ((supp_bit i j _).1 l2).2
  have e0 : idx (bitsFrom (supp T i j) 0 T.length) (0 : Int) = some ((ln (supp T i j) T.length 0 : Nat) : Int) := bits_ln (a := 0) hz
  unfold p_impl_GradingGroup_L3
  rw [compL_idx hj, Option.bind_some, grid_idx vi, Option.bind_some, grid_idx hi, Option.bind_some, rowG_idx hj, Option.bind_some, supI, labels_eq (by omega : T.length ≤ 63) hs, Option.bind_some, e0, Option.bind_some, compL_idx l1, Option.bind_some, rowG_idx vj, Option.bind_some, Int.toNat_natCast, Int.toNat_natCast, grid_set vi vj, gA_eq h hi hj l1 hp]
theorem implGrade (h : RingOK T) : forN (R := Unit) (fun k s => p_impl_GradingGroup_L2 (compL T) (grid (supI T) T.length T.length) k s) T.length 0 (grid (fun _ _ => 0) (cnA T T.length) (cnA T T.length)) = some (.fin (grid (fun a b => ((gA T a b : Nat) : Int)) (cnA T T.length) (cnA T T.length))) := by
  have he := rA_eqv h
  have s1 := forN_det (R := Unit) (N := T.length) (body := fun k s => p_impl_GradingGroup_L2 (compL T) (grid (supI T) T.length T.length) k s) (fun i => grid (fun a b => if a < cnA T i then ((gA T a b : Nat) : Int) else 0) (cnA T T.length) (cnA T T.length)) (fun i hi => by
    simp only [p_impl_GradingGroup_L2, compL_idx hi, Option.bind_some, compL_len]
    have s2 := forN_det (R := Unit) (N := T.length) (body := fun k s => p_impl_GradingGroup_L3 (compL T) ((vA T i : Nat) : Int) (grid (supI T) T.length T.length) i k s) (fun j => grid (fun a b => if a < cnA T i ∨ (a = vA T i ∧ b < cnA T j) then ((gA T a b : Nat) : Int) else 0) (cnA T T.length) (cnA T T.length)) (fun j hj => by
      rw [implCell h hi hj]
      congr 2
      refine grid_congr fun a ha b hb => ?_
      have hl := he.lt_next hj b
      have hl' : b < cnA T (j + 1) ↔ b < cnA T j ∨ b = vA T j := hl
      simp only [up2, hl']
      by_cases e : a = vA T i ∧ b = vA T j
      · obtain ⟨rfl, rfl⟩ := e
        rw [if_pos ⟨rfl, rfl⟩, if_pos (.inr ⟨rfl, .inr rfl⟩)]
      · rw [if_neg e]
        have : (a < cnA T i ∨ (a = vA T i ∧ (b < cnA T j ∨ b = vA T j))) ↔ (a < cnA T i ∨ (a = vA T i ∧ b < cnA T j)) := by
          constructor
          · rintro (h1 | ⟨h1, h2 | h2⟩)
            · exact .inl h1
            · exact .inr ⟨h1, h2⟩
            · exact absurd ⟨h1, h2⟩ e
          · rintro (h1 | ⟨h1, h2⟩)
            · exact .inl h1
            · exact .inr ⟨h1, .inl h2⟩
        simp only [this])
    have e0 : grid (fun a b => if a < cnA T i ∨ (a = vA T i ∧ b < cnA T 0) then ((gA T a b : Nat) : Int) else 0) (cnA T T.length) (cnA T T.length) = grid (fun a b => if a < cnA T i then ((gA T a b : Nat) : Int) else 0) (cnA T T.length) (cnA T T.length) := grid_congr fun a ha b hb => by
      have : ¬ b < cnA T 0 := by have := cn_le (T := T) 0; omega
      simp [this]
    rw [e0] at s2
    rw [s2]
    simp only [Option.bind_some, onRes]
    congr 2
    refine grid_congr fun a ha b hb => ?_
    have hl : a < cnA T (i + 1) ↔ a < cnA T i ∨ a = vA T i := he.lt_next hi a
    simp only [hl, hb, and_true])
  have e0 : grid (fun a b => if a < cnA T 0 then ((gA T a b : Nat) : Int) else 0) (cnA T T.length) (cnA T T.length) = grid (fun _ _ => 0) (cnA T T.length) (cnA T T.length) := grid_congr fun a ha b hb => by
    have : ¬ a < cnA T 0 := by have := cn_le (T := T) 0; omega
    simp [this]
  rw [e0] at s1
  rw [s1]
  congr 2
  refine grid_congr fun a ha b hb => ?_
  rw [if_pos ha]
end
theorem grade_eq (T : List (List (List Int))) : ∃ r, p_spec_GradingGroup T = some r ∧ p_impl_GradingGroup T = some r ∧ r.1.length ≤ 1048576 ∧ ∀ x ∈ r.1, x.length ≤ 1048576 := by
  unfold p_spec_GradingGroup p_impl_GradingGroup
  obtain ⟨b, e, hb⟩ := specIs (T := T)
  have e' : p_impl_IsRing T = some b := by rw [← e]; exact (implIs.eq specIs)
  rw [e, e']
  simp only [Option.bind_some]
  cases b
  · exact ⟨([], 1), rfl, rfl, by simp, by simp⟩
  · have h := hb.1 rfl
    have hn := h.n16
    have hc := cn_le (T := T) T.length
    simp only [Bool.not_true, Bool.false_eq_true, if_false, specAdj h, specComps h, implComps h, supports_eq h.cube, Option.bind_some, compL_len]
    rw [specGrade h, implMany h]
    simp only [Option.bind_some, onRes]
    rw [implZeros (by omega : cnA T T.length ≤ 1048576) (by omega : cnA T T.length ≤ 1048576)]
    simp only [Option.bind_some]
    rw [implGrade h]
    refine ⟨_, rfl, rfl, by simp only [grid_len]; omega, fun x hx => ?_⟩
    unfold grid at hx
    obtain ⟨j, hj, rfl⟩ := List.mem_map.1 hx
    rw [rowG_len]; omega
theorem plain_FnExactGradingGroup (aR_Table : (List (List (List Int)))) (h0 : Good3 .i64 aR_Table) : p_laws_FnExactGradingGroup aR_Table = some true := by
  unfold p_laws_FnExactGradingGroup
  obtain ⟨r, e, hr, hs⟩ := szRing_spec aR_Table 1048576 (by decide) (by decide) h0
  rw [e]
  simp only [Option.bind_some]
  by_cases hr0 : r < 0
  · simp [hr0]
  · simp only [hr0, decide_false, Bool.false_eq_true, if_false]
    obtain ⟨x, e1, e2, e3, e3'⟩ := grade_eq aR_Table
    obtain ⟨m, q, e4, e5, e6⟩ := markRing_ok aR_Table 1 hs (by omega) (by decide) (by decide)
    obtain ⟨y, l, e7, e8, e9, e10⟩ := markSS_held x.1 1 (by decide) e3 e3' (by decide)
    have hq : ¬ q < 0 := by omega
    have hy : ¬ y < 0 := by omega
    simp only [toRing_eq aR_Table hs (by omega), Option.bind_some, e1, e2, eqRing_self, eqSS_self, e4, e7, e10]
    simp [hq, hy]
end Go.VG
