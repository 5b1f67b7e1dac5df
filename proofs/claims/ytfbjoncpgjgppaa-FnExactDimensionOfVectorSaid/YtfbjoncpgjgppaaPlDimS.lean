/- The model's way to whole dimensions: 400 steps in millionths. Plain. -/
import Derived.Test.YtfbjoncpgjgppaaPlDimIt
import Derived.Test.YtfbjoncpgjgppaaPlGrid
set_option linter.all false
namespace Go.VG
section
variable {T : List (List (List Int))}
/-- One label's part of a step. -/
def pA (T : List (List (List Int))) (w : Nat → Int) (i j : Nat) : Int := sumN (fun k => at3 T i j k * w k) T.length
theorem nW_rows (w : Nat → Int) (j : Nat) : nW T w j = sumN (fun i => pA T w i j) T.length := by
  unfold nW mM pA
  rw [sumN_congr (g := fun k => sumN (fun l => at3 T l j k * w k) T.length) (fun k hk => by rw [sumN_mulR])]
  exact sumN_swap (fun k l => at3 T l j k * w k) T.length T.length
theorem part_bd (h : Cube T) {w : Nat → Int} {W : Int} (hw : ∀ k, k < T.length → 0 ≤ w k ∧ w k ≤ W) {i j : Nat} (hi : i < T.length) (hj : j < T.length) {k : Nat} (hk : k ≤ T.length) : 0 ≤ sumN (fun k => at3 T i j k * w k) k ∧ sumN (fun k => at3 T i j k * w k) k ≤ k * (1000 * W) := by
  have := sumN_bd (f := fun k => at3 T i j k * w k) (a := 0) (b := 1000 * W) (n := k) (fun q hq => by
    have r := h.rng hi hj (k := q) (by omega)
    have v := hw q (by omega)
    exact ⟨Int.mul_nonneg r.1 v.1, Int.mul_le_mul r.2 v.2 v.1 (by decide)⟩)
  simpa using this
theorem rows_bd (h : Cube T) {w : Nat → Int} {W : Int} (hW : 0 ≤ W) (hw : ∀ k, k < T.length → 0 ≤ w k ∧ w k ≤ W) {j : Nat} (hj : j < T.length) {i : Nat} (hi : i ≤ T.length) : 0 ≤ sumN (fun i => pA T w i j) i ∧ sumN (fun i => pA T w i j) i ≤ i * (16000 * W) := by
  have hn := h.1.2
  have := sumN_bd (f := fun i => pA T w i j) (a := 0) (b := 16000 * W) (n := i) (fun q hq => by
    have := part_bd h hw (i := q) (by omega) hj (Nat.le_refl _)
    have e : (T.length : Int) * (1000 * W) ≤ 16 * (1000 * W) := Int.mul_le_mul_of_nonneg_right (by omega) (by omega)
    unfold pA; omega)
  simpa using this
theorem next_exact (h : Cube T) {w : Nat → Int} {W : Int} (hW : 0 ≤ W) (hW2 : W ≤ 30000000000000) (hw : ∀ k, k < T.length → 0 ≤ w k ∧ w k ≤ W) : p_spec_l04Next T (vecG w T.length) = some (vecG (nW T w) T.length) := by
  have hn := h.1.2
  unfold p_spec_l04Next
  rw [vecG_len, mkL_some' 0 (by omega)]
  simp only [Option.bind_some]
  have s1 := forN_det (R := Unit) (N := T.length) (body := fun k s => p_spec_l04Next_L1 T (vecG w T.length) k s) (fun i => vecG (fun j => sumN (fun i => pA T w i j) i) T.length) (fun i hi => by
    simp only [p_spec_l04Next_L1, vecG_len]
    have s2 := forN_det (R := Unit) (N := T.length) (body := fun k s => p_spec_l04Next_L2 T i (vecG w T.length) k s) (fun j => vecG (fun q => sumN (fun i => pA T w i q) (if q < j then i + 1 else i)) T.length) (fun j hj => by
      simp only [p_spec_l04Next_L2, vecG_len]
      have s3 := forN_det (R := Unit) (N := T.length) (body := fun k s => p_spec_l04Next_L3 j T i (vecG w T.length) k s) (fun k => vecG (up1 (fun q => sumN (fun i => pA T w i q) (if q < j then i + 1 else i)) j (sumN (fun i => pA T w i j) i + sumN (fun k => at3 T i j k * w k) k)) T.length) (fun k hk => by
        simp only [p_spec_l04Next_L3, vecG_idx hj, h.i1 hi, h.i2 hi hj, h.i3 hi hj hk, vecG_idx hk, Option.bind_some, Int.toNat_natCast]
        rw [vecG_set hj]
        have r := h.rng hi hj hk
        have v := hw k hk
        have b1 := rows_bd h hW hw hj (i := i) (by omega)
        have b2 := part_bd h hw hi hj (k := k) (by omega)
        have m0 : 0 ≤ at3 T i j k * w k := Int.mul_nonneg r.1 v.1
        have m1 : at3 T i j k * w k ≤ 1000 * W := Int.mul_le_mul r.2 v.2 v.1 (by decide)
        have c1 : (i : Int) * (16000 * W) ≤ 15 * (16000 * W) := Int.mul_le_mul_of_nonneg_right (by omega) (by omega)
        have c2 : (k : Int) * (1000 * W) ≤ 15 * (1000 * W) := Int.mul_le_mul_of_nonneg_right (by omega) (by omega)
        have e0 : up1 (fun q => sumN (fun i => pA T w i q) (if q < j then i + 1 else i)) j (sumN (fun i => pA T w i j) i + sumN (fun k => at3 T i j k * w k) k) j = sumN (fun i => pA T w i j) i + sumN (fun k => at3 T i j k * w k) k := by simp [up1]
        rw [e0, w64_small (x := at3 T i j k * w k) (by omega) (by omega), w64_small (by omega) (by omega)]
        congr 2
        refine vecG_congr fun q hq => ?_
        simp only [up1, sumN]
        split
        · omega
        · rfl)
      have e0 : vecG (up1 (fun q => sumN (fun i => pA T w i q) (if q < j then i + 1 else i)) j (sumN (fun i => pA T w i j) i + sumN (fun k => at3 T i j k * w k) 0)) T.length = vecG (fun q => sumN (fun i => pA T w i q) (if q < j then i + 1 else i)) T.length := vecG_congr fun q hq => by
        simp only [up1, sumN]
        split
        · rename_i e; subst e; simp
        · rfl
      rw [e0] at s3
      rw [s3]
      simp only [Option.bind_some, onRes]
      congr 2
      refine vecG_congr fun q hq => ?_
      simp only [up1]
      by_cases e : q = j
      · subst e
        rw [if_pos rfl, if_pos (by omega)]
        rfl
      · rw [if_neg e]
        have : q < j + 1 ↔ q < j := by omega
        simp only [this])
    have e0 : vecG (fun q => sumN (fun i => pA T w i q) (if q < 0 then i + 1 else i)) T.length = vecG (fun j => sumN (fun i => pA T w i j) i) T.length := vecG_congr fun q hq => by simp
    rw [e0] at s2
    rw [s2]
    simp only [Option.bind_some, onRes]
    congr 2
    refine vecG_congr fun q hq => ?_
    rw [if_pos hq])
  have e0 : vecG (fun j => sumN (fun i => pA T w i j) 0) T.length = List.replicate T.length 0 := by
    apply List.ext_getElem
    · simp [vecG]
    · intro i h1 h2; simp [vecG, sumN]
  rw [e0] at s1
  rw [s1]
  simp only [Option.bind_some, onRes]
  congr 1
  exact vecG_congr fun q hq => (nW_rows w q).symm

/-! ### A step in millionths -/
def flo (v0 x : Int) : Int := x * 1000000 / v0
/-- Weights in millionths of the first. -/
structure Mil (T : List (List (List Int))) (w : Nat → Int) : Prop where
  one : w 0 = 1000000
  lo : ∀ k, k < T.length → 1000000 ≤ w k
  hi : ∀ k, k < T.length → w k ≤ 16000000000
theorem quot_split {x v0 : Int} (hx : 0 ≤ x) (hv : 0 < v0) : x / v0 * 1000000 + x % v0 * 1000000 / v0 = x * 1000000 / v0 := by
  have e : x * 1000000 = x % v0 * 1000000 + v0 * (x / v0 * 1000000) := by
    have := Int.emod_add_mul_ediv x v0
    have e2 : v0 * (x / v0 * 1000000) = v0 * (x / v0) * 1000000 := by rw [Int.mul_assoc]
    rw [e2]; omega
  rw [e, Int.add_mul_ediv_left _ _ (by omega)]; omega
theorem nW_bd (h : RingOK T) {w : Nat → Int} (hw : ∀ k, k < T.length → 0 ≤ w k) {j : Nat} (hj : j < T.length) : sumN w T.length ≤ nW T w j ∧ nW T w j ≤ 16000 * sumN w T.length := by
  unfold nW
  refine ⟨sumN_le fun k hk => ?_, ?_⟩
  · have := Int.mul_le_mul_of_nonneg_right (mM_pos h hj hk) (hw k hk)
    omega
  · rw [← sumN_mulL]
    exact sumN_le fun k hk => Int.mul_le_mul_of_nonneg_right (mM_le h hj hk) (hw k hk)
theorem nW_zero (h : RingOK T) (w : Nat → Int) : nW T w 0 = sumN w T.length := by
  unfold nW
  exact sumN_congr fun k hk => by rw [mM_zero h hk]; omega
theorem flo_facts {v0 x : Int} (hv : 0 < v0) (h1 : v0 ≤ x) (h2 : x ≤ 16000 * v0) : 1000000 ≤ flo v0 x ∧ flo v0 x ≤ 16000000000 ∧ flo v0 x * v0 ≤ x * 1000000 ∧ x * 1000000 < (flo v0 x + 1) * v0 := by
  unfold flo
  refine ⟨?_, ?_, Int.ediv_mul_le _ (by omega), Int.lt_ediv_add_one_mul_self _ hv⟩
  · rw [Int.le_ediv_iff_mul_le hv]; omega
  · have : x * 1000000 / v0 < 16000000001 := by rw [Int.ediv_lt_iff_lt_mul hv]; omega
    omega
theorem mil_step (h : RingOK T) {w : Nat → Int} (hm : Mil T w) (k : Nat) : p_spec_l04Integers_L2 T k (vecG w T.length) = some (.next (vecG (fun j => flo (nW T w 0) (nW T w j)) T.length)) ∧ Mil T (fun j => flo (nW T w 0) (nW T w j)) ∧ Rnd T.length (nW T w) (fun j => flo (nW T w 0) (nW T w j)) (nW T w 0) 1000000 1000000 ∧ 0 < nW T w 0 := by
  have hn := h.cube.1
  have hw0 : ∀ k, k < T.length → 0 ≤ w k := fun k hk => by have := hm.lo k hk; omega
  have hS1 : w 0 ≤ sumN w T.length := sumN_at_le hw0 0 h.n0
  have hS2 : sumN w T.length ≤ T.length * 16000000000 := (sumN_bd (f := w) (a := 0) (b := 16000000000) (n := T.length) (fun k hk => ⟨hw0 k hk, hm.hi k hk⟩)).2
  have e0 := nW_zero h w
  have h1 := hm.one
  have hpos : 0 < nW T w 0 := by omega
  have hbig : nW T w 0 ≤ 256000000000 := by omega
  have hv : ∀ j, j < T.length → nW T w 0 ≤ nW T w j ∧ nW T w j ≤ 16000 * nW T w 0 := fun j hj => by have := nW_bd h hw0 hj; omega
  have hf : ∀ j, j < T.length → _ := fun j hj => flo_facts hpos (hv j hj).1 (hv j hj).2
  refine ⟨?_, ⟨?_, fun j hj => (hf j hj).1, fun j hj => (hf j hj).2.1⟩, fun j hj => ?_, hpos⟩
  · unfold p_spec_l04Integers_L2
    rw [next_exact h.cube (W := 16000000000) (by decide) (by decide) (fun k hk => ⟨hw0 k hk, hm.hi k hk⟩)]
    have ei : idx (vecG (nW T w) T.length) (0 : Int) = some (nW T w 0) := vecG_idx (i := 0) h.n0
    simp only [Option.bind_some, ei, vecG_len]
    generalize hv0 : nW T w 0 = v0 at *
    have s1 := forN_det (R := Unit) (N := T.length) (body := fun k s => p_spec_l04Integers_L3 v0 k s) (fun q => vecG (fun j => if j < q then flo v0 (nW T w j) else nW T w j) T.length) (fun q hq => by
      obtain ⟨f1, f2, f3, f4⟩ := hf q hq
      obtain ⟨g1, g2⟩ := hv q hq
      have hne : v0 ≠ 0 := by omega
      have hr1 := Int.emod_nonneg (nW T w q) hne
      have hr2 := Int.emod_lt_of_pos (nW T w q) hpos
      have hq1 : 0 ≤ nW T w q / v0 := Int.ediv_nonneg (by omega) (by omega)
      have hq2 : nW T w q / v0 < 16001 := by rw [Int.ediv_lt_iff_lt_mul hpos]; omega
      have t1 : quoI .i64 (nW T w q) v0 = some (nW T w q / v0) := by
        unfold quoI
        rw [if_pos hne, Int.tdiv_eq_ediv_of_nonneg (by omega)]
        exact congrArg some (w64_small (by omega) (by omega))
      have t2 : remI (nW T w q) v0 = some (nW T w q % v0) := by
        unfold remI
        rw [if_pos hne, Int.tmod_eq_emod_of_nonneg (by omega)]
      have e3 : w64 (nW T w q % v0 * 1000000) = nW T w q % v0 * 1000000 := w64_small (by omega) (by omega)
      have hx1 : 0 ≤ nW T w q % v0 * 1000000 / v0 := Int.ediv_nonneg (by omega) (by omega)
      have hx2 : nW T w q % v0 * 1000000 / v0 < 1000000 := by rw [Int.ediv_lt_iff_lt_mul hpos]; omega
      have t3 : quoI .i64 (nW T w q % v0 * 1000000) v0 = some (nW T w q % v0 * 1000000 / v0) := by
        unfold quoI
        rw [if_pos hne, Int.tdiv_eq_ediv_of_nonneg (by omega)]
        exact congrArg some (w64_small (by omega) (by omega))
      have e4 : w64 (nW T w q / v0 * 1000000) = nW T w q / v0 * 1000000 := w64_small (by omega) (by omega)
      have e5 : w64 (nW T w q / v0 * 1000000 + nW T w q % v0 * 1000000 / v0) = flo v0 (nW T w q) := by
        rw [w64_small (by omega) (by omega)]
        exact quot_split (by omega) hpos
      have ei : idx (vecG (fun j => if j < q then flo v0 (nW T w j) else nW T w j) T.length) (q : Int) = some (nW T w q) := by rw [vecG_idx hq, if_neg (by omega)]
      simp only [p_spec_l04Integers_L3, ei, t1, t2, e3, t3, e4, e5, Option.bind_some, Int.toNat_natCast, vecG_set hq, vecG_idx hq]
      have e6 : up1 (fun j => if j < q then flo v0 (nW T w j) else nW T w j) q (flo v0 (nW T w q)) q = flo v0 (nW T w q) := by simp [up1]
      have c1 : ¬ (100000000000 < flo v0 (nW T w q)) := by omega
      have c2 : flo v0 (nW T w q) > 1 := by omega
      rw [e6]
      simp only [if_neg c1, if_pos c2]
      congr 2
      refine vecG_congr fun j hj => ?_
      simp only [up1]
      by_cases e : j = q
      · subst e
        rw [if_pos rfl, if_pos (by omega)]
      · rw [if_neg e, if_neg e]
        have : j < q + 1 ↔ j < q := by omega
        simp only [this])
    have e7 : vecG (fun j => if j < 0 then flo v0 (nW T w j) else nW T w j) T.length = vecG (nW T w) T.length := vecG_congr fun j hj => by simp
    rw [e7] at s1
    rw [s1]
    simp only [Option.bind_some, onRes]
    congr 2
    exact vecG_congr fun j hj => by rw [if_pos hj]
  · show flo (nW T w 0) (nW T w 0) = 1000000
    unfold flo
    exact Int.mul_ediv_cancel_left _ (by omega)
  · obtain ⟨f1, f2, f3, f4⟩ := hf j hj
    show 1000000 * (flo (nW T w 0) (nW T w j) * nW T w 0) ≤ (1000000 + 1) * (nW T w j * 1000000) ∧ 1000000 * (nW T w j * 1000000) ≤ (1000000 + 1) * (flo (nW T w 0) (nW T w j) * nW T w 0)
    generalize flo (nW T w 0) (nW T w j) = f at *
    generalize nW T w 0 = v0 at *
    generalize nW T w j = x at *
    have a1 : 1000000 * v0 ≤ f * v0 := Int.mul_le_mul_of_nonneg_right f1 (by omega)
    rw [Int.add_mul] at f4
    generalize f * v0 = y at *
    omega
/-- After 400 steps the weights are within a hundred-thousandth of the dimensions. -/
theorem mil_all (h : RingOK T) : ∃ w, forN (R := Unit) (fun k s => p_spec_l04Integers_L2 T k s) 400 0 (vecG (fun _ => 1000000) T.length) = some (.fin (vecG w T.length)) ∧ Mil T w ∧ ∀ d, DimZ T d → Nr T.length d w 1000008100 1000000000 := by
  obtain ⟨s, e, w, rfl, hm, hd⟩ := forN_inv (R := Unit) (body := fun k s => p_spec_l04Integers_L2 T k s) (N := 400) (s := vecG (fun _ => (1000000 : Int)) T.length) (fun q s => ∃ w, s = vecG w T.length ∧ Mil T w ∧ ∀ d, DimZ T d → Nr T.length d w ((itA 1000000 1000000000 q 16000000000000 : Nat) : Int) ((1000000000 : Nat) : Int))
    ⟨fun _ => 1000000, rfl, ⟨rfl, fun _ _ => Int.le_refl _, fun _ _ => by decide⟩, fun d hd => hd.start (c := 1000000) (by decide) (fun _ _ => rfl) 1000000000⟩
    (fun q s hq ⟨w, hs, hm, hN⟩ => by
      subst hs
      obtain ⟨g1, g2, g3, g4⟩ := mil_step h hm q
      refine ⟨_, g1, _, rfl, g2, fun d hd => ?_⟩
      rw [itA_succ]
      exact hd.next (H := 1000000) (by decide) (by decide) (itA_ge (by decide) (by decide)) (fun k hk => by have := hm.lo k hk; omega) (fun k hk => by have := g2.lo k hk; omega) (hN d hd) g3 g4 (by decide))
  refine ⟨w, e, hm, fun d hd0 => ?_⟩
  refine (hd d hd0).weaken (by decide) (by decide) (fun i hi => by have := hd0.pos i hi; omega) (fun i hi => by have := hm.lo i hi; omega) ?_
  have := it400
  have h2 : ((itA 1000000 1000000000 400 16000000000000 : Nat) : Int) ≤ 1000008100 := Int.ofNat_le.2 this
  omega
end
end Go.VG
