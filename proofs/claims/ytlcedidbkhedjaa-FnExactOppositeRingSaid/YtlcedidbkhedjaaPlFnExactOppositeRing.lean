/- The plain law of FnExactOppositeRing: the code's answer is the model's. No condition but the readings'. -/
import Derived.Test.YtlcedidbkhedjaaPlOpp0
import Derived.Test.YtlcedidbkhedjaaPlFill
import Derived.Test.YtlcedidbkhedjaaPlHeld3
set_option linter.all false
namespace Go.VG
theorem own1_eq (l : List Int) (h : l.length ≤ 1048576) : p_spec_l01Own l = some l := by
  unfold p_spec_l01Own
  simp [appL]; omega
theorem own2_eq (l : List (List Int)) (h : l.length ≤ 1048576) (hx : ∀ x ∈ l, x.length ≤ 1048576) : p_spec_l01Own2 l = some l := by
  unfold p_spec_l01Own2
  rw [forN_app (R := Unit) (fun i => l.getD i []) (fun j hj => by
    simp only [p_spec_l01Own2_L1, idx_getD l [] hj, Option.bind_some, own1_eq _ (hx _ (getD_mem hj)), appL_range (fun i => l.getD i []) (by omega : j ≤ 1048576)])]
  show some _ = some l
  rw [map_range_getD]
theorem own3_eq (l : List (List (List Int))) (h : l.length ≤ 1048576) (hx : ∀ x ∈ l, x.length ≤ 1048576 ∧ ∀ y ∈ x, y.length ≤ 1048576) : p_spec_l03Own l = some l := by
  unfold p_spec_l03Own
  rw [forN_app (R := Unit) (fun i => l.getD i []) (fun j hj => by
    simp only [p_spec_l03Own_L1, idx_getD l [] hj, Option.bind_some, own2_eq _ (hx _ (getD_mem hj)).1 (hx _ (getD_mem hj)).2, appL_range (fun i => l.getD i []) (by omega : j ≤ 1048576)])]
  show some _ = some l
  rw [map_range_getD]
theorem cpyL_all {l xs : List Int} (h : xs.length = l.length) : cpyL l 0 xs = xs := by
  have : Nat.min l.length l.length = l.length := Nat.min_self _
  simp only [cpyL, h, Int.toNat_zero, List.take_zero, List.nil_append, Nat.sub_zero, Nat.zero_add, this, List.drop_length, List.append_nil]
  rw [← h, List.take_length]
section
variable {T : List (List (List Int))}
theorem Cube.bounds (h : Cube T) : T.length ≤ 1048576 ∧ ∀ x ∈ T, x.length ≤ 1048576 ∧ ∀ y ∈ x, y.length ≤ 1048576 := by
  have hn := h.1
  refine ⟨by omega, fun x hx => ?_⟩
  obtain ⟨i, hi, rfl⟩ := mem_getD [] hx
  refine ⟨by rw [h.mat hi]; omega, fun y hy => ?_⟩
  obtain ⟨j, hj, rfl⟩ := mem_getD [] hy
  rw [h.mat hi] at hj
  rw [h.row hi hj]; omega
theorem Cube.asGrid (h : Cube T) : T = grid (fun i j => rowOf T i j) T.length T.length := by
  have e : (List.range T.length).map (fun i => T.getD i []) = T := map_range_getD T []
  conv => lhs; rw [← e]
  refine List.map_congr_left fun i hi => ?_
  have hi' : i < T.length := by simpa using hi
  have e2 : (List.range (T.getD i []).length).map (fun j => (T.getD i []).getD j []) = T.getD i [] := map_range_getD _ []
  rw [h.mat hi'] at e2
  exact e2.symm
theorem specOpp (h : Cube T) : (p_spec_l03Own T).bind (fun x24 => (whileC (R := Unit) (fun s => p_spec_OppositeRing_L1 T s.1 s.2) (x24, (0 : Int))).bind fun res31 => onRes res31 (fun r320 => none) fun (s312p : (List (List (List Int))) × Int) => some (s312p.1, (0 : Int))) = some (oppT T, 0) := by
  have hn := h.1
  rw [own3_eq T h.bounds.1 h.bounds.2]
  simp only [Option.bind_some]
  have e := whileC_det (R := Unit) (step := fun s => p_spec_OppositeRing_L1 T s.1 s.2) T.length (fun k => (grid (fun i j => if i < k then rowOf T j i else rowOf T i j) T.length T.length, (k : Int))) (s' := (oppT T, (T.length : Int))) (fun i hi => by
    have hc : decide ((i : Int) < ((grid (fun a b => if a < i then rowOf T b a else rowOf T a b) T.length T.length).length : Int)) = true := by rw [grid_len]; simp; omega
    simp only [p_spec_OppositeRing_L1, hc, if_true]
    rw [grid_len, fillrow hi _ (fun j => rowOf T j i) (fun j hj g hg => by
      have hgl : (g i j).length = (rowOf T j i).length := by rw [hg]; simp; rw [show (rowOf T i j).length = T.length from h.row hi hj, show (rowOf T j i).length = T.length from h.row hj hi]
      simp only [p_spec_OppositeRing_L2, grid_idx hi, rowG_idx hj, h.i1 hj, h.i2 hj hi, Option.bind_some, Int.toNat_natCast]
      rw [show (T.getD j []).getD i [] = rowOf T j i from rfl, cpyL_all hgl.symm, grid_set hi hj])]
    simp only [Option.bind_some, onRes]
    rw [w64_small (by omega) (by omega)]
    congr 3
    refine grid_congr fun a ha b hb => ?_
    by_cases hai : a = i
    · subst hai; simp
    · have : a < i + 1 ↔ a < i := by omega
      simp only [hai, if_false, this]) (by
    have hc : decide ((T.length : Int) < ((grid (fun a b => if a < T.length then rowOf T b a else rowOf T a b) T.length T.length).length : Int)) = false := by rw [grid_len]; simp
    simp only [p_spec_OppositeRing_L1, hc, Bool.false_eq_true, if_false]
    congr 3
    exact grid_congr (g := fun a b => rowOf T b a) fun a ha b hb => by simp [ha])
  have e0 : (grid (fun i j => if i < 0 then rowOf T j i else rowOf T i j) T.length T.length) = T := by
    simp only [Nat.not_lt_zero, if_false]; exact h.asGrid.symm
  simp only [e0] at e
  rw [show (((0 : Nat) : Int)) = 0 from rfl] at e
  rw [e]; rfl
end
theorem oppR_eq (T : List (List (List Int))) : ∃ r, p_spec_OppositeRing T = some r ∧ p_impl_OppositeRing T = some r ∧ r.1.length ≤ 1048576 ∧ ∀ x ∈ r.1, x.length ≤ 1048576 ∧ ∀ y ∈ x, y.length ≤ 1048576 := by
  unfold p_spec_OppositeRing p_impl_OppositeRing
  obtain ⟨b, e1, hb⟩ := specIs (T := T)
  have e2 : p_impl_IsRing T = some b := by rw [← e1]; exact implIs.eq specIs
  rw [e1, e2]
  simp only [Option.bind_some]
  cases b
  · exact ⟨([], 1), rfl, rfl, by simp, by simp⟩
  · have hr := hb.1 rfl
    have hn := hr.cube.1
    simp only [Bool.not_true, Bool.false_eq_true, if_false, opposite_eq hr.cube, Option.bind_some]
    refine ⟨_, specOpp hr.cube, rfl, by simp [oppT]; omega, fun x hx => ?_⟩
    obtain ⟨i, hi, rfl⟩ := List.mem_map.1 hx
    refine ⟨by simp [oppR]; omega, fun y hy => ?_⟩
    obtain ⟨j, hj, rfl⟩ := List.mem_map.1 hy
    rw [show (rowOf T j i).length = T.length from hr.cube.row (by simpa using hj) (by simpa using hi)]; omega
theorem plain_FnExactOppositeRing (aR_Table : (List (List (List Int)))) (h0 : Good3 .i64 aR_Table) : p_laws_FnExactOppositeRing aR_Table = some true := by
  unfold p_laws_FnExactOppositeRing
  obtain ⟨r, e, hr, hs⟩ := szRing_spec aR_Table 1048576 (by decide) (by decide) h0
  rw [e]
  simp only [Option.bind_some]
  by_cases hr0 : r < 0
  · simp [hr0]
  · simp only [hr0, decide_false, Bool.false_eq_true, if_false]
    obtain ⟨x, e1, e2, e3, e3'⟩ := oppR_eq aR_Table
    obtain ⟨m, q, e4, e5, e6⟩ := markRing_ok aR_Table 1 hs (by omega) (by decide) (by decide)
    obtain ⟨y, l, e7, e8, e9, e10⟩ := markSSS_held x.1 1 (by decide) e3 e3' (by decide)
    have e11 : p_laws_markRing x.1 1 = some (y, l) := by unfold p_laws_markRing; rw [e7]; rfl
    have hy : ¬ y < 0 := by omega
    have e12 : p_laws_heldRing l 1 = some y := by unfold p_laws_heldRing; rw [e10]; simp [hy]
    have hq : ¬ q < 0 := by omega
    simp only [toRing_eq aR_Table hs (by omega), Option.bind_some, e1, e2, eqRing_self, e4, e11, e12]
    simp [hq, hy]
end Go.VG
