/- The plain law of FnExactProductRing: the code's answer is the model's. No condition but the readings'. -/
import Derived.Test.YtlcedidbkhedjaaPlRing2
import Derived.Test.YtlcedidbkhedjaaPlCube
import Derived.Test.YtlcedidbkhedjaaPlHeld3
set_option linter.all false
namespace Go.VG
theorem specEmpty {n : Nat} (h : n ≤ 1048576) : p_spec_l06Empty (n : Int) = some (cubeG (fun _ _ _ => 0) n n n) := by
  unfold p_spec_l06Empty
  rw [Int.toNat_natCast, forN_app (R := Unit) (fun _ => grid (fun _ _ => (0 : Int)) n n) (fun j hj => by
    simp only [p_spec_l06Empty_L1]
    rw [Int.toNat_natCast, zeros_eq h (by omega) (body := fun k s => p_spec_l06Empty_L2 (n : Int) k s) (fun _ _ => rfl)]
    simp only [Option.bind_some, onRes]
    rw [appL_range (fun _ => grid (fun _ _ => (0 : Int)) n n) (by omega : j ≤ 1048576)]
    rfl)]
  rfl
theorem implEmpty {n : Nat} (h : n ≤ 1048576) : p_impl_emptyCube (n : Int) = some (cubeG (fun _ _ _ => 0) n n n) := by
  unfold p_impl_emptyCube
  rw [Int.toNat_natCast, forN_app (R := Unit) (fun _ => grid (fun _ _ => (0 : Int)) n n) (fun j hj => by
    simp only [p_impl_emptyCube_L1, p_impl_zeros]
    rw [Int.toNat_natCast, zeros_eq h (by omega) (body := fun k s => p_impl_zeros_L1 (n : Int) k s) (fun _ _ => rfl)]
    simp only [Option.bind_some, onRes]
    rw [appL_range (fun _ => grid (fun _ _ => (0 : Int)) n n) (by omega : j ≤ 1048576)]
    rfl)]
  rfl
section
variable {T S : List (List (List Int))}
def prE (T S : List (List (List Int))) (i j k : Nat) : Int := w64 (at3 T (i / S.length) (j / S.length) (k / S.length) * at3 S (i % S.length) (j % S.length) (k % S.length))
theorem div_lt' {i n m : Nat} (h : i < n * m) : i / m < n := Nat.div_lt_of_lt_mul (by rw [Nat.mul_comm]; exact h)
theorem specProduct (hT : Cube T) (hS : Cube S) (hn : T.length * S.length ≤ 16) : p_spec_l06Product T S = some (cubeG (prE T S) (T.length * S.length) (T.length * S.length) (T.length * S.length)) := by
  have h1 := hT.1; have h2 := hS.1
  have ew : w64 ((T.length : Int) * (S.length : Int)) = ((T.length * S.length : Nat) : Int) := by
    rw [← Int.natCast_mul]; exact w64_small (by omega) (by omega)
  unfold p_spec_l06Product
  rw [ew, specEmpty (by omega)]
  simp only [Option.bind_some, Int.toNat_natCast]
  rw [fill3 (L2 := fun i j s => p_spec_l06Product_L2 i S T j s) (L3 := fun i j k s => p_spec_l06Product_L3 i j S T k s) _ (prE T S) (fun i hi j hj k hk g hg => by
    have m1 : i % S.length < S.length := Nat.mod_lt _ (by omega)
    have m2 : j % S.length < S.length := Nat.mod_lt _ (by omega)
    have m3 : k % S.length < S.length := Nat.mod_lt _ (by omega)
    have d1 := div_lt' hi; have d2 := div_lt' hj; have d3 := div_lt' hk
    simp only [p_spec_l06Product_L3, cubeG_idx hi, grid_idx hj, quoN (by omega : 1 ≤ S.length) (by omega : i ≤ 1099511627776), quoN (by omega : 1 ≤ S.length) (by omega : j ≤ 1099511627776), quoN (by omega : 1 ≤ S.length) (by omega : k ≤ 1099511627776), remN (by omega : 1 ≤ S.length), hT.i1 d1, hT.i2 d1 d2, hT.i3 d1 d2 d3, hS.i1 m1, hS.i2 m1 m2, hS.i3 m1 m2 m3, rowG_idx hk, Option.bind_some, Int.toNat_natCast]
    rw [cubeG_set hi hj hk]; rfl) (fun i hi j hj g => by simp only [p_spec_l06Product_L2, ew, Int.toNat_natCast]) (fun i hi g => by simp only [p_spec_l06Product_L1, ew, Int.toNat_natCast])]
  rfl
theorem implProduct (hT : Cube T) (hS : Cube S) (hn : T.length * S.length ≤ 16) : p_impl_productRing T S = some (cubeG (prE T S) (T.length * S.length) (T.length * S.length) (T.length * S.length)) := by
  have h1 := hT.1; have h2 := hS.1
  have ew : w64 ((T.length : Int) * (S.length : Int)) = ((T.length * S.length : Nat) : Int) := by
    rw [← Int.natCast_mul]; exact w64_small (by omega) (by omega)
  unfold p_impl_productRing
  rw [ew, implEmpty (by omega)]
  simp only [Option.bind_some, cubeG_len]
  rw [fill3 (L2 := fun i j s => p_impl_productRing_L2 i S T j s) (L3 := fun i j k s => p_impl_productRing_L3 i j S T k s) _ (prE T S) (fun i hi j hj k hk g hg => by
    have m1 : i % S.length < S.length := Nat.mod_lt _ (by omega)
    have m2 : j % S.length < S.length := Nat.mod_lt _ (by omega)
    have m3 : k % S.length < S.length := Nat.mod_lt _ (by omega)
    have d1 := div_lt' hi; have d2 := div_lt' hj; have d3 := div_lt' hk
    simp only [p_impl_productRing_L3, cubeG_idx hi, grid_idx hj, quoN (by omega : 1 ≤ S.length) (by omega : i ≤ 1099511627776), quoN (by omega : 1 ≤ S.length) (by omega : j ≤ 1099511627776), quoN (by omega : 1 ≤ S.length) (by omega : k ≤ 1099511627776), remN (by omega : 1 ≤ S.length), hT.i1 d1, hT.i2 d1 d2, hT.i3 d1 d2 d3, hS.i1 m1, hS.i2 m1 m2, hS.i3 m1 m2 m3, rowG_idx hk, Option.bind_some, Int.toNat_natCast]
    rw [cubeG_set hi hj hk]; rfl) (fun i hi j hj g => by simp only [p_impl_productRing_L2, cubeG_len]) (fun i hi g => by simp only [p_impl_productRing_L1, cubeG_len])]
  rfl
end
theorem product_eq (T S : List (List (List Int))) : ∃ r, p_spec_ProductRing T S = some r ∧ p_impl_ProductRing T S = some r ∧ r.1.length ≤ 1048576 ∧ ∀ x ∈ r.1, x.length ≤ 1048576 ∧ ∀ y ∈ x, y.length ≤ 1048576 := by
  unfold p_spec_ProductRing p_impl_ProductRing
  obtain ⟨b, e1, hb⟩ := specIs (T := T)
  have e2 : p_impl_IsRing T = some b := by rw [← e1]; exact implIs.eq specIs
  obtain ⟨b', e1', hb'⟩ := specIs (T := S)
  have e2' : p_impl_IsRing S = some b' := by rw [← e1']; exact implIs.eq specIs
  rw [e1, e2, e1', e2']
  simp only [Option.bind_some]
  cases b
  · exact ⟨([], 1), rfl, rfl, by simp, by simp⟩
  · cases b'
    · exact ⟨([], 1), rfl, rfl, by simp, by simp⟩
    · have hT := (hb.1 rfl).cube
      have hS := (hb'.1 rfl).cube
      have h1 := hT.1; have h2 := hS.1
      have hmul : T.length * S.length ≤ 16 * 16 := Nat.mul_le_mul h1.2 h2.2
      have ew : w64 ((T.length : Int) * (S.length : Int)) = ((T.length * S.length : Nat) : Int) := by
        rw [← Int.natCast_mul]; exact w64_small (by omega) (by omega)
      simp only [Bool.not_true, Bool.false_eq_true, if_false, Option.bind_some, ew]
      by_cases hn : T.length * S.length ≤ 16
      · have e3 : decide (((T.length * S.length : Nat) : Int) > 16) = false := by simp only [decide_eq_false_iff_not]; omega
        simp only [e3, Bool.false_eq_true, if_false, specProduct hT hS hn, implProduct hT hS hn, Option.bind_some]
        obtain ⟨c, e4, hc⟩ := specCube (T := cubeG (prE T S) (T.length * S.length) (T.length * S.length) (T.length * S.length))
        have e5 : p_impl_isCube (cubeG (prE T S) (T.length * S.length) (T.length * S.length) (T.length * S.length)) = some c := by rw [← e4]; exact isCube_says.eq specCube
        rw [e4, e5]
        simp only [Option.bind_some]
        cases c
        · exact ⟨([], 3), rfl, rfl, by simp, by simp⟩
        · refine ⟨_, rfl, rfl, by rw [cubeG_len]; omega, fun x hx => ?_⟩
          obtain ⟨i, hi, rfl⟩ := List.mem_map.1 hx
          refine ⟨by rw [grid_len]; omega, fun y hy => ?_⟩
          obtain ⟨j, hj, rfl⟩ := List.mem_map.1 hy
          rw [rowG_len]; omega
      · have e3 : decide (((T.length * S.length : Nat) : Int) > 16) = true := by simp only [decide_eq_true_eq]; omega
        simp only [e3, if_true]
        exact ⟨([], 3), rfl, rfl, by simp, by simp⟩
theorem szRing_le {a : List (List (List Int))} {left r : Int} (h : Sz3 a left r) (hl : left ≤ 1048576) (hr : 0 ≤ r) : Sz3 a 1048576 r :=
  ⟨by have := h.1; omega, fun h0 => ⟨by have := (h.2 h0).1; omega, fun x hx => ⟨by have := ((h.2 h0).2 x hx).1; omega, fun y hy => by have := ((h.2 h0).2 x hx).2 y hy; omega⟩⟩⟩
theorem plain_FnExactProductRing (aR_Table : (List (List (List Int)))) (aS_Table : (List (List (List Int)))) (h0 : Good3 .i64 aR_Table) (h1 : Good3 .i64 aS_Table) : p_laws_FnExactProductRing aR_Table aS_Table = some true := by
  unfold p_laws_FnExactProductRing
  obtain ⟨r, e, hr, hs⟩ := szRing_spec aR_Table 1048576 (by decide) (by decide) h0
  rw [e]
  simp only [Option.bind_some]
  by_cases hr0 : r < 0
  · simp [hr0]
  · have hr1 := hs.1
    obtain ⟨r2, e2', hr2, hs2'⟩ := szRing_spec aS_Table r (by omega) (by omega) h1
    simp only [hr0, decide_false, Bool.false_eq_true, if_false, e2', Option.bind_some]
    by_cases hr20 : r2 < 0
    · simp [hr20]
    · simp only [hr20, decide_false, Bool.false_eq_true, if_false]
      have hs2 := szRing_le hs2' (by omega) (by omega)
      obtain ⟨x, e1, e2, e3, e3'⟩ := product_eq aR_Table aS_Table
      obtain ⟨m, q, e4, e5, e6⟩ := markRing_ok aR_Table 1 hs (by omega) (by decide) (by decide)
      obtain ⟨m2, q2, e4', e5', e6'⟩ := markRing_ok aS_Table q hs2 (by omega) (by omega) (by omega)
      obtain ⟨y, l, e7, e8, e9, e10⟩ := markSSS_held x.1 1 (by decide) e3 e3' (by decide)
      have e11 : p_laws_markRing x.1 1 = some (y, l) := by unfold p_laws_markRing; rw [e7]; rfl
      have hy : ¬ y < 0 := by omega
      have e12 : p_laws_heldRing l 1 = some y := by unfold p_laws_heldRing; rw [e10]; simp [hy]
      have hq : ¬ q2 < 0 := by omega
      simp only [toRing_eq aR_Table hs (by omega), toRing_eq aS_Table hs2 (by omega), Option.bind_some, e1, e2, eqRing_self, e4, e4', e11, e12]
      simp [hq, hy]
end Go.VG
