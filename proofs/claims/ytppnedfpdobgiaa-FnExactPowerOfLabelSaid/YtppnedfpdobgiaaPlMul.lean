/- Products of vectors: the model's and the code's twins give the exact sums, where nothing overflows. -/
import Derived.Test.YtppnedfpdobgiaaPlVec
set_option linter.all false
namespace Go.VG

theorem whileC_det {S R : Type} {step : S → Option (Ctl S R)} (g : Nat → S) (N : Nat) (r : S) (h : ∀ k, k < N → step (g k) = some (.next (g (k + 1)))) (hend : step (g N) = some (.brk r)) : whileC step (g 0) = some (.fin r) := by
  have key : ∀ c k, k + c = N → iterW step (c + 1) (g k) = some (.fin r) := by
    intro c
    induction c with
    | zero => intro k hk; have : k = N := by omega
              subst this; simp [iterW, hend]
    | succ c ih =>
      intro k hk
      rw [show iterW step (c + 1 + 1) (g k) = match step (g k) with | none => none | some (.next s') => iterW step (c + 1) s' | some (.brk s') => some (.fin s') | some (.ret r) => some (.ret r) from rfl]
      rw [h k (by omega)]
      exact ih (k + 1) (by omega)
  exact whileC_of (key N 0 (by omega))

theorem getD_map_range {v : Nat → Int} {n k : Nat} (h : k < n) : ((List.range n).map v).getD k 0 = v k := by
  simp [List.getD, List.getElem?_range h]
theorem forN_upd {R : Type} {n : Nat} {body : Nat → List Int → Option (Ctl (List Int) R)} (v : Nat → Int) (f : Nat → Int → Int) (hb : ∀ k l, k < n → l.length = n → l.getD k 0 = v k → body k l = some (.next (l.set k (f k (v k))))) :
    forN body n 0 ((List.range n).map v) = some (.fin ((List.range n).map (fun k => f k (v k)))) := by
  have := forN_det (body := body) (N := n) (fun j => (List.range n).map (fun k => if k < j then f k (v k) else v k)) (fun j hj => by
    rw [hb j _ hj (by simp) (by rw [getD_map_range hj]; simp)]
    congr 2
    apply List.ext_getElem
    · simp
    · intro i h1 h2
      simp only [List.getElem_set, List.getElem_map, List.getElem_range]
      split
      · rename_i e; subst e; simp
      · rename_i e
        by_cases hij : i < j
        · simp [hij]; intro hc; omega
        · have : ¬ i < j + 1 := by omega
          simp [hij, this])
  simp only [Nat.not_lt_zero, if_false] at this
  rw [this]
  congr 2
  apply List.map_congr_left
  intro k hk
  simp at hk
  simp [hk]

section
variable (T : List (List (List Int))) (x y : List Int)
def tm (i j k : Nat) : Int := x.getD i 0 * y.getD j 0 * at3 T i j k
def rowS (i k j : Nat) : Int := sumN (fun j' => tm T x y i j' k) j
def prodS (k i : Nat) : Int := sumN (fun i' => rowS T x y i' k T.length) i
def mulV : List Int := (List.range T.length).map (fun k => prodS T x y k T.length)
/-- The state before round j of round i. -/
def mulAt (i j : Nat) : List Int := (List.range T.length).map (fun k => prodS T x y k i + rowS T x y i k j)
end

section
variable {T : List (List (List Int))} {x y : List Int} {X Y : Int}
/-- Vectors of the ring's length, within bounds. -/
structure VB (n : Nat) (x : List Int) (X : Int) : Prop where
  len : x.length = n
  rng : ∀ i, i < n → 0 ≤ x.getD i 0 ∧ x.getD i 0 ≤ X

theorem mulAt_zero (T : List (List (List Int))) (x y : List Int) (i : Nat) : mulAt T x y i 0 = (List.range T.length).map (fun k => prodS T x y k i) := by
  unfold mulAt
  apply List.map_congr_left
  intro k _
  simp [rowS, sumN]
theorem mulAt_end (T : List (List (List Int))) (x y : List Int) (i : Nat) : mulAt T x y i T.length = mulAt T x y (i + 1) 0 := by
  rw [mulAt_zero]; rfl
theorem mulAt_start (T : List (List (List Int))) (x y : List Int) : mulAt T x y 0 0 = List.replicate T.length 0 := by
  rw [mulAt_zero]
  apply List.ext_getElem
  · simp
  · intro i h1 h2; simp [prodS, sumN]
theorem mulAt_last (T : List (List (List Int))) (x y : List Int) : mulAt T x y T.length 0 = mulV T x y := mulAt_zero ..

theorem tm_bd (h : Cube T) (hx : VB T.length x X) (hy : VB T.length y Y) {i j k : Nat} (hi : i < T.length) (hj : j < T.length) (hk : k < T.length) : 0 ≤ tm T x y i j k ∧ tm T x y i j k ≤ X * Y * 1000 ∧ 0 ≤ x.getD i 0 * y.getD j 0 ∧ x.getD i 0 * y.getD j 0 ≤ X * Y := by
  obtain ⟨a1, a2⟩ := hx.rng i hi
  obtain ⟨b1, b2⟩ := hy.rng j hj
  obtain ⟨c1, c2⟩ := h.rng hi hj hk
  have h1 : 0 ≤ x.getD i 0 * y.getD j 0 := Int.mul_nonneg a1 b1
  have h2 : x.getD i 0 * y.getD j 0 ≤ X * Y := Int.mul_le_mul a2 b2 b1 (by omega)
  exact ⟨Int.mul_nonneg h1 c1, Int.mul_le_mul h2 c2 c1 (by omega), h1, h2⟩
theorem row_bd (h : Cube T) (hx : VB T.length x X) (hy : VB T.length y Y) {i k : Nat} (hi : i < T.length) (hk : k < T.length) : ∀ {j : Nat}, j ≤ T.length → 0 ≤ rowS T x y i k j ∧ rowS T x y i k j ≤ j * (X * Y * 1000) := by
  intro j hj
  have := sumN_bd (f := fun j' => tm T x y i j' k) (a := 0) (b := X * Y * 1000) (n := j) (fun j' hj' => by
    have := tm_bd h hx hy hi (by omega : j' < T.length) hk; exact ⟨this.1, this.2.1⟩)
  simp only [Int.mul_zero] at this
  exact this
theorem prod_bd (h : Cube T) (hx : VB T.length x X) (hy : VB T.length y Y) {k : Nat} (hk : k < T.length) : ∀ {i : Nat}, i ≤ T.length → 0 ≤ prodS T x y k i ∧ prodS T x y k i ≤ i * (16 * (X * Y * 1000)) := by
  intro i hi
  have hn := h.1
  have := sumN_bd (f := fun i' => rowS T x y i' k T.length) (a := 0) (b := 16 * (X * Y * 1000)) (n := i) (fun i' hi' => by
    have hb := row_bd h hx hy (by omega : i' < T.length) hk (Nat.le_refl _)
    have h0 := (tm_bd h hx hy (by omega : i' < T.length) (by omega : 0 < T.length) hk)
    have hM : 0 ≤ X * Y * 1000 := by omega
    have : (T.length : Int) * (X * Y * 1000) ≤ 16 * (X * Y * 1000) := Int.mul_le_mul_of_nonneg_right (by omega) hM
    exact ⟨hb.1, by omega⟩)
  simp only [Int.mul_zero] at this
  exact this

theorem step_bd (h : Cube T) (hx : VB T.length x X) (hy : VB T.length y Y) (hB : 256 * (X * Y * 1000) ≤ 9000000000000000000) {i j k : Nat} (hi : i < T.length) (hj : j < T.length) (hk : k < T.length) :
    w64 (prodS T x y k i + rowS T x y i k j + w64 (w64 (x.getD i 0 * y.getD j 0) * at3 T i j k)) = prodS T x y k i + rowS T x y i k (j + 1) := by
  have hn := h.1
  obtain ⟨t1, t2, t3, t4⟩ := tm_bd h hx hy hi hj hk
  have hM : 0 ≤ X * Y * 1000 := by omega
  have hXY : 0 ≤ X * Y := by omega
  have p := prod_bd h hx hy hk (by omega : i ≤ T.length)
  have r := row_bd h hx hy hi hk (by omega : j ≤ T.length)
  have e1 : (i : Int) * (16 * (X * Y * 1000)) ≤ 15 * (16 * (X * Y * 1000)) := Int.mul_le_mul_of_nonneg_right (by omega) (by omega)
  have e2 : (j : Int) * (X * Y * 1000) ≤ 15 * (X * Y * 1000) := Int.mul_le_mul_of_nonneg_right (by omega) hM
  rw [w64_small (x := x.getD i 0 * y.getD j 0) (by omega) (by omega)]
  have et : x.getD i 0 * y.getD j 0 * at3 T i j k = tm T x y i j k := rfl
  rw [et, w64_small (x := tm T x y i j k) (by omega) (by omega)]
  have er : rowS T x y i k (j + 1) = rowS T x y i k j + tm T x y i j k := rfl
  rw [er, w64_small (by omega) (by omega)]
  omega

theorem mulAt_next (h : Cube T) (hx : VB T.length x X) (hy : VB T.length y Y) (hB : 256 * (X * Y * 1000) ≤ 9000000000000000000) {i j : Nat} (hi : i < T.length) (hj : j < T.length) :
    (List.range T.length).map (fun k => w64 (prodS T x y k i + rowS T x y i k j + w64 (w64 (x.getD i 0 * y.getD j 0) * at3 T i j k))) = mulAt T x y i (j + 1) := by
  unfold mulAt
  apply List.map_congr_left
  intro k hk
  exact step_bd h hx hy hB hi hj (by simpa using hk)
theorem mulAt_skip {i j : Nat} (h0 : x.getD i 0 * y.getD j 0 = 0) : mulAt T x y i (j + 1) = mulAt T x y i j := by
  unfold mulAt
  apply List.map_congr_left
  intro k _
  have er : rowS T x y i k (j + 1) = rowS T x y i k j + tm T x y i j k := rfl
  rw [er]; unfold tm; rw [h0]; omega

theorem implMul (h : Cube T) (hx : VB T.length x X) (hy : VB T.length y Y) (hB : 256 * (X * Y * 1000) ≤ 9000000000000000000) : p_impl_Ring_product T x y = some (mulV T x y) := by
  have hn := h.1
  unfold p_impl_Ring_product
  rw [mkL_some' _ (by omega)]
  simp only [Option.bind_some]
  rw [hx.len, ← mulAt_start T x y]
  have e := forN_det (R := Unit) (body := fun k s => p_impl_Ring_product_L1 x y T k s) (N := T.length) (fun i => mulAt T x y i 0) (fun i hi => by
    simp only [p_impl_Ring_product_L1, idx_getD x 0 (by rw [hx.len]; exact hi), Option.bind_some]
    rw [hy.len]
    have e2 := forN_det (R := Unit) (body := fun k s => p_impl_Ring_product_L2 y (x.getD i 0) T i k s) (N := T.length) (fun j => mulAt T x y i j) (fun j hj => by
      simp only [p_impl_Ring_product_L2, idx_getD y 0 (by rw [hy.len]; exact hj), Option.bind_some]
      obtain ⟨_, _, t3, t4⟩ := tm_bd h hx hy hi hj (by omega : 0 < T.length)
      have hw : w64 (x.getD i 0 * y.getD j 0) = x.getD i 0 * y.getD j 0 := w64_small (by omega) (by omega)
      rw [hw]
      by_cases h0 : x.getD i 0 * y.getD j 0 = 0
      · simp only [h0, beq_self_eq_true, if_true]
        rw [mulAt_skip h0]
      · have : (x.getD i 0 * y.getD j 0 == 0) = false := by simpa using h0
        simp only [this, Bool.false_eq_true, if_false, h.i1 hi, h.i2 hi hj, Option.bind_some]
        rw [h.row hi hj]
        have e3 := forN_upd (R := Unit) (n := T.length) (body := fun k s => p_impl_Ring_product_L3 ((T.getD i []).getD j []) (x.getD i 0) (y.getD j 0) k s) (fun k => prodS T x y k i + rowS T x y i k j) (fun k v => w64 (v + w64 (w64 (x.getD i 0 * y.getD j 0) * at3 T i j k))) (fun k l hk hl hv => by
          simp only [p_impl_Ring_product_L3, h.i3 hi hj hk, idx_getD l 0 (by omega : k < l.length), Option.bind_some, hv, Int.toNat_natCast])
        rw [mulAt_next h hx hy hB hi hj] at e3
        rw [show mulAt T x y i j = (List.range T.length).map (fun k => prodS T x y k i + rowS T x y i k j) from rfl, e3]
        rfl)
    rw [e2]
    simp only [Option.bind_some, onRes]
    rw [mulAt_end])
  rw [e, mulAt_last]
  rfl

theorem specMul (h : Cube T) (hx : VB T.length x X) (hy : VB T.length y Y) (hB : 256 * (X * Y * 1000) ≤ 9000000000000000000) : p_spec_l03Times T x y = some (mulV T x y) := by
  have hn := h.1
  unfold p_spec_l03Times
  rw [mkL_some' _ (by rw [hx.len]; omega)]
  simp only [Option.bind_some]
  rw [hx.len, ← mulAt_start T x y]
  have e := forN_det (R := Unit) (body := fun k s => p_spec_l03Times_L1 y x T k s) (N := T.length) (fun i => mulAt T x y i 0) (fun i hi => by
    simp only [p_spec_l03Times_L1]
    have e2 : ∃ r : List Int × Int, whileC (R := Unit) (fun s => p_spec_l03Times_L2 y x i T s.1 s.2) (mulAt T x y i 0, (0 : Int)) = some (.fin r) ∧ r.1 = mulAt T x y (i + 1) 0 := by
      by_cases hx0 : x.getD i 0 = 0
      · refine ⟨_, whileC_det (g := fun _ => (mulAt T x y i 0, (0 : Int))) 0 (mulAt T x y i 0, 0) (fun k hk => by omega) ?_, ?_⟩
        · simp only [p_spec_l03Times_L2, idx_getD x 0 (by rw [hx.len]; exact hi), hx0, Option.bind_some]
          split <;> simp
        · rw [← mulAt_end]
          have : ∀ j, mulAt T x y i j = mulAt T x y i 0 := by
            intro j
            induction j with
            | zero => rfl
            | succ j ih => rw [mulAt_skip (by rw [hx0]; simp), ih]
          exact (this T.length).symm
      · refine ⟨_, whileC_det (g := fun j => (mulAt T x y i j, (j : Int))) T.length (mulAt T x y i T.length, (T.length : Int)) (fun j hj => ?_) ?_, by rw [mulAt_end]⟩
        · have e1 : decide ((j : Int) < (y.length : Int)) = true := by rw [hy.len]; simp; exact hj
          have e0 : (x.getD i 0 != 0) = true := by simpa using hx0
          simp only [p_spec_l03Times_L2, e1, if_true, idx_getD x 0 (by rw [hx.len]; exact hi), Option.bind_some, e0]
          rw [show (mulAt T x y i j).length = T.length from by simp [mulAt]]
          have e3 := forN_upd (R := Unit) (n := T.length) (body := fun k s => p_spec_l03Times_L3 x i y (j : Int) T k s) (fun k => prodS T x y k i + rowS T x y i k j) (fun k v => w64 (v + w64 (w64 (x.getD i 0 * y.getD j 0) * at3 T i j k))) (fun k l hk hl hv => by
            simp only [p_spec_l03Times_L3, idx_getD l 0 (by omega : k < l.length), idx_getD x 0 (by rw [hx.len]; exact hi), idx_getD y 0 (by rw [hy.len]; exact hj), h.i1 hi, h.i2 hi hj, h.i3 hi hj hk, Option.bind_some, hv, Int.toNat_natCast])
          rw [mulAt_next h hx hy hB hi hj] at e3
          rw [show mulAt T x y i j = (List.range T.length).map (fun k => prodS T x y k i + rowS T x y i k j) from rfl, e3]
          simp only [Option.bind_some, onRes]
          rw [w64_small (by omega) (by omega)]
          rfl
        · have e1 : ¬ T.length < y.length := by rw [hy.len]; omega
          simp [p_spec_l03Times_L2, e1]
    obtain ⟨r, e3, e4⟩ := e2
    rw [e3]
    simp only [Option.bind_some, onRes, e4])
  rw [e, mulAt_last]
  rfl
theorem mulV_len (T : List (List (List Int))) (x y : List Int) : (mulV T x y).length = T.length := by simp [mulV]
end
end Go.VG
