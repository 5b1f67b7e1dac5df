/- Coboundaries of pairings, and all numbers of a cochain in a row: the model's beside the code's. No condition. -/
import Derived.Test.YtmofhdohclbidaaPlCocBy
import Derived.Test.YtmofhdohclbidaaPlCube
import Derived.Test.YtmofhdohclbidaaPlRankM
set_option linter.all false
namespace Go.VG
section
variable {o : List Int} {m : Int} {c : List (List Int)} {n : Nat} {V : List (List (List Int))}
def PairOK (n : Nat) (m : Int) (c : List (List Int)) : Prop := GridOK n m c ∧ ∀ i, i < n → at2 c 0 i = 0 ∧ at2 c i 0 = 0
theorem PairOK.i1 (h : PairOK n m c) {i : Nat} (hi : i < n) : idx c (i : Int) = some (c.getD i []) := idx_getD _ _ (by rw [h.1.1]; exact hi)
theorem PairOK.i2 (h : PairOK n m c) {i j : Nat} (hi : i < n) (hj : j < n) : idx (c.getD i []) (j : Int) = some (at2 c i j) := idx_getD _ _ (by rw [(h.1.2 i hi).1]; exact hj)
theorem specEmpty0 {n : Nat} (h : n ≤ 1048576) : p_spec_l06Empty (n : Int) = some (cubeG (fun _ _ _ => (0 : Int)) n n n) := by
  unfold p_spec_l06Empty
  rw [Int.toNat_natCast, forN_app (R := Unit) (fun _ => grid (fun _ _ => (0 : Int)) n n) (fun j hj => by
    simp only [p_spec_l06Empty_L1]
    rw [Int.toNat_natCast, zeros_eq h (by omega) (body := fun k s => p_spec_l06Empty_L2 (n : Int) k s) (fun _ _ => rfl)]
    simp only [Option.bind_some, onRes]
    rw [appL_range (fun _ => grid (fun _ _ => (0 : Int)) n n) (by omega : j ≤ 1048576)]
    rfl)]
  rfl
def cobN (o : List Int) (c : List (List Int)) (i j k : Nat) : Int := at2 c j k - at2 c (gadd o (i : Int) (j : Int)).toNat k + at2 c i (gadd o (j : Int) (k : Int)).toNat - at2 c i j
theorem cob_rng (h : CocOK o m V) (hl : V.length = n) (hp : PairOK n m c) {i j k : Nat} (hi : i < n) (hj : j < n) (hk : k < n) :
    ∃ a b : Nat, gadd o (i : Int) (j : Int) = (a : Int) ∧ a < n ∧ gadd o (j : Int) (k : Int) = (b : Int) ∧ b < n ∧ cobN o c i j k = at2 c j k - at2 c a k + at2 c i b - at2 c i j ∧ -(2 * m) ≤ cobN o c i j k ∧ (0 ≤ at2 c j k ∧ at2 c j k ≤ 999) ∧ (0 ≤ at2 c a k ∧ at2 c a k ≤ 999) ∧ (0 ≤ at2 c i b ∧ at2 c i b ≤ 999) ∧ (0 ≤ at2 c i j ∧ at2 c i j ≤ 999) := by
  have hm := h.mod
  obtain ⟨a, a1, a2⟩ := h.add (x := i) (y := j) (by omega) (by omega)
  obtain ⟨b, b1, b2⟩ := h.add (x := j) (y := k) (by omega) (by omega)
  have r1 := (hp.1.2 j hj).2 k hk
  have r2 := (hp.1.2 a (by omega)).2 k hk
  have r3 := (hp.1.2 i hi).2 b (by omega)
  have r4 := (hp.1.2 i hi).2 j hj
  have e : cobN o c i j k = at2 c j k - at2 c a k + at2 c i b - at2 c i j := by simp only [cobN, a1, b1, Int.toNat_natCast]
  refine ⟨a, b, a1, by omega, b1, by omega, e, ?_, ?_, ?_, ?_, ?_⟩ <;> omega
theorem specCob (h : CocOK o m V) (hl : V.length = n) (hp : PairOK n m c) (ho : (o.length : Int) ≤ 1048576) : p_spec_l17Coboundary o m c = some (o, m, cubeG (fun i j k => cobN o c i j k % m) n n n) := by
  have hm := h.mod
  have hs : n ≤ 8 := by have := h.small; omega
  have hcl : c.length = n := hp.1.1
  unfold p_spec_l17Coboundary
  rw [own_ok (by omega), hcl, specEmpty0 (by omega)]
  simp only [Option.bind_some]
  rw [fill3 (L2 := fun i j s => p_spec_l17Coboundary_L2 c o i m j s) (L3 := fun i j k s => p_spec_l17Coboundary_L3 c j o i m k s) _ (fun i j k => cobN o c i j k % m) (fun i hi j hj k hk g hg => by
    obtain ⟨a, b, a1, a2, b1, b2, e, e2, r1, r2, r3, r4⟩ := cob_rng h hl hp hi hj hk
    simp only [p_spec_l17Coboundary_L3, hp.i1 hj, hp.i2 hj hk, specAdd h.pos ho, a1, b1, hp.i1 a2, hp.i2 a2 hk, hp.i1 hi, hp.i2 hi b2, hp.i2 hi hj, cubeG_idx hi, grid_idx hj, rowG_idx hk, Option.bind_some, Int.toNat_natCast]
    rw [w64_small (x := at2 c j k - at2 c a k) (by omega) (by omega), w64_small (x := at2 c j k - at2 c a k + at2 c i b) (by omega) (by omega), w64_small (x := at2 c j k - at2 c a k + at2 c i b - at2 c i j) (by omega) (by omega), w64_small (x := 2 * m) (by omega) (by omega), ← e, w64_small (x := cobN o c i j k + 2 * m) (by omega) (by omega)]
    have hne : m ≠ 0 := by omega
    simp only [remI, ne_eq, hne, not_false_eq_true, if_true, Option.bind_some]
    rw [Int.tmod_eq_emod_of_nonneg (by omega), Int.add_mul_emod_self_right, cubeG_set hi hj hk]) (fun i hi j hj g => by simp only [p_spec_l17Coboundary_L2, hcl]) (fun i hi g => by simp only [p_spec_l17Coboundary_L1, hcl])]
  rfl
theorem implCob (h : CocOK o m V) (hl : V.length = n) (hp : PairOK n m c) (ho : (o.length : Int) ≤ 1048576) : p_impl_coboundary o m c = some (o, m, cubeG (fun i j k => cobN o c i j k % m) n n n) := by
  have hm := h.mod
  unfold p_impl_coboundary
  rw [cocycleBy_eq h ho (F := cobN o c) (fun i j k hi hj hk => by
    rw [hl] at hi hj hk
    obtain ⟨a, b, a1, a2, b1, b2, e, e2, r1, r2, r3, r4⟩ := cob_rng h hl hp hi hj hk
    simp only [p_impl_coboundary_c1, p_impl_Cocycle_plus, hp.i1 hj, hp.i2 hj hk, implAdd h.pos, a1, b1, hp.i1 a2, hp.i2 a2 hk, hp.i1 hi, hp.i2 hi b2, hp.i2 hi hj, Option.bind_some]
    rw [w64_small (x := at2 c j k - at2 c a k) (by omega) (by omega), w64_small (x := at2 c j k - at2 c a k + at2 c i b) (by omega) (by omega), w64_small (x := at2 c j k - at2 c a k + at2 c i b - at2 c i j) (by omega) (by omega), ← e]
    exact ⟨rfl, by omega, by omega⟩)]
  rw [hl]
  rfl
/-- The coboundary's cube is a cocycle's by its shape: what the code's next step asks of it. -/
theorem cob_ok (h : CocOK o m V) (hl : V.length = n) (F : Nat → Nat → Nat → Int) : CocOK o m (cubeG (fun i j k => F i j k % m) n n n) := by
  have hm := h.mod
  refine ⟨h.ne, h.pos, by rw [cubeG_len]; have := h.size; rw [hl] at this; exact this, by rw [cubeG_len]; have := h.small; rw [hl] at this; exact this, hm, fun i hi => ?_⟩
  rw [cubeG_len] at hi ⊢
  rw [cubeG_getD hi]
  refine ⟨grid_len, fun j hj => ?_⟩
  rw [grid_getD hj]
  refine ⟨rowG_len, fun k hk => ?_⟩
  have : at2 (grid (fun j k => F i j k % m) n n) j k = F i j k % m := by
    unfold at2
    rw [grid_getD hj, show rowG (fun j k => F i j k % m) n j = vecG (fun k => F i j k % m) n from rfl, vecG_getD hk]
  rw [this]
  have := Int.emod_nonneg (F i j k) (show m ≠ 0 by omega)
  have := Int.emod_lt_of_pos (F i j k) (show 0 < m by omega)
  omega

/-! ### All numbers in a row -/
def flatV (V : List (List (List Int))) : List Int := (V.map List.flatten).flatten
theorem flat_step {α : Type} (l : List (List α)) {j : Nat} (hj : j < l.length) : (l.take (j + 1)).flatten = (l.take j).flatten ++ l.getD j [] := by
  rw [List.take_succ_eq_append_getElem hj, List.flatten_append]
  simp [List.getElem?_eq_getElem hj]
theorem flat_take_len {α : Type} (l : List (List α)) (j : Nat) : (l.take j).flatten.length ≤ l.flatten.length := by
  have e := congrArg (fun l => List.length (List.flatten l)) (List.take_append_drop j l)
  simp only [List.flatten_append, List.length_append] at e
  omega
theorem flat_len {α : Type} {c : Nat} : ∀ {l : List (List α)}, (∀ x ∈ l, x.length = c) → l.flatten.length = l.length * c
  | [], _ => by simp
  | x :: l, h => by
    rw [List.flatten_cons, List.length_append, flat_len fun y hy => h y (by simp [hy]), h x (by simp), List.length_cons, Nat.succ_mul]
    omega
/-- A cube by its members. -/
def CubeM (n : Nat) (m : Int) (V : List (List (List Int))) : Prop := V.length = n ∧ ∀ A ∈ V, A.length = n ∧ ∀ B ∈ A, B.length = n ∧ ∀ x ∈ B, 0 ≤ x ∧ x < m
theorem CocOK.cube (h : CocOK o m V) (hl : V.length = n) : CubeM n m V := by
  refine ⟨hl, fun A hA => ?_⟩
  obtain ⟨i, hi, rfl⟩ := mem_getD [] hA
  obtain ⟨g1, g2⟩ := h.rows i hi
  refine ⟨by rw [g1]; exact hl, fun B hB => ?_⟩
  obtain ⟨j, hj, rfl⟩ := mem_getD [] hB
  obtain ⟨g3, g4⟩ := g2 j (by omega)
  refine ⟨by rw [g3]; exact hl, fun x hx => ?_⟩
  obtain ⟨k, hk, rfl⟩ := mem_getD 0 hx
  have := g4 k (by omega)
  unfold at2 at this
  omega
theorem CubeM.rowlen (h : CubeM n m V) : ∀ A ∈ V, A.flatten.length = n * n := fun A hA => by
  rw [flat_len (c := n) fun B hB => ((h.2 A hA).2 B hB).1, (h.2 A hA).1]
theorem CubeM.len (h : CubeM n m V) : (flatV V).length = n * (n * n) := by
  unfold flatV
  rw [flat_len (c := n * n) fun x hx => by
    obtain ⟨A, hA, rfl⟩ := List.mem_map.1 hx
    exact h.rowlen A hA, List.length_map, h.1]
theorem CubeM.row (h : CubeM n m V) : Row m (n * (n * n)) (flatV V) := ⟨h.len, fun i hi => by
  have hm := getD_mem (l := flatV V) (d := (0 : Int)) (i := i) (by rw [h.len]; exact hi)
  unfold flatV at hm ⊢
  obtain ⟨F, hF, hx⟩ := List.mem_flatten.1 hm
  obtain ⟨A, hA, rfl⟩ := List.mem_map.1 hF
  obtain ⟨B, hB, hx⟩ := List.mem_flatten.1 hx
  exact ((h.2 A hA).2 B hB).2 _ hx⟩
theorem cube8 (hn : n ≤ 8) : n * (n * n) ≤ 512 := by
  have := Nat.mul_le_mul hn (Nat.mul_le_mul hn hn)
  omega
theorem concat_eq {us : List (List Int)} (h1 : us.flatten.length ≤ 1048576) (h2 : us.length ≤ 1048576) : p_slices_Concat_Lint64_int64 us = some us.flatten := by
  unfold p_slices_Concat_Lint64_int64
  have e1 := forN_det (R := Unit) (N := us.length) (body := fun k s => p_slices_Concat_Lint64_int64_L1 us k s) (fun j => ((us.take j).flatten.length : Int)) (fun j hj => by
    have h3 := flat_take_len us (j + 1)
    have h4 := congrArg List.length (flat_step us hj)
    rw [List.length_append] at h4
    have hw : w64 (((us.take j).flatten.length : Int) + ((us.getD j []).length : Int)) = ((us.take (j + 1)).flatten.length : Int) := by
      rw [w64_small (by omega) (by omega)]; omega
    have hn : decide (((us.take (j + 1)).flatten.length : Int) < 0) = false := decide_eq_false (by omega)
    simp only [p_slices_Concat_Lint64_int64_L1, idx_getD us [] hj, Option.bind_some, hw, hn, Bool.false_eq_true, if_false])
  have e2 := forN_det (R := Unit) (N := us.length) (body := fun k s => p_slices_Concat_Lint64_int64_L2 us k s) (fun j => (us.take j).flatten) (fun j hj => by
    have h3 := flat_take_len us (j + 1)
    have h4 := congrArg List.length (flat_step us hj)
    rw [List.length_append] at h4
    simp only [p_slices_Concat_Lint64_int64_L2, idx_getD us [] hj, Option.bind_some]
    unfold appL
    rw [if_pos (by omega), flat_step us hj]
    rfl)
  have e1' : forN (R := Unit) (fun k s => p_slices_Concat_Lint64_int64_L1 us k s) us.length 0 (0 : Int) = _ := e1
  rw [e1']
  simp only [Option.bind_some, onRes, List.take_length]
  have hg : p_slices_Grow_Lint64_int64 ([] : List Int) (us.flatten.length : Int) = some [] := by
    unfold p_slices_Grow_Lint64_int64 growP
    rw [if_pos ⟨rfl, by omega, by omega⟩]
  rw [hg]
  simp only [Option.bind_some]
  have e2' : forN (R := Unit) (fun k s => p_slices_Concat_Lint64_int64_L2 us k s) us.length 0 ([] : List Int) = _ := e2
  rw [e2']
  simp only [Option.bind_some, onRes, List.take_length]
theorem implFlat (h : CubeM n m V) (hn : n ≤ 8) (o' : List Int) (m' : Int) : p_impl_Cocycle_flat o' m' V = some (flatV V) := by
  have h8 := cube8 hn
  have hlen := h.len
  unfold p_impl_Cocycle_flat
  have e := forN_det (R := Unit) (N := V.length) (body := fun k s => p_impl_Cocycle_flat_L1 V k s) (fun j => ((V.map List.flatten).take j).flatten) (fun j hj => by
    have hA := getD_mem (l := V) (d := []) hj
    have hrl := h.rowlen _ hA
    have hjl : j < (V.map List.flatten).length := by rw [List.length_map]; exact hj
    have e0 : (V.map List.flatten).getD j [] = (V.getD j []).flatten := by simp [List.getD, List.getElem?_eq_getElem hj]
    have h3 := flat_take_len (V.map List.flatten) (j + 1)
    have h4 := flat_step (V.map List.flatten) hjl
    have h5 := congrArg List.length h4
    rw [List.length_append] at h5
    unfold flatV at hlen
    rw [e0] at h4 h5
    simp only [p_impl_Cocycle_flat_L1, idx_getD V [] hj, Option.bind_some, concat_eq (us := V.getD j []) (by omega) (by rw [(h.2 _ hA).1]; omega)]
    unfold appL
    rw [if_pos (by omega), h4]
    rfl)
  have e' : forN (R := Unit) (fun k s => p_impl_Cocycle_flat_L1 V k s) V.length 0 ([] : List Int) = _ := e
  rw [e']
  simp only [Option.bind_some, onRes]
  rw [← List.length_map (f := List.flatten), List.take_length]
  rfl
theorem specFlat (h : CubeM n m V) (hn : n ≤ 8) (o' : List Int) (m' : Int) : p_spec_l17Flat o' m' V = some (flatV V) := by
  have h8 := cube8 hn
  have hlen := h.len
  unfold p_spec_l17Flat
  have e := forN_det (R := Unit) (N := V.length) (body := fun k s => p_spec_l17Flat_L1 V k s) (fun j => ((V.map List.flatten).take j).flatten) (fun j hj => by
    have hA := getD_mem (l := V) (d := []) hj
    have hrl := h.rowlen _ hA
    have hjl : j < (V.map List.flatten).length := by rw [List.length_map]; exact hj
    have e0 : (V.map List.flatten).getD j [] = (V.getD j []).flatten := by simp [List.getD, List.getElem?_eq_getElem hj]
    have h3 := flat_take_len (V.map List.flatten) (j + 1)
    have h4 := flat_step (V.map List.flatten) hjl
    have h5 := congrArg List.length h4
    rw [List.length_append] at h5
    unfold flatV at hlen
    rw [e0] at h4 h5
    have hVl : V.length = (V.getD j []).length := by rw [h.1, (h.2 _ hA).1]
    have e2 := forN_det (R := Unit) (N := V.length) (body := fun k s => p_spec_l17Flat_L2 V j k s) (fun i => ((V.map List.flatten).take j).flatten ++ ((V.getD j []).take i).flatten) (fun i hi => by
      have hi' : i < (V.getD j []).length := by omega
      have g3 := flat_take_len (V.getD j []) (i + 1)
      have g4 := flat_step (V.getD j []) hi'
      have g5 := congrArg List.length g4
      rw [List.length_append] at g5
      simp only [p_spec_l17Flat_L2, idx_getD V [] hj, idx_getD (V.getD j []) [] hi', Option.bind_some]
      unfold appL
      rw [if_pos (by rw [List.length_append]; omega), g4, List.append_assoc]
      rfl)
    simp only [List.take_zero, List.flatten_nil, List.append_nil] at e2
    simp only [p_spec_l17Flat_L1, e2, Option.bind_some, onRes]
    rw [hVl, List.take_length, h4])
  have e' : forN (R := Unit) (fun k s => p_spec_l17Flat_L1 V k s) V.length 0 ([] : List Int) = _ := e
  rw [e']
  simp only [Option.bind_some, onRes]
  rw [← List.length_map (f := List.flatten), List.take_length]
  rfl
end
end Go.VG
