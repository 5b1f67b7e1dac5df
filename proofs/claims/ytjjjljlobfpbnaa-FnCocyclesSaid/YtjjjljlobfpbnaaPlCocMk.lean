/- Cocycles that are made: coboundaries, sums; the model's beside the code's. No condition. -/
import Derived.Test.YtjjjljlobfpbnaaPlCocEq
set_option linter.all false
namespace Go.VG
theorem own1_eq (l : List Int) (h : l.length ≤ 1048576) : p_spec_l01Own l = some l := by
  unfold p_spec_l01Own
  simp [appL]; omega
theorem own2_eq (l : List (List Int)) (h : l.length ≤ 1048576) (hx : ∀ x ∈ l, x.length ≤ 1048576) : p_spec_l01Own2 l = some l := by
  unfold p_spec_l01Own2
  rw [forN_app (R := Unit) (fun i => l.getD i []) (fun j hj => by
    simp only [p_spec_l01Own2_L1, idx_getD l [] hj, Option.bind_some, own1_eq _ (hx _ (getD_mem hj)), appL_range (fun i => l.getD i []) (by omega : j ≤ 1048576)])]
  show some _ = some l
  rw [map_range_getD]
theorem own3_eq (l : List (List (List Int))) (h : l.length ≤ 1048576) (hx : ∀ x ∈ l, x.length ≤ 1048576 ∧ ∀ y ∈ x, y.length ≤ 1048576) : p_spec_l03Own l = some l := by
  unfold p_spec_l03Own
  rw [forN_app (R := Unit) (fun i => l.getD i []) (fun j hj => by
    simp only [p_spec_l03Own_L1, idx_getD l [] hj, Option.bind_some, own2_eq _ (hx _ (getD_mem hj)).1 (hx _ (getD_mem hj)).2, appL_range (fun i => l.getD i []) (by omega : j ≤ 1048576)])]
  show some _ = some l
  rw [map_range_getD]
section
variable {o : List Int} {m : Int} {c : List (List Int)} {n : Nat} {V W : List (List (List Int))}
def PairOK (n : Nat) (m : Int) (c : List (List Int)) : Prop := GridOK n m c
theorem PairOK.i1 (h : PairOK n m c) {i : Nat} (hi : i < n) : idx c (i : Int) = some (c.getD i []) := idx_getD _ _ (by rw [h.1]; exact hi)
theorem PairOK.i2 (h : PairOK n m c) {i j : Nat} (hi : i < n) (hj : j < n) : idx (c.getD i []) (j : Int) = some (at2 c i j) := idx_getD _ _ (by rw [(h.2 i hi).1]; exact hj)
theorem specEmpty0 {n : Nat} (h : n ≤ 1048576) : p_spec_l06Empty (n : Int) = some (cubeG (fun _ _ _ => (0 : Int)) n n n) := by
  unfold p_spec_l06Empty
  rw [Int.toNat_natCast, forN_app (R := Unit) (fun _ => grid (fun _ _ => (0 : Int)) n n) (fun j hj => by
    simp only [p_spec_l06Empty_L1]
    rw [Int.toNat_natCast, zeros_eq h (by omega) (body := fun k s => p_spec_l06Empty_L2 (n : Int) k s) (fun _ _ => rfl)]
    simp only [Option.bind_some, onRes]
    rw [appL_range (fun _ => grid (fun _ _ => (0 : Int)) n n) (by omega : j ≤ 1048576)]
    rfl)]
  rfl
def cobN (o : List Int) (c : List (List Int)) (i j k : Nat) : Int := at2 c j k - at2 c (gadd o (i : Int) (j : Int)).toNat k + at2 c i (gadd o (j : Int) (k : Int)).toNat - at2 c i j
theorem cob_rng (h : CocOK o m V) (hl : V.length = n) (hp : PairOK n m c) {i j k : Nat} (hi : i < n) (hj : j < n) (hk : k < n) :
    ∃ a b : Nat, gadd o (i : Int) (j : Int) = (a : Int) ∧ a < n ∧ gadd o (j : Int) (k : Int) = (b : Int) ∧ b < n ∧ cobN o c i j k = at2 c j k - at2 c a k + at2 c i b - at2 c i j ∧ -(2 * m) ≤ cobN o c i j k ∧ (0 ≤ at2 c j k ∧ at2 c j k ≤ 999) ∧ (0 ≤ at2 c a k ∧ at2 c a k ≤ 999) ∧ (0 ≤ at2 c i b ∧ at2 c i b ≤ 999) ∧ (0 ≤ at2 c i j ∧ at2 c i j ≤ 999) := by
  have hm := h.mod
  obtain ⟨a, a1, a2⟩ := h.add (x := i) (y := j) (by omega) (by omega)
  obtain ⟨b, b1, b2⟩ := h.add (x := j) (y := k) (by omega) (by omega)
  have r1 := (hp.2 j hj).2 k hk
  have r2 := (hp.2 a (by omega)).2 k hk
  have r3 := (hp.2 i hi).2 b (by omega)
  have r4 := (hp.2 i hi).2 j hj
  have e : cobN o c i j k = at2 c j k - at2 c a k + at2 c i b - at2 c i j := by simp only [cobN, a1, b1, Int.toNat_natCast]
  refine ⟨a, b, a1, by omega, b1, by omega, e, ?_, ?_, ?_, ?_, ?_⟩ <;> omega
theorem specCob (h : CocOK o m V) (hl : V.length = n) (hp : PairOK n m c) (ho : (o.length : Int) ≤ 1048576) : p_spec_l17Coboundary o m c = some (o, m, cubeG (fun i j k => cobN o c i j k % m) n n n) := by
  have hm := h.mod
  have hs : n ≤ 8 := by have := h.small; omega
  have hcl : c.length = n := hp.1
  unfold p_spec_l17Coboundary
  rw [own1_eq o (by omega), hcl, specEmpty0 (by omega)]
  simp only [Option.bind_some]
  rw [fill3 (L2 := fun i j s => p_spec_l17Coboundary_L2 c o i m j s) (L3 := fun i j k s => p_spec_l17Coboundary_L3 c j o i m k s) _ (fun i j k => cobN o c i j k % m) (fun i hi j hj k hk g hg => by
    obtain ⟨a, b, a1, a2, b1, b2, e, e2, r1, r2, r3, r4⟩ := cob_rng h hl hp hi hj hk
    simp only [p_spec_l17Coboundary_L3, hp.i1 hj, hp.i2 hj hk, specAdd h.pos ho, a1, b1, hp.i1 a2, hp.i2 a2 hk, hp.i1 hi, hp.i2 hi b2, hp.i2 hi hj, cubeG_idx hi, grid_idx hj, rowG_idx hk, Option.bind_some, Int.toNat_natCast]
    rw [w64_small (x := at2 c j k - at2 c a k) (by omega) (by omega), w64_small (x := at2 c j k - at2 c a k + at2 c i b) (by omega) (by omega), w64_small (x := at2 c j k - at2 c a k + at2 c i b - at2 c i j) (by omega) (by omega), w64_small (x := 2 * m) (by omega) (by omega), ← e, w64_small (x := cobN o c i j k + 2 * m) (by omega) (by omega)]
    have hne : m ≠ 0 := by omega
    simp only [remI, ne_eq, hne, not_false_eq_true, if_true, Option.bind_some]
    rw [Int.tmod_eq_emod_of_nonneg (by omega), Int.add_mul_emod_self_right, cubeG_set hi hj hk]) (fun i hi j hj g => by simp only [p_spec_l17Coboundary_L2, hcl]) (fun i hi g => by simp only [p_spec_l17Coboundary_L1, hcl])]
  rfl
def addC (V W : List (List (List Int))) (m : Int) (i j k : Nat) : Int := (c3 V i j k + c3 W i j k) % m
theorem specSum (h : CocOK o m V) (h' : CocOK o m W) (hn : W.length = V.length) (ho : (o.length : Int) ≤ 1048576) : p_spec_l17Sum o m V o m W = some (o, m, cubeG (addC V W m) V.length V.length V.length) := by
  have hs := h.small
  have hm := h.mod
  unfold p_spec_l17Sum
  rw [own1_eq o (by omega), own3_eq V (by omega) (fun x hx => by
    obtain ⟨i, hi, rfl⟩ := mem_getD [] hx
    refine ⟨by rw [(h.rows i hi).1]; omega, fun y hy => ?_⟩
    obtain ⟨j, hj, rfl⟩ := mem_getD [] hy
    rw [(h.rows i hi).1] at hj
    rw [((h.rows i hi).2 j hj).1]; omega)]
  simp only [Option.bind_some]
  have e0 := h.asCube
  conv => lhs; rw [show (fun s : List (List (List Int)) × Int => p_spec_l17Sum_L1 V W m s.1 s.2) = (fun s => p_spec_l17Sum_L1 V W m s.1 s.2) from rfl]
  have big := whileC_det (R := Unit) (step := fun s => p_spec_l17Sum_L1 V W m s.1 s.2) V.length (fun q => (cubeG (fun i j k => if i < q then addC V W m i j k else c3 V i j k) V.length V.length V.length, (q : Int))) (s' := (cubeG (addC V W m) V.length V.length V.length, (V.length : Int))) (fun i hi => by
    have hc : decide ((i : Int) < ((cubeG (fun a b c => if a < i then addC V W m a b c else c3 V a b c) V.length V.length V.length).length : Int)) = true := by rw [cubeG_len]; exact decide_eq_true (by omega)
    have ewi : w64 ((i : Int) + 1) = ((i + 1 : Nat) : Int) := by rw [w64_small (by omega) (by omega)]; omega
    simp only [p_spec_l17Sum_L1, hc, if_true, ewi]
    have mid := whileC_det (R := Unit) (step := fun s => p_spec_l17Sum_L2 (i : Int) V W m s.1 s.2) V.length (fun q => (cubeG (fun a b c => if a < i ∨ (a = i ∧ b < q) then addC V W m a b c else c3 V a b c) V.length V.length V.length, (q : Int))) (s' := (cubeG (fun a b c => if a < i + 1 then addC V W m a b c else c3 V a b c) V.length V.length V.length, (V.length : Int))) (fun j hj => by
      have hc2 : decide ((j : Int) < ((cubeG (fun a b c => if a < i ∨ (a = i ∧ b < j) then addC V W m a b c else c3 V a b c) V.length V.length V.length).length : Int)) = true := by rw [cubeG_len]; exact decide_eq_true (by omega)
      have ewj : w64 ((j : Int) + 1) = ((j + 1 : Nat) : Int) := by rw [w64_small (by omega) (by omega)]; omega
      simp only [p_spec_l17Sum_L2, hc2, if_true, ewj]
      rw [cubeG_len]
      rw [fill3row hi hj _ (fun k => addC V W m i j k) (fun k hk g hg => by
        have r1 := h.rng hi hj hk
        have r2 := h'.rng (i := i) (j := j) (k := k) (by omega) (by omega) (by omega)
        simp only [p_spec_l17Sum_L3, cubeG_idx hi, grid_idx hj, h.i1 hi, h.i2 hi hj, h.i3 hi hj hk, h'.i1 (i := i) (by omega), h'.i2 (i := i) (j := j) (by omega) (by omega), h'.i3 (i := i) (j := j) (k := k) (by omega) (by omega) (by omega), rowG_idx hk, Option.bind_some, Int.toNat_natCast]
        rw [w64_small (x := c3 V i j k + c3 W i j k) (by omega) (by omega)]
        have hne : m ≠ 0 := by omega
        simp only [remI, ne_eq, hne, not_false_eq_true, if_true, Option.bind_some]
        rw [Int.tmod_eq_emod_of_nonneg (by omega), cubeG_set hi hj hk]
        rfl)]
      simp only [Option.bind_some, onRes]
      congr 3
      refine cubeG_congr fun a ha b hb c hcc => ?_
      by_cases hab : a = i ∧ b = j
      · obtain ⟨rfl, rfl⟩ := hab; simp
      · have : (a < i ∨ (a = i ∧ b < j + 1)) ↔ (a < i ∨ (a = i ∧ b < j)) := by omega
        simp only [hab, if_false, this]) (by
      have hc2 : decide ((V.length : Int) < ((cubeG (fun a b c => if a < i ∨ (a = i ∧ b < V.length) then addC V W m a b c else c3 V a b c) V.length V.length V.length).length : Int)) = false := by rw [cubeG_len]; simp
      simp only [p_spec_l17Sum_L2, hc2, Bool.false_eq_true, if_false]
      congr 3
      refine cubeG_congr fun a ha b hb c hcc => ?_
      have : (a < i ∨ (a = i ∧ b < V.length)) ↔ a < i + 1 := by omega
      simp only [this])
    simp only [Nat.not_lt_zero, and_false, or_false] at mid
    rw [show ((0 : Nat) : Int) = 0 from rfl] at mid
    rw [mid]
    rfl) (by
    have hc : decide ((V.length : Int) < ((cubeG (fun a b c => if a < V.length then addC V W m a b c else c3 V a b c) V.length V.length V.length).length : Int)) = false := by rw [cubeG_len]; simp
    simp only [p_spec_l17Sum_L1, hc, Bool.false_eq_true, if_false]
    congr 3
    exact cubeG_congr fun a ha b hb c hcc => by simp [ha])
  simp only [Nat.not_lt_zero, if_false] at big
  rw [show ((0 : Nat) : Int) = 0 from rfl] at big
  rw [← e0] at big
  rw [big]
  rfl
theorem implSum (h : CocOK o m V) (h' : CocOK o m W) (hn : W.length = V.length) (ho : (o.length : Int) ≤ 1048576) : p_impl_addCocycles o m V o m W = some (o, m, cubeG (addC V W m) V.length V.length V.length) := by
  unfold p_impl_addCocycles
  rw [cocycleBy_eq h ho (F := fun i j k => c3 V i j k + c3 W i j k) (fun i j k hi hj hk => by
    have r1 := h.rng hi hj hk
    have r2 := h'.rng (i := i) (j := j) (k := k) (by omega) (by omega) (by omega)
    simp only [p_impl_addCocycles_c1, h.i1 hi, h.i2 hi hj, h.i3 hi hj hk, h'.i1 (i := i) (by omega), h'.i2 (i := i) (j := j) (by omega) (by omega), h'.i3 (i := i) (j := j) (k := k) (by omega) (by omega) (by omega), Option.bind_some]
    rw [w64_small (by omega) (by omega)]
    exact ⟨rfl, by omega, by omega⟩)]
  rfl
end
end Go.VG
