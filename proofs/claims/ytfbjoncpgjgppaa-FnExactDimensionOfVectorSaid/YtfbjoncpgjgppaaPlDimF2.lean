/- The code's way to whole dimensions: 3000 steps in doubles. Plain. -/
import Derived.Test.YtfbjoncpgjgppaaPlDimF
set_option linter.all false
namespace Go.VG
open Ieee
attribute [local irreducible] uU uUS
theorem hi_r {r m s u : Nat} (hm : 0 < m) (h1 : 1125899906842624 * (r * m) ≤ (1125899906842624 + 1) * (s * u)) (hs : s ≤ m) : r ≤ 2 * u := by
  have a : s * u ≤ m * u := Nat.mul_le_mul_right _ hs
  have b : r * m ≤ 2 * u * m := by
    have : 2 * u * m = 2 * (m * u) := by rw [Nat.mul_assoc, Nat.mul_comm u]
    omega
  exact Nat.le_of_mul_le_mul_right b hm
theorem lo_r {r m s u : Nat} (hm : 0 < m) (h2 : 1125899906842624 * (s * u) ≤ (1125899906842624 + 1) * (r * m)) (hs : m ≤ 64000 * s) : u ≤ 1048576 * r := by
  have a : m * u ≤ 64000 * (s * u) := by
    have := Nat.mul_le_mul_right u hs
    rwa [Nat.mul_assoc] at this
  have b : u * m ≤ 1048576 * r * m := by
    have e1 : u * m = m * u := Nat.mul_comm ..
    have e2 : 1048576 * r * m = 1048576 * (r * m) := Nat.mul_assoc ..
    omega
  exact Nat.le_of_mul_le_mul_right b hm
theorem first_r {rk r0 m sk s0 vk v0 u : Nat} (hm : 0 < m) (h1 : 1125899906842624 * (rk * m) ≤ (1125899906842624 + 1) * (sk * u)) (h2 : 1125899906842624 * (s0 * u) ≤ (1125899906842624 + 1) * (r0 * m))
    (c1 : 1125899906842624 * sk ≤ 1125899906842624 * vk + 258 * vk) (c2 : 1125899906842624 * v0 ≤ 1125899906842624 * s0 + 258 * s0) (hv : vk ≤ 16000 * v0) : rk ≤ 16001 * r0 := by
  have d1 := Nat.mul_le_mul_right u c1
  have d2 := Nat.mul_le_mul_right u c2
  have d3 := Nat.mul_le_mul_right u hv
  simp only [Nat.add_mul, Nat.mul_assoc] at d1 d2 d3
  have b : rk * m ≤ 16001 * r0 * m := by
    rw [Nat.mul_assoc]
    generalize rk * m = A at *
    generalize r0 * m = G at *
    generalize sk * u = B at *
    generalize s0 * u = F at *
    generalize vk * u = C at *
    generalize v0 * u = D at *
    omega
  exact Nat.le_of_mul_le_mul_right b hm
theorem rnd_r {r m s v u : Nat} (h1 : 1125899906842624 * (r * m) ≤ (1125899906842624 + 1) * (s * u)) (h2 : 1125899906842624 * (s * u) ≤ (1125899906842624 + 1) * (r * m))
    (c1 : 1125899906842624 * s ≤ 1125899906842624 * v + 258 * v) (c2 : 1125899906842624 * v ≤ 1125899906842624 * s + 258 * s) :
    2199023255552 * (r * m) ≤ 2199023255553 * (v * u) ∧ 2199023255552 * (v * u) ≤ 2199023255553 * (r * m) := by
  have d1 := Nat.mul_le_mul_right u c1
  have d2 := Nat.mul_le_mul_right u c2
  simp only [Nat.add_mul, Nat.mul_assoc] at d1 d2
  generalize r * m = A at *
  generalize s * u = B at *
  generalize v * u = C at *
  omega
section
variable {T : List (List (List Int))}
theorem wf_step (h : RingOK T) {b : Nat → Nat} (hb : Wf T b) (k : Nat) : ∃ b', p_impl_Ring_nearDimensions_L1 T k (bL b T.length) = some (.next (bL b' T.length)) ∧ Wf T b' ∧ ∃ X Y : Int, Rnd T.length (nW T (fW b)) (fW b') X Y 2199023255552 ∧ 0 < X ∧ 0 ≤ Y := by
  have hn := h.cube.1
  have hU := uU_pos
  obtain ⟨s, e1, hs⟩ := sums_ap h.cube hb
  have hw0 : ∀ k, k < T.length → 0 ≤ fW b k := fun k hk => (fW_bd hb k hk).1
  have hf0 : fW b 0 ≤ sumN (fW b) T.length := sumN_at_le hw0 0 h.n0
  have hb0 := hb.lo 0 h.n0
  have hv : ∀ j, j < T.length → sumN (fW b) T.length ≤ nW T (fW b) j ∧ nW T (fW b) j ≤ 16000 * sumN (fW b) T.length := fun j hj => nW_bd h hw0 hj
  have hz := nW_zero h (fW b)
  have hS : 0 < sumN (fW b) T.length := by unfold fW at hf0 ⊢; omega
  generalize hSS : sumN (fW b) T.length = S at *
  -- each sum lives, and none is far from another
  have hl2 : ∀ j, j < T.length → fv (s j) ≤ 2 * (nW T (fW b) j).toNat ∧ (nW T (fW b) j).toNat ≤ 2 * fv (s j) := fun j hj => (hs j hj).cl.le2 (by decide)
  have hspos : ∀ j, j < T.length → 0 < fv (s j) := fun j hj => by have := hl2 j hj; have := hv j hj; omega
  have hs0 : ∀ j, j < T.length → 0 < s j := fun j hj => by
    apply Nat.pos_of_ne_zero
    intro h0
    have := hspos j hj
    rw [h0, fv_zero] at this; omega
  obtain ⟨m, e2, m1, m2, m3⟩ := most_of h.cube (fun j hj => (hs j hj).fin)
  have hm0 : 0 < fv m := Nat.lt_of_lt_of_le (hspos 0 h.n0) (m2 0 h.n0)
  have hmw : ∀ k, k < T.length → fv m ≤ 64000 * fv (s k) := fun k hk => by
    rcases m3 with h0 | ⟨q, hq, rfl⟩
    · omega
    · have a := hl2 q hq; have c := hl2 k hk; have d := hv q hq; have f := hv k hk
      omega
  have hmpos : 0 < m := by
    apply Nat.pos_of_ne_zero
    intro h0
    rw [h0, fv_zero] at hm0; omega
  have hex : ∀ k, ∃ r, k < T.length → double.div (s k) m = some r ∧ Fin0 r ∧ Close 1125899906842624 (fv r * fv m) (fv (s k) * uU) := fun k => by
    by_cases hk : k < T.length
    · have a := hmw k hk; have c := m2 k hk
      obtain ⟨r, g1, g2, g3, g4⟩ := divU (hs k hk).fin m1 (hs0 k hk) hmpos (by omega) (by omega)
      exact ⟨r, fun _ => ⟨g1, g2, g4⟩⟩
    · exact ⟨0, fun h => absurd h hk⟩
  obtain ⟨r, hr⟩ := Classical.axiomOfChoice hex
  have hrnd : ∀ j, j < T.length → 2199023255552 * (fv (r j) * fv m) ≤ 2199023255553 * ((nW T (fW b) j).toNat * uU) ∧ 2199023255552 * ((nW T (fW b) j).toNat * uU) ≤ 2199023255553 * (fv (r j) * fv m) := fun j hj => by
    obtain ⟨_, _, g⟩ := hr j hj
    exact rnd_r g.1 g.2 (hs j hj).cl.1 (hs j hj).cl.2
  refine ⟨r, ?_, ⟨fun j hj => (hr j hj).2.1, fun j hj => lo_r hm0 (hr j hj).2.2.2 (hmw j hj), fun j hj => hi_r hm0 (hr j hj).2.2.1 (m2 j hj), fun j hj => ?_⟩, (fv m : Int), (uU : Int), fun j hj => ?_, by omega, by omega⟩
  · unfold p_impl_Ring_nearDimensions_L1
    rw [mkL_some' 0 (by omega)]
    simp only [Option.bind_some]
    have e1' : forN (R := Unit) (fun k x => p_impl_Ring_nearDimensions_L2 T (bL b T.length) k x) T.length 0 (List.replicate T.length 0) = _ := e1
    rw [e1']
    have el : (bL s T.length).length = T.length := vecG_len
    simp only [Option.bind_some, onRes, el, e2]
    have s3 := forN_det (R := Unit) (N := T.length) (body := fun k x => p_impl_Ring_nearDimensions_L6 (m : Int) k x) (fun q => bL (fun j => if j < q then r j else s j) T.length) (fun q hq => by
      have ei : idx (bL (fun j => if j < q then r j else s j) T.length) (q : Int) = some ((s q : Nat) : Int) := by rw [bL_idx hq, if_neg (by omega)]
      simp only [p_impl_Ring_nearDimensions_L6, ei, Option.bind_some, fQuoN (hr q hq).1, Int.toNat_natCast]
      congr 2
      unfold bL
      rw [vecG_set hq]
      refine vecG_congr fun j hj => ?_
      simp only [up1]
      by_cases e : j = q
      · subst e
        rw [if_pos rfl, if_pos (by omega)]
      · rw [if_neg e]
        have : j < q + 1 ↔ j < q := by omega
        simp only [this])
    have e0 : bL (fun j => if j < 0 then r j else s j) T.length = bL s T.length := vecG_congr fun j hj => by simp
    rw [e0] at s3
    rw [s3]
    simp only [Option.bind_some]
    congr 2
    exact vecG_congr fun j hj => by simp only [if_pos hj]
  · have a := hv j hj
    exact first_r hm0 (hr j hj).2.2.1 (hr 0 h.n0).2.2.2 (hs j hj).cl.1 (hs 0 h.n0).cl.2 (by omega)
  · obtain ⟨g1, g2⟩ := hrnd j hj
    have a := hv j hj
    have q1 : fW r j * (fv m : Int) = ((fv (r j) * fv m : Nat) : Int) := (Int.natCast_mul _ _).symm
    have q2 : nW T (fW b) j * (uU : Int) = (((nW T (fW b) j).toNat * uU : Nat) : Int) := by
      rw [Int.natCast_mul, Int.toNat_of_nonneg (by omega)]
    rw [q1, q2]
    generalize fv (r j) * fv m = A at *
    generalize (nW T (fW b) j).toNat * uU = B at *
    omega
set_option maxRecDepth 40000 in
theorem it3000 : itA 2199023255552 1000000000000000000 3000 16000000000000000000000 ≤ 1000000000004000000 := by decide +kernel
/-- After 3000 steps the weights are within a few parts in 10^12 of the dimensions. -/
theorem wf_all (h : RingOK T) {b0 : Nat → Nat} (h0 : Wf T b0) {c : Nat} (hc : ∀ k, k < T.length → fv (b0 k) = c) : ∃ b, forN (R := Unit) (fun k s => p_impl_Ring_nearDimensions_L1 T k s) 3000 0 (bL b0 T.length) = some (.fin (bL b T.length)) ∧ Wf T b ∧ ∀ d, DimZ T d → Nr T.length d (fW b) 1000000000004000000 1000000000000000000 := by
  obtain ⟨s, e, b, rfl, hb, hd⟩ := forN_inv (R := Unit) (body := fun k s => p_impl_Ring_nearDimensions_L1 T k s) (N := 3000) (s := bL b0 T.length) (fun q s => ∃ b, s = bL b T.length ∧ Wf T b ∧ ∀ d, DimZ T d → Nr T.length d (fW b) ((itA 2199023255552 1000000000000000000 q 16000000000000000000000 : Nat) : Int) ((1000000000000000000 : Nat) : Int))
    ⟨b0, rfl, h0, fun d hd => hd.start (c := (c : Int)) (by omega) (fun k hk => by unfold fW; rw [hc k hk]) 1000000000000000000⟩
    (fun q s hq ⟨b, hs, hb, hN⟩ => by
      subst hs
      obtain ⟨b', g1, g2, X, Y, g3, g4, g5⟩ := wf_step h hb q
      refine ⟨_, g1, b', rfl, g2, fun d hd => ?_⟩
      rw [itA_succ]
      exact hd.next (H := 2199023255552) (by decide) (by decide) (itA_ge (by decide) (by decide)) (fun k hk => (fW_bd hb k hk).1) (fun k hk => (fW_bd g2 k hk).1) (hN d hd) g3 g4 g5)
  refine ⟨b, e, hb, fun d hd0 => ?_⟩
  refine (hd d hd0).weaken (by decide) (by decide) (fun i hi => by have := hd0.pos i hi; omega) (fun i hi => (fW_bd hb i hi).1) ?_
  have h2 : ((itA 2199023255552 1000000000000000000 3000 16000000000000000000000 : Nat) : Int) ≤ 1000000000004000000 := Int.ofNat_le.2 it3000
  omega
end
end Go.VG
