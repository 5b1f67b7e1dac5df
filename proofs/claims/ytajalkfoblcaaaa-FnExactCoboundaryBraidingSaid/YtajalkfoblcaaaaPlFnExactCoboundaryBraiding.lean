/- The plain law of FnExactCoboundaryBraiding. No condition but the readings'. -/
import Derived.Test.YtajalkfoblcaaaaPlZeroE
import Derived.Test.YtajalkfoblcaaaaPlSizes
import Derived.Test.YtajalkfoblcaaaaPlOwn1
import Derived.Test.YtajalkfoblcaaaaPlBraidHeld
set_option linter.all false
namespace Go.VG
section
variable {o : List Int} {m : Int} {c : List (List Int)} {n : Nat}
def cobN (o : List Int) (c : List (List Int)) (i j k : Nat) : Int := at2 c j k - at2 c (gadd o (i : Int) (j : Int)).toNat k + at2 c i (gadd o (j : Int) (k : Int)).toNat - at2 c i j
theorem cob_rng (h : CocOK o m (zeroC n)) (hp : PairOK n m c) {i j k : Nat} (hi : i < n) (hj : j < n) (hk : k < n) :
    ∃ a b : Nat, gadd o (i : Int) (j : Int) = (a : Int) ∧ a < n ∧ gadd o (j : Int) (k : Int) = (b : Int) ∧ b < n ∧ cobN o c i j k = at2 c j k - at2 c a k + at2 c i b - at2 c i j ∧ -(2 * m) ≤ cobN o c i j k ∧ (0 ≤ at2 c j k ∧ at2 c j k ≤ 999) ∧ (0 ≤ at2 c a k ∧ at2 c a k ≤ 999) ∧ (0 ≤ at2 c i b ∧ at2 c i b ≤ 999) ∧ (0 ≤ at2 c i j ∧ at2 c i j ≤ 999) := by
  have hm := h.mod
  have hl : (zeroC n).length = n := zeroC_len
  obtain ⟨a, a1, a2⟩ := h.add (x := i) (y := j) (by omega) (by omega)
  obtain ⟨b, b1, b2⟩ := h.add (x := j) (y := k) (by omega) (by omega)
  have r1 := (hp.1.2 j hj).2 k hk
  have r2 := (hp.1.2 a (by omega)).2 k hk
  have r3 := (hp.1.2 i hi).2 b (by omega)
  have r4 := (hp.1.2 i hi).2 j hj
  have e : cobN o c i j k = at2 c j k - at2 c a k + at2 c i b - at2 c i j := by simp only [cobN, a1, b1, Int.toNat_natCast]
  refine ⟨a, b, a1, by omega, b1, by omega, e, ?_, ?_, ?_, ?_, ?_⟩ <;> omega
theorem specCob (h : CocOK o m (zeroC n)) (hp : PairOK n m c) (ho : (o.length : Int) ≤ 1048576) : p_spec_l17Coboundary o m c = some (o, m, cubeG (fun i j k => cobN o c i j k % m) n n n) := by
  have hm := h.mod
  have hs : n ≤ 8 := by have := h.small; rw [zeroC_len] at this; exact this
  have hcl : c.length = n := hp.1.1
  unfold p_spec_l17Coboundary
  rw [own1_eq o (by omega), hcl, specEmptyC (by omega)]
  simp only [Option.bind_some]
  unfold zeroC
  rw [fill3 (L2 := fun i j s => p_spec_l17Coboundary_L2 c o i m j s) (L3 := fun i j k s => p_spec_l17Coboundary_L3 c j o i m k s) _ (fun i j k => cobN o c i j k % m) (fun i hi j hj k hk g hg => by
    obtain ⟨a, b, a1, a2, b1, b2, e, e2, r1, r2, r3, r4⟩ := cob_rng h hp hi hj hk
    simp only [p_spec_l17Coboundary_L3, hp.i1 hj, hp.i2 hj hk, specAdd h.pos ho, a1, b1, hp.i1 a2, hp.i2 a2 hk, hp.i1 hi, hp.i2 hi b2, hp.i2 hi hj, cubeG_idx hi, grid_idx hj, rowG_idx hk, Option.bind_some, Int.toNat_natCast]
    rw [w64_small (x := at2 c j k - at2 c a k) (by omega) (by omega), w64_small (x := at2 c j k - at2 c a k + at2 c i b) (by omega) (by omega), w64_small (x := at2 c j k - at2 c a k + at2 c i b - at2 c i j) (by omega) (by omega), w64_small (x := 2 * m) (by omega) (by omega), ← e, w64_small (x := cobN o c i j k + 2 * m) (by omega) (by omega)]
    have hne : m ≠ 0 := by omega
    simp only [remI, ne_eq, hne, not_false_eq_true, if_true, Option.bind_some]
    rw [Int.tmod_eq_emod_of_nonneg (by omega), Int.add_mul_emod_self_right, cubeG_set hi hj hk]) (fun i hi j hj g => by simp only [p_spec_l17Coboundary_L2, hcl]) (fun i hi g => by simp only [p_spec_l17Coboundary_L1, hcl])]
  rfl
theorem implCob (h : CocOK o m (zeroC n)) (hp : PairOK n m c) (ho : (o.length : Int) ≤ 1048576) : p_impl_coboundary o m c = some (o, m, cubeG (fun i j k => cobN o c i j k % m) n n n) := by
  have hm := h.mod
  have hl : (zeroC n).length = n := zeroC_len
  unfold p_impl_coboundary
  rw [cocycleBy_eq h ho (F := cobN o c) (fun i j k hi hj hk => by
    rw [hl] at hi hj hk
    obtain ⟨a, b, a1, a2, b1, b2, e, e2, r1, r2, r3, r4⟩ := cob_rng h hp hi hj hk
    simp only [p_impl_coboundary_c1, p_impl_Cocycle_plus, hp.i1 hj, hp.i2 hj hk, implAdd h.pos, a1, b1, hp.i1 a2, hp.i2 a2 hk, hp.i1 hi, hp.i2 hi b2, hp.i2 hi hj, Option.bind_some]
    rw [w64_small (x := at2 c j k - at2 c a k) (by omega) (by omega), w64_small (x := at2 c j k - at2 c a k + at2 c i b) (by omega) (by omega), w64_small (x := at2 c j k - at2 c a k + at2 c i b - at2 c i j) (by omega) (by omega), ← e]
    exact ⟨rfl, by omega, by omega⟩)]
  rw [hl]
  rfl
def turnB (c : List (List Int)) (m : Int) (i j : Nat) : Int := (at2 c j i - at2 c i j) % m
theorem specTurnB (hm : 1 ≤ m ∧ m ≤ 1000) (hp : PairOK n m c) (hs : n ≤ 8) : p_spec_l18Turn c m = some (grid (turnB c m) n n) := by
  have hcl : c.length = n := hp.1.1
  unfold p_spec_l18Turn
  rw [hcl]
  rw [forN_app (R := Unit) (rowG (turnB c m) n) (fun i hi => by
    have er : forN (R := Unit) (fun k s => p_spec_l18Turn_L2 c i m k s) n 0 ([] : List Int) = some (.fin (rowG (turnB c m) n i)) := by
      refine forN_app (turnB c m i) fun j hj => ?_
      have r := hp.rng hm.2 hj hi
      have r2 := hp.rng hm.2 hi hj
      simp only [p_spec_l18Turn_L2, hp.i1 hj, hp.i2 hj hi, hp.i1 hi, hp.i2 hi hj, Option.bind_some]
      rw [w64_small (x := at2 c j i - at2 c i j) (by omega) (by omega), mod_eq hm (by omega)]
      simp only [Option.bind_some]
      show (appL ((List.range j).map (turnB c m i)) [turnB c m i j]).bind _ = _
      rw [appL_range (turnB c m i) (by omega)]
      rfl
    simp only [p_spec_l18Turn_L1, hcl, er, Option.bind_some, onRes]
    rw [appL_range (rowG (turnB c m) n) (by omega)]
    rfl)]
  rfl
/-- The coboundary's cube is a cocycle's by its shape: what the code's next step asks of it. -/
theorem cob_ok (h : CocOK o m (zeroC n)) (F : Nat → Nat → Nat → Int) : CocOK o m (cubeG (fun i j k => F i j k % m) n n n) := by
  have hm := h.mod
  have hl : (zeroC n).length = n := zeroC_len
  refine ⟨h.ne, h.pos, by rw [cubeG_len]; have := h.size; rw [hl] at this; exact this, by rw [cubeG_len]; have := h.small; rw [hl] at this; exact this, hm, fun i hi => ?_⟩
  rw [cubeG_len] at hi ⊢
  rw [cubeG_getD hi]
  refine ⟨grid_len, fun j hj => ?_⟩
  rw [grid_getD hj]
  refine ⟨rowG_len, fun k hk => ?_⟩
  have : at2 (grid (fun j k => F i j k % m) n n) j k = F i j k % m := by
    unfold at2
    rw [grid_getD hj, show rowG (fun j k => F i j k % m) n j = vecG (fun k => F i j k % m) n from rfl, vecG_getD hk]
  rw [this]
  have := Int.emod_nonneg (F i j k) (show m ≠ 0 by omega)
  have := Int.emod_lt_of_pos (F i j k) (show 0 < m by omega)
  omega
end
theorem cobB_eq (o : List Int) (m : Int) (c : List (List Int)) (ho : (o.length : Int) ≤ 1048576) : ∃ r, p_spec_CoboundaryBraiding o m c = some r ∧ p_impl_CoboundaryBraiding o m c = some r ∧
    (r.1.length : Int) ≤ 1048576 ∧ (r.2.2.1.length ≤ 8 ∧ ∀ x ∈ r.2.2.1, x.length ≤ 8 ∧ ∀ y ∈ x, y.length ≤ 8) ∧ r.2.2.2.1.length ≤ 8 ∧ ∀ x ∈ r.2.2.2.1, x.length ≤ 8 := by
  unfold p_spec_CoboundaryBraiding p_impl_CoboundaryBraiding p_spec_CoboundaryOf p_impl_pairingCode p_impl_ordersCode
  obtain ⟨b, e1, hb⟩ := specOrders (o := o)
  obtain ⟨s, e2, hs⟩ := implSize2 (o := o)
  rw [e1, e2]
  simp only [Option.bind_some]
  cases b
  · have hn : s = 0 := by
      rcases hs with ⟨h0, _⟩ | ⟨h1, _⟩
      · exact h0
      · exact absurd (hb.2 h1) (by simp)
    subst hn
    exact ⟨([], 0, [], [], 1), rfl, rfl, by simp, by simp, by simp⟩
  obtain ⟨hne, hpos⟩ := hb.1 rfl
  have hs' : (s = prodL o ∧ 1 ≤ s ∧ s ≤ 16) ∨ (s = 17 ∧ 17 ≤ prodL o) := by
    rcases hs with ⟨_, h1⟩ | ⟨_, h1⟩
    · exact absurd ⟨hne, hpos⟩ h1
    · exact h1
  have hs0 : (s == 0) = false := by simp only [beq_eq_false_iff_ne, ne_eq]; omega
  obtain ⟨t, e3, ht⟩ := specSize hpos
  simp only [Bool.not_true, Bool.false_eq_true, if_false, e3, hs0, Option.bind_some]
  by_cases h8 : prodL o ≤ 8
  · have et : t = prodL o := by omega
    have es : s = prodL o := by omega
    subst es
    subst et
    have d1 : decide (prodL o > 8) = false := decide_eq_false (by omega)
    simp only [d1, Bool.false_eq_true, if_false, p_spec_l01In, p_impl_isModulus, p_impl_within, Option.bind_some, bne_self_eq_false]
    by_cases hm : 1 ≤ m ∧ m ≤ 1000
    · have ec : (decide (m ≥ 1) && decide (m ≤ 1000)) = true := by simpa using hm
      obtain ⟨n, hn⟩ : ∃ n : Nat, prodL o = (n : Int) := ⟨(prodL o).toNat, by have := prodL_pos hpos; omega⟩
      have hn1 : 1 ≤ n := by have := prodL_pos hpos; omega
      have hn8 : n ≤ 8 := by omega
      rw [hn]
      obtain ⟨d, f1, hd⟩ := specPairing (c := c) (n := n) hm hn1
      have f2 : p_impl_isPairing c (n : Int) m = some d := by rw [← f1]; exact ((implPairing hm hn1).eq (specPairing hm hn1))
      simp only [ec, Bool.not_true, Bool.false_eq_true, if_false, f1, f2, Option.bind_some]
      cases d
      · exact ⟨([], 0, [], [], 2), rfl, rfl, by simp, by simp, by simp⟩
      have hp := hd.1 rfl
      have hz := zero_ok (m := m) hne hpos hn hn8 hm
      have hk := cob_ok hz (cobN o c)
      have k5 : p_impl_braidingBy o m (cubeG (fun i j k => cobN o c i j k % m) n n n) (fun a0 a1 => p_impl_CoboundaryBraiding_c1 a0 a1 c) = some (o, m, cubeG (fun i j k => cobN o c i j k % m) n n n, grid (turnB c m) n n) := by
        rw [braidingBy_eq hk (F := fun i j => at2 c j i - at2 c i j) (fun i j hi hj => by
          rw [cubeG_len] at hi hj
          have r1 := hp.rng hm.2 hi hj
          have r2 := hp.rng hm.2 hj hi
          simp only [p_impl_CoboundaryBraiding_c1, hp.i1 hi, hp.i2 hi hj, hp.i1 hj, hp.i2 hj hi, Option.bind_some]
          rw [w64_small (by omega) (by omega)]
          exact ⟨rfl, by omega, by omega⟩)]
        rw [cubeG_len]
        rfl
      simp only [Bool.not_true, Bool.false_eq_true, if_false, bne_self_eq_false, specCob hz hp ho, implCob hz hp ho, specTurnB hm hp hn8, k5, Option.bind_some]
      exact ⟨_, rfl, rfl, ho, cube_sizes hn8, grid_sizes hn8⟩
    · have ec : (decide (m ≥ 1) && decide (m ≤ 1000)) = false := by
        cases hh : (decide (m ≥ 1) && decide (m ≤ 1000)) with
        | false => rfl
        | true => exact absurd (by simpa using hh) hm
      simp only [ec, Bool.not_false, if_true, Option.bind_some]
      exact ⟨([], 0, [], [], 2), rfl, rfl, by simp, by simp, by simp⟩
  · have d1 : decide (t > 8) = true := decide_eq_true (by omega)
    have d2 : decide (s > 8) = true := decide_eq_true (by omega)
    simp only [d1, d2, if_true, Option.bind_some]
    exact ⟨([], 0, [], [], 3), rfl, rfl, by simp, by simp, by simp⟩
theorem plain_FnExactCoboundaryBraiding (aOrders : (List Int)) (aM : Int) (aF : (List (List Int))) (h0 : Good1 .i64 aOrders) (h1 : InR .i64 aM) (h2 : Good2 .i64 aF) : p_laws_FnExactCoboundaryBraiding aOrders aM aF = some true := by
  unfold p_laws_FnExactCoboundaryBraiding
  by_cases hl : (aOrders.length : Int) > 1048576
  · simp [hl]
  simp only [hl, decide_false, Bool.false_eq_true, if_false]
  obtain ⟨r, e, hr, hs⟩ := szInt64SS_spec aF 1048576 (by decide) (by decide) h2.1 (fun x hx => (h2.2 x hx).1)
  rw [e]
  simp only [Option.bind_some]
  by_cases hr0 : r < 0
  · simp [hr0]
  simp only [hr0, decide_false, Bool.false_eq_true, if_false]
  obtain ⟨v1, v2⟩ := hs.2 (by omega)
  obtain ⟨x, g1, g2, g3, g4, g5⟩ := cobB_eq aOrders aM aF (by omega)
  obtain ⟨l1, e1, _, _⟩ := markS_held aOrders 1 (by decide) (by omega)
  obtain ⟨l2, r2, e2, q1, q2⟩ := markSS_ok 1048576 (Nat.le_refl _) aF (1 + aOrders.length) (by omega) (by omega) (fun x hx => by have := v2 x hx; omega) (by omega)
  obtain ⟨qc, w1, w2, w3⟩ := markBraiding_held x.1 x.2.1 x.2.1 x.2.2.1 x.2.2.2.1 g3 g4 g5
  have hq : ¬ r2 < 0 := by omega
  have hp : ¬ qc.1 < 0 := by omega
  simp only [toInt64S_eq aOrders (by omega), toInt64SS_eq aF v1 v2, Option.bind_some, g1, g2, eqBraiding_self, eqS_self, eqSS_self, e1, e2, w1, w3]
  simp [hq, hp]
end Go.VG
