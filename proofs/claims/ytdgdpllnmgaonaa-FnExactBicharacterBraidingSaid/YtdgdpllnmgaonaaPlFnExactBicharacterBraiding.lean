/- The plain law of FnExactBicharacterBraiding. No condition but the readings'. -/
import Derived.Test.YtdgdpllnmgaonaaPlZero
import Derived.Test.YtdgdpllnmgaonaaPlOwn1
import Derived.Test.YtdgdpllnmgaonaaPlCocHeld
set_option linter.all false
namespace Go.VG
theorem specEmptyC {n : Nat} (h : n ≤ 1048576) : p_spec_l06Empty (n : Int) = some (zeroC n) := by
  unfold p_spec_l06Empty
  rw [Int.toNat_natCast, forN_app (R := Unit) (fun _ => grid (fun _ _ => (0 : Int)) n n) (fun j hj => by
    simp only [p_spec_l06Empty_L1]
    rw [Int.toNat_natCast, zeros_eq h (by omega) (body := fun k s => p_spec_l06Empty_L2 (n : Int) k s) (fun _ _ => rfl)]
    simp only [Option.bind_some, onRes]
    rw [appL_range (fun _ => grid (fun _ _ => (0 : Int)) n n) (by omega : j ≤ 1048576)]
    rfl)]
  rfl
theorem bi_eq (o : List Int) (m : Int) (c : List (List Int)) (ho : (o.length : Int) ≤ 1048576) : ∃ r, p_spec_BicharacterBraiding o m c = some r ∧ p_impl_BicharacterBraiding o m c = some r ∧
    (r.1.length : Int) ≤ 1048576 ∧ (r.2.2.1.length ≤ 8 ∧ ∀ x ∈ r.2.2.1, x.length ≤ 8 ∧ ∀ y ∈ x, y.length ≤ 8) ∧ r.2.2.2.1.length ≤ 8 ∧ ∀ x ∈ r.2.2.2.1, x.length ≤ 8 := by
  unfold p_spec_BicharacterBraiding p_impl_BicharacterBraiding p_spec_l18Group p_impl_pairingCode p_impl_ordersCode
  obtain ⟨b, e1, hb⟩ := specOrders (o := o)
  obtain ⟨s, e2, hs⟩ := implSize2 (o := o)
  rw [e1, e2]
  simp only [Option.bind_some]
  cases b
  · have hn : s = 0 := by
      rcases hs with ⟨h0, _⟩ | ⟨h1, _⟩
      · exact h0
      · exact absurd (hb.2 h1) (by simp)
    subst hn
    exact ⟨([], 0, [], [], 1), rfl, rfl, by simp, by simp, by simp⟩
  obtain ⟨hne, hpos⟩ := hb.1 rfl
  have hs' : (s = prodL o ∧ 1 ≤ s ∧ s ≤ 16) ∨ (s = 17 ∧ 17 ≤ prodL o) := by
    rcases hs with ⟨_, h1⟩ | ⟨_, h1⟩
    · exact absurd ⟨hne, hpos⟩ h1
    · exact h1
  have hs0 : (s == 0) = false := by simp only [beq_eq_false_iff_ne, ne_eq]; omega
  obtain ⟨t, e3, ht⟩ := specSize hpos
  simp only [Bool.not_true, Bool.false_eq_true, if_false, e3, hs0, Option.bind_some]
  by_cases h8 : prodL o ≤ 8
  · have et : t = prodL o := by omega
    have es : s = prodL o := by omega
    subst es
    subst et
    have d1 : decide (prodL o > 8) = false := decide_eq_false (by omega)
    simp only [d1, Bool.false_eq_true, if_false, p_spec_l01In, p_impl_isModulus, p_impl_within, Option.bind_some, bne_self_eq_false]
    by_cases hm : 1 ≤ m ∧ m ≤ 1000
    · have ec : (decide (m ≥ 1) && decide (m ≤ 1000)) = true := by simpa using hm
      obtain ⟨n, hn⟩ : ∃ n : Nat, prodL o = (n : Int) := ⟨(prodL o).toNat, by have := prodL_pos hpos; omega⟩
      have hn1 : 1 ≤ n := by have := prodL_pos hpos; omega
      have hn8 : n ≤ 8 := by omega
      rw [hn]
      obtain ⟨d, f1, hd⟩ := specPairing (c := c) (n := n) hm hn1
      have f2 : p_impl_isPairing c (n : Int) m = some d := by rw [← f1]; exact ((implPairing hm hn1).eq (specPairing hm hn1))
      simp only [ec, Bool.not_true, Bool.false_eq_true, if_false, beq_self_eq_true, if_true, p_spec_l18Numbers, f1, f2, Option.bind_some]
      cases d
      · exact ⟨([], 0, [], [], 2), rfl, rfl, by simp, by simp, by simp⟩
      have hp := hd.1 rfl
      have hz := zero_ok (m := m) hne hpos hn hn8 hm
      have hp' : PairOK (zeroC n).length m c := by rw [zeroC_len]; exact hp
      obtain ⟨r, g1, g2, _⟩ := bfault_eq hz ho hp'
      have hcl := hp.1.1
      have hcr : ∀ x ∈ c, x.length ≤ 8 := fun x hx => by
        obtain ⟨i, hi, rfl⟩ := mem_getD [] hx
        have := (hp.1.2 i (by omega)).1
        omega
      have k1 : p_spec_l01Own o = some o := own1_eq o (by omega)
      have k2 : p_spec_l01Own2 c = some c := own2_eq c (by omega) (fun x hx => by have := hcr x hx; omega)
      have k3 : p_spec_l18Is o m (zeroC n) c = some r.isEmpty := by
        unfold p_spec_l18Is p_spec_l18Shape
        rw [zero_is hz ho]
        simp only [Option.bind_some, if_true, zeroC_len, p_spec_l18Numbers, f1, g1, len0_empty]
      have k4 : p_impl_cocycleBy o m (fun a0 a1 a2 => p_impl_BicharacterBraiding_c1 a0 a1 a2) = some (o, m, zeroC n) := zeroBy hz ho (fun i j k => rfl)
      have k5 : p_impl_braidingBy o m (zeroC n) (fun a0 a1 => p_impl_BicharacterBraiding_c2 a0 a1 c) = some (o, m, zeroC n, c) := by
        rw [braidingBy_eq hz (F := at2 c) (fun i j hi hj => by
          rw [zeroC_len] at hi hj
          have := hp.rng hm.2 hi hj
          simp only [p_impl_BicharacterBraiding_c2, hp.i1 hi, hp.i2 hi hj, Option.bind_some]
          exact ⟨trivial, by omega, by omega⟩)]
        rw [zeroC_len]
        congr 4
        have e : c = grid (at2 c) n n := eq_grid hp.1.1 (fun i hi => (hp.1.2 i hi).1)
        conv => rhs; rw [e]
        refine grid_congr fun i hi j hj => ?_
        have := (hp.1.2 i hi).2 j hj
        exact Int.emod_eq_of_lt (by omega) (by omega)
      simp only [Bool.not_true, Bool.false_eq_true, if_false, bne_self_eq_false, k1, k2, specEmptyC (show n ≤ 1048576 by omega), k3, k4, k5, g2, Option.bind_some]
      cases hh : r.isEmpty
      · simp only [Bool.not_false, if_true]
        exact ⟨([], 0, [], [], 5), rfl, rfl, by simp, by simp, by simp⟩
      · simp only [Bool.not_true, Bool.false_eq_true, if_false]
        refine ⟨_, rfl, rfl, ho, ⟨by simp only [zeroC_len]; exact hn8, fun x hx => ?_⟩, by simp only; omega, hcr⟩
        simp only [zeroC, cubeG, List.mem_map] at hx
        obtain ⟨i, _, rfl⟩ := hx
        refine ⟨by rw [grid_len]; exact hn8, fun y hy => ?_⟩
        simp only [grid, List.mem_map] at hy
        obtain ⟨j, _, rfl⟩ := hy
        rw [rowG_len]; exact hn8
    · have ec : (decide (m ≥ 1) && decide (m ≤ 1000)) = false := by
        cases hh : (decide (m ≥ 1) && decide (m ≤ 1000)) with
        | false => rfl
        | true => exact absurd (by simpa using hh) hm
      simp only [ec, Bool.not_false, if_true, Option.bind_some]
      exact ⟨([], 0, [], [], 2), rfl, rfl, by simp, by simp, by simp⟩
  · have d1 : decide (t > 8) = true := decide_eq_true (by omega)
    have d2 : decide (s > 8) = true := decide_eq_true (by omega)
    simp only [d1, d2, if_true, Option.bind_some]
    exact ⟨([], 0, [], [], 3), rfl, rfl, by simp, by simp, by simp⟩
theorem markBraiding_held (o : List Int) (m m2 : Int) (V : List (List (List Int))) (c : List (List Int)) (ho : (o.length : Int) ≤ 1048576) (hV : V.length ≤ 8 ∧ ∀ x ∈ V, x.length ≤ 8 ∧ ∀ y ∈ x, y.length ≤ 8) (hc : c.length ≤ 8 ∧ ∀ x ∈ c, x.length ≤ 8) :
    ∃ q, p_laws_markBraiding o m V c 1 = some q ∧ 0 ≤ q.1 ∧ p_laws_heldBraiding q.2.1 m2 q.2.2.1 q.2.2.2 1 = some q.1 := by
  unfold p_laws_markBraiding p_laws_heldBraiding p_laws_markCocycle p_laws_heldCocycle
  obtain ⟨l1, e1, _, h1⟩ := markS_held o 1 (by decide) (by omega)
  obtain ⟨r2, l2, e2, h2, h3, h4⟩ := markSSS_held V (1 + o.length) (by omega) (by omega) (fun x hx => ⟨by have := (hV.2 x hx).1; omega, fun y hy => by have := (hV.2 x hx).2 y hy; omega⟩) (by omega)
  obtain ⟨r3, l3, e3, h5, h6, h7⟩ := markSS_held c r2 (by omega) (by omega) (fun x hx => by have := hc.2 x hx; omega) (by omega)
  rw [e1]
  simp only [Option.bind_some, e2, e3]
  have n1 : ¬ (1 + (o.length : Int)) < 0 := by omega
  have n2 : ¬ r2 < 0 := by omega
  have n3 : ¬ r3 < 0 := by omega
  exact ⟨_, rfl, by omega, by simp only [h1, Option.bind_some, n1, n2, n3, decide_false, Bool.false_eq_true, if_false, h4, h7]⟩
theorem plain_FnExactBicharacterBraiding (aOrders : (List Int)) (aM : Int) (aValues : (List (List Int))) (h0 : Good1 .i64 aOrders) (h1 : InR .i64 aM) (h2 : Good2 .i64 aValues) : p_laws_FnExactBicharacterBraiding aOrders aM aValues = some true := by
  unfold p_laws_FnExactBicharacterBraiding
  by_cases hl : (aOrders.length : Int) > 1048576
  · simp [hl]
  simp only [hl, decide_false, Bool.false_eq_true, if_false]
  obtain ⟨r, e, hr, hs⟩ := szInt64SS_spec aValues 1048576 (by decide) (by decide) h2.1 (fun x hx => (h2.2 x hx).1)
  rw [e]
  simp only [Option.bind_some]
  by_cases hr0 : r < 0
  · simp [hr0]
  simp only [hr0, decide_false, Bool.false_eq_true, if_false]
  obtain ⟨v1, v2⟩ := hs.2 (by omega)
  obtain ⟨x, g1, g2, g3, g4, g5⟩ := bi_eq aOrders aM aValues (by omega)
  obtain ⟨l1, e1, _, _⟩ := markS_held aOrders 1 (by decide) (by omega)
  obtain ⟨l2, r2, e2, q1, q2⟩ := markSS_ok 1048576 (Nat.le_refl _) aValues (1 + aOrders.length) (by omega) (by omega) (fun x hx => by have := v2 x hx; omega) (by omega)
  obtain ⟨qc, w1, w2, w3⟩ := markBraiding_held x.1 x.2.1 x.2.1 x.2.2.1 x.2.2.2.1 g3 g4 g5
  have hq : ¬ r2 < 0 := by omega
  have hp : ¬ qc.1 < 0 := by omega
  simp only [toInt64S_eq aOrders (by omega), toInt64SS_eq aValues v1 v2, Option.bind_some, g1, g2, eqBraiding_self, eqS_self, eqSS_self, e1, e2, w1, w3]
  simp [hq, hp]
end Go.VG
