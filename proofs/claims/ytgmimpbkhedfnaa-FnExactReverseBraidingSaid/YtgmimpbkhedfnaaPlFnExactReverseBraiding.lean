/- The plain law of FnExactReverseBraiding. No condition but the readings'. -/
import Derived.Test.YtgmimpbkhedfnaaPlBraidBy
import Derived.Test.YtgmimpbkhedfnaaPlBraidMark
import Derived.Test.YtgmimpbkhedfnaaPlBraidHeld
import Derived.Test.YtgmimpbkhedfnaaPlOwn1
import Derived.Test.YtgmimpbkhedfnaaPlSizes
set_option linter.all false
namespace Go.VG
section
variable {o : List Int} {m : Int} {V : List (List (List Int))} {c : List (List Int)}
def revB (c : List (List Int)) (m : Int) (i j : Nat) : Int := (0 - at2 c j i) % m
theorem ownCoc (h : CocOK o m V) (ho : (o.length : Int) ≤ 1048576) : p_spec_l18Own o m V = some (o, m, V) := by
  have hs := h.small
  unfold p_spec_l18Own
  rw [own1_eq o (by omega)]
  simp only [Option.bind_some]
  rw [forN_app (R := Unit) (fun i => V.getD i []) (fun i hi => by
    have hr := h.rows i hi
    simp only [p_spec_l18Own_L1, h.i1 hi, Option.bind_some]
    rw [own2_eq (V.getD i []) (by rw [hr.1]; omega) (fun x hx => by
      obtain ⟨j, hj, rfl⟩ := mem_getD [] hx
      rw [hr.1] at hj
      rw [(hr.2 j hj).1]; omega)]
    simp only [Option.bind_some]
    rw [appL_range (fun i => V.getD i []) (by omega)]
    rfl)]
  simp only [Option.bind_some, onRes]
  rw [map_range_getD]
theorem copyCoc (h : CocOK o m V) (ho : (o.length : Int) ≤ 1048576) : p_impl_copyCocycle o m V = some (o, m, V) := by
  unfold p_impl_copyCocycle
  rw [cocycleBy_eq h ho (F := c3 V) (fun i j k hi hj hk => by
    have := h.rng hi hj hk
    simp only [p_impl_copyCocycle_c1, h.i1 hi, h.i2 hi hj, h.i3 hi hj hk, Option.bind_some]
    refine ⟨?_, by omega, by omega⟩
    first | rfl | trivial)]
  have e : cubeG (fun i j k => c3 V i j k % m) V.length V.length V.length = V := by
    conv => rhs; rw [h.asCube]
    refine cubeG_congr fun i hi j hj k hk => ?_
    have := ((h.rows i hi).2 j hj).2 k hk
    simp only [at2] at this
    have e2 : c3 V i j k = ((V.getD i []).getD j []).getD k 0 := rfl
    exact Int.emod_eq_of_lt (by omega) (by omega)
  rw [e]
  rfl
theorem rev_eq (hl : (o.length : Int) ≤ 1048576) : ∃ r, p_spec_ReverseBraiding o m V c = some r ∧ p_impl_ReverseBraiding o m V c = some r ∧
    (r.1.length : Int) ≤ 1048576 ∧ (r.2.2.1.length ≤ 8 ∧ ∀ x ∈ r.2.2.1, x.length ≤ 8 ∧ ∀ y ∈ x, y.length ≤ 8) ∧ r.2.2.2.1.length ≤ 8 ∧ ∀ x ∈ r.2.2.2.1, x.length ≤ 8 := by
  unfold p_spec_ReverseBraiding p_impl_ReverseBraiding
  obtain ⟨b, e1, e2, hb⟩ := braid_eq (o := o) (m := m) (V := V) (c := c) hl
  rw [e1, e2]
  simp only [Option.bind_some]
  cases b
  · exact ⟨([], 0, [], [], 1), rfl, rfl, by simp, by simp, by simp⟩
  obtain ⟨h, hp⟩ := hb rfl
  have hs := h.small
  have hm := h.mod
  have hcl := hp.1.1
  have g1 : forN (R := Unit) (fun k s => p_spec_ReverseBraiding_L1 c m k s) c.length 0 ([] : List (List Int)) = some (.fin (grid (revB c m) V.length V.length)) := by
    rw [hcl]
    refine forN_app (rowG (revB c m) V.length) fun i hi => ?_
    have er : forN (R := Unit) (fun k s => p_spec_ReverseBraiding_L2 c i m k s) V.length 0 ([] : List Int) = some (.fin (rowG (revB c m) V.length i)) := by
      refine forN_app (revB c m i) fun j hj => ?_
      have r := hp.rng hm.2 hj hi
      simp only [p_spec_ReverseBraiding_L2, hp.i1 hj, hp.i2 hj hi, Option.bind_some]
      rw [w64_small (x := 0 - at2 c j i) (by omega) (by omega), mod_eq hm (by omega)]
      simp only [Option.bind_some]
      show (appL ((List.range j).map (revB c m i)) [revB c m i j]).bind _ = _
      rw [appL_range (revB c m i) (by omega)]
      rfl
    simp only [p_spec_ReverseBraiding_L1, hcl, er, Option.bind_some, onRes]
    rw [appL_range (rowG (revB c m) V.length) (by omega)]
    rfl
  have g2 : p_impl_braidingBy o m V (fun a0 a1 => p_impl_ReverseBraiding_c1 a0 a1 o m V c) = some (o, m, V, grid (revB c m) V.length V.length) := by
    rw [braidingBy_eq h (F := fun i j => 0 - at2 c j i) (fun i j hi hj => by
      have r := hp.rng hm.2 hj hi
      simp only [p_impl_ReverseBraiding_c1, hp.i1 hj, hp.i2 hj hi, Option.bind_some]
      rw [w64_small (by omega) (by omega)]
      exact ⟨rfl, by omega, by omega⟩)]
    rfl
  simp only [Bool.not_true, Bool.false_eq_true, if_false, ownCoc h hl, copyCoc h hl, g1, g2, Option.bind_some, onRes]
  have hcub : (V.length ≤ 8 ∧ ∀ x ∈ V, x.length ≤ 8 ∧ ∀ y ∈ x, y.length ≤ 8) := by
    have := cube_sizes (f := c3 V) (n := V.length) hs
    rw [← h.asCube] at this
    exact this
  exact ⟨_, rfl, rfl, hl, hcub, grid_sizes hs⟩
end
theorem plain_FnExactReverseBraiding (aB_Cocycle_Orders : (List Int)) (aB_Cocycle_Modulus : Int) (aB_Cocycle_Values : (List (List (List Int)))) (aB_Values : (List (List Int))) (h0 : Good1 .i64 aB_Cocycle_Orders) (h1 : InR .i64 aB_Cocycle_Modulus) (h2 : Good3 .i64 aB_Cocycle_Values) (h3 : Good2 .i64 aB_Values) : p_laws_FnExactReverseBraiding aB_Cocycle_Orders aB_Cocycle_Modulus aB_Cocycle_Values aB_Values = some true := by
  unfold p_laws_FnExactReverseBraiding
  obtain ⟨r, e, hr⟩ := szBraiding_spec (m := aB_Cocycle_Modulus) h0 h2 h3
  rw [e]
  simp only [Option.bind_some]
  by_cases hr0 : r < 0
  · simp [hr0]
  · obtain ⟨et, ho, hV, hc⟩ := hr (by omega)
    obtain ⟨x, e1, e2, g3, g4, g5⟩ := rev_eq (o := aB_Cocycle_Orders) (m := aB_Cocycle_Modulus) (V := aB_Cocycle_Values) (c := aB_Values) ho
    obtain ⟨q, e4, e5⟩ := markBraiding_ok aB_Cocycle_Orders aB_Cocycle_Modulus aB_Cocycle_Values aB_Values ho hV hc
    obtain ⟨qc, w1, w2, w3⟩ := markBraiding_held x.1 x.2.1 x.2.1 x.2.2.1 x.2.2.2.1 g3 g4 g5
    have hq : ¬ q.1 < 0 := by omega
    have hp : ¬ qc.1 < 0 := by omega
    simp only [hr0, decide_false, Bool.false_eq_true, if_false, et, Option.bind_some, e1, e2, eqBraiding_self, e4, w1, w3]
    simp [hq, hp]
end Go.VG
