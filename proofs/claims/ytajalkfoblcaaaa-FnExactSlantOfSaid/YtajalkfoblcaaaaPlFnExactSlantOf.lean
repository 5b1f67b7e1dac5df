/- The plain law of FnExactSlantOf. No condition but the readings'. -/
import Derived.Test.YtajalkfoblcaaaaPlCocLaw
import Derived.Test.YtajalkfoblcaaaaPlFill
import Derived.Test.YtajalkfoblcaaaaPlHeld2
set_option linter.all false
namespace Go.VG
section
variable {o : List Int} {m : Int} {V : List (List (List Int))}
def slant (V : List (List (List Int))) (m : Int) (x a b : Nat) : Int := (c3 V x a b - c3 V a x b + c3 V a b x) % m
theorem slant_eq (hl : (o.length : Int) ≤ 1048576) (x : Int) : ∃ r, p_spec_SlantOf o m V x = some r ∧ p_impl_SlantOf o m V x = some r ∧ r.1.length ≤ 8 ∧ ∀ y ∈ r.1, y.length ≤ 8 := by
  unfold p_spec_SlantOf p_impl_SlantOf p_spec_l17Code
  obtain ⟨b, e1, e2, hb⟩ := is_eq (o := o) (m := m) (V := V) hl
  rw [e1, e2]
  simp only [Option.bind_some]
  cases b
  · exact ⟨([], 1), rfl, rfl, by simp, by simp⟩
  · have h := hb rfl
    have hn := h.n1
    have hs := h.small
    have hm := h.mod
    simp only [Bool.not_true, Bool.false_eq_true, if_false, p_spec_l01In, p_impl_Cocycle_isElement, p_impl_within, Option.bind_some]
    rw [w64_small (x := (V.length : Int) - 1) (by omega) (by omega)]
    by_cases hx : 0 ≤ x ∧ x ≤ (V.length : Int) - 1
    · have ex : (decide (x ≥ 0) && decide (x ≤ (V.length : Int) - 1)) = true := by simpa using hx
      obtain ⟨x, rfl⟩ : ∃ p : Nat, x = (p : Int) := ⟨x.toNat, by omega⟩
      have hxv : x < V.length := by omega
      simp only [ex, Bool.not_true, Bool.false_eq_true, if_false, Option.bind_some, bne_self_eq_false]
      have num : ∀ a b, a < V.length → b < V.length → (-1998 ≤ c3 V x a b - c3 V a x b + c3 V a b x ∧ c3 V x a b - c3 V a x b + c3 V a b x ≤ 1998) ∧ -m < c3 V x a b - c3 V a x b + c3 V a b x ∧ (-999 ≤ c3 V x a b - c3 V a x b ∧ c3 V x a b - c3 V a x b ≤ 999) := by
        intro a b ha hb
        have r1 := h.rng hxv ha hb
        have r2 := h.rng ha hxv hb
        have r3 := h.rng ha hb hxv
        have r4 := ((h.rows a ha).2 x hxv).2 b hb
        simp only [at2] at r4
        have e : c3 V a x b = ((V.getD a []).getD x []).getD b 0 := rfl
        omega
      have hs1 : forN (R := Unit) (fun k s => p_spec_SlantOf_L1 V (x : Int) m k s) V.length 0 ([] : List (List Int)) = some (.fin (grid (slant V m x) V.length V.length)) := by
        refine forN_app (rowG (slant V m x) V.length) fun a ha => ?_
        have er : forN (R := Unit) (fun k s => p_spec_SlantOf_L2 V (x : Int) a m k s) V.length 0 ([] : List Int) = some (.fin (rowG (slant V m x) V.length a)) := by
          refine forN_app (slant V m x a) fun b hb => ?_
          obtain ⟨n1, n2, n3⟩ := num a b ha hb
          simp only [p_spec_SlantOf_L2, h.i1 hxv, h.i2 hxv ha, h.i3 hxv ha hb, h.i1 ha, h.i2 ha hxv, h.i3 ha hxv hb, h.i2 ha hb, h.i3 ha hb hxv, Option.bind_some]
          rw [w64_small (x := c3 V x a b - c3 V a x b) (by omega) (by omega), w64_small (x := c3 V x a b - c3 V a x b + c3 V a b x) (by omega) (by omega), w64_small (x := c3 V x a b - c3 V a x b + c3 V a b x + m) (by omega) (by omega)]
          have hne : m ≠ 0 := by omega
          simp only [remI, ne_eq, hne, not_false_eq_true, if_true, Option.bind_some]
          rw [Int.tmod_eq_emod_of_nonneg (by omega), Int.add_emod_right]
          show (appL ((List.range b).map (slant V m x a)) [slant V m x a b]).bind _ = _
          rw [appL_range (slant V m x a) (by omega)]
          rfl
        simp only [p_spec_SlantOf_L1, er, Option.bind_some, onRes]
        rw [appL_range (rowG (slant V m x) V.length) (by omega)]
        rfl
      have hz : p_impl_zeros (V.length : Int) (V.length : Int) = some (grid (fun _ _ => 0) V.length V.length) := by
        unfold p_impl_zeros
        simp only [Int.toNat_natCast]
        rw [zeros_eq (body := fun k s => p_impl_zeros_L1 (V.length : Int) k s) (by omega) (by omega) (fun k x => rfl)]
        rfl
      have hs2 : forN (R := Unit) (fun k s => p_impl_SlantOf_L1 V (x : Int) o m k s) V.length 0 (grid (fun _ _ => 0) V.length V.length) = some (.fin (grid (slant V m x) V.length V.length)) := by
        refine fill2 (inner := fun a b s => p_impl_SlantOf_L2 a V (x : Int) o m b s) _ (slant V m x) (fun a ha b hb g hg => ?_) (fun a ha g => ?_)
        · obtain ⟨n1, n2, n3⟩ := num a b ha hb
          simp only [p_impl_SlantOf_L2, grid_idx ha, h.i1 hxv, h.i2 hxv ha, h.i3 hxv ha hb, h.i1 ha, h.i2 ha hxv, h.i3 ha hxv hb, h.i2 ha hb, h.i3 ha hb hxv, rowG_idx hb, Option.bind_some, Int.toNat_natCast]
          rw [w64_small (x := c3 V x a b - c3 V a x b) (by omega) (by omega), w64_small (x := c3 V x a b - c3 V a x b + c3 V a b x) (by omega) (by omega), rest_eq hm (by omega)]
          simp only [Option.bind_some]
          rw [grid_set ha hb]
          rfl
        · simp only [p_impl_SlantOf_L1, grid_len]
      rw [hs1, hz]
      simp only [Option.bind_some, onRes, grid_len, hs2]
      refine ⟨_, rfl, rfl, by simp only [grid_len]; omega, fun y hy => ?_⟩
      simp only [grid, List.mem_map] at hy
      obtain ⟨i, _, rfl⟩ := hy
      rw [rowG_len]; omega
    · have ex : (decide (x ≥ 0) && decide (x ≤ (V.length : Int) - 1)) = false := by
        cases hh : (decide (x ≥ 0) && decide (x ≤ (V.length : Int) - 1)) with
        | false => rfl
        | true => exact absurd (by simpa using hh) hx
      simp only [ex, Bool.not_false, if_true, Option.bind_some]
      exact ⟨([], 2), rfl, rfl, by simp, by simp⟩
end
theorem plain_FnExactSlantOf (aC_Orders : (List Int)) (aC_Modulus : Int) (aC_Values : (List (List (List Int)))) (aX : Int) (h0 : Good1 .i64 aC_Orders) (h1 : InR .i64 aC_Modulus) (h2 : Good3 .i64 aC_Values) (h3 : InR .i64 aX) : p_laws_FnExactSlantOf aC_Orders aC_Modulus aC_Values aX = some true := by
  unfold p_laws_FnExactSlantOf
  obtain ⟨r, e, _, hr⟩ := szCocycle_spec (m := aC_Modulus) 1048576 (by decide) h0 h2
  rw [e]
  simp only [Option.bind_some]
  by_cases hr0 : r < 0
  · simp [hr0]
  · obtain ⟨et, ho, hV⟩ := hr (by omega)
    obtain ⟨x, e1, e2, e3, e3'⟩ := slant_eq (o := aC_Orders) (m := aC_Modulus) (V := aC_Values) ho aX
    obtain ⟨q, e4, e5, _⟩ := markCocycle_ok (m := aC_Modulus) ho hV 1 (by decide)
    obtain ⟨l, q2, e7, e8, e9, e10⟩ := markSS_held x.1 1 (by decide) (by omega) (fun y hy => by have := e3' y hy; omega) (by decide)
    have hq : ¬ q.1 < 0 := by omega
    have hp : ¬ l < 0 := by omega
    simp only [hr0, decide_false, Bool.false_eq_true, if_false, et, Option.bind_some, e1, e2, eqCocycle_self, eqSS_self, e4, e7, e10]
    simp [hq, hp]
end Go.VG
