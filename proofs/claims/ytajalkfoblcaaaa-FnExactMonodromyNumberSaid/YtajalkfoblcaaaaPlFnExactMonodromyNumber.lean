/- The plain law of FnExactMonodromyNumber. No condition but the readings'. -/
import Derived.Test.YtajalkfoblcaaaaPlBraid
set_option linter.all false
namespace Go.VG
theorem monoNumber_eq {o : List Int} {m : Int} {V : List (List (List Int))} {c : List (List Int)} (hl : (o.length : Int) ≤ 1048576) (x y : Int) : ∃ r, p_spec_MonodromyNumber o m V c x y = some r ∧ p_impl_MonodromyNumber o m V c x y = some r := by
  unfold p_spec_MonodromyNumber p_impl_MonodromyNumber
  obtain ⟨b, e1, e2, hb⟩ := braid_eq (o := o) (m := m) (V := V) (c := c) hl
  rw [e1, e2]
  simp only [Option.bind_some]
  cases b
  · exact ⟨(0, 1), rfl, rfl⟩
  · obtain ⟨hc, hp⟩ := hb rfl
    have hn := hc.n1
    have hs := hc.small
    have hcl := hp.1.1
    simp only [Bool.not_true, Bool.false_eq_true, if_false, p_spec_l01In, p_impl_Cocycle_isElement, p_impl_within, Option.bind_some, hcl]
    rw [w64_small (x := (V.length : Int) - 1) (by omega) (by omega)]
    by_cases hx : 0 ≤ x ∧ x ≤ (V.length : Int) - 1
    · have ex : (decide (x ≥ 0) && decide (x ≤ (V.length : Int) - 1)) = true := by simpa using hx
      by_cases hy : 0 ≤ y ∧ y ≤ (V.length : Int) - 1
      · have ey : (decide (y ≥ 0) && decide (y ≤ (V.length : Int) - 1)) = true := by simpa using hy
        obtain ⟨p, rfl⟩ : ∃ p : Nat, x = (p : Int) := ⟨x.toNat, by omega⟩
        obtain ⟨q, rfl⟩ : ∃ q : Nat, y = (q : Int) := ⟨y.toNat, by omega⟩
        obtain ⟨v, e3, e4⟩ := mono_eq hc hp (x := p) (y := q) (by omega) (by omega)
        simp only [ex, ey, Bool.not_true, Bool.false_eq_true, if_false, e3, e4, Option.bind_some]
        exact ⟨_, rfl, rfl⟩
      · have ey : (decide (y ≥ 0) && decide (y ≤ (V.length : Int) - 1)) = false := by
          cases hh : (decide (y ≥ 0) && decide (y ≤ (V.length : Int) - 1)) with
          | false => rfl
          | true => exact absurd (by simpa using hh) hy
        simp only [ex, ey, Bool.not_true, Bool.not_false, Bool.false_eq_true, if_false, if_true, Option.bind_some]
        exact ⟨_, rfl, rfl⟩
    · have ex : (decide (x ≥ 0) && decide (x ≤ (V.length : Int) - 1)) = false := by
        cases hh : (decide (x ≥ 0) && decide (x ≤ (V.length : Int) - 1)) with
        | false => rfl
        | true => exact absurd (by simpa using hh) hx
      simp only [ex, Bool.not_false, if_true, Option.bind_some]
      exact ⟨_, rfl, rfl⟩
theorem plain_FnExactMonodromyNumber (aB_Cocycle_Orders : (List Int)) (aB_Cocycle_Modulus : Int) (aB_Cocycle_Values : (List (List (List Int)))) (aB_Values : (List (List Int))) (aX : Int) (aY : Int) (h0 : Good1 .i64 aB_Cocycle_Orders) (h1 : InR .i64 aB_Cocycle_Modulus) (h2 : Good3 .i64 aB_Cocycle_Values) (h3 : Good2 .i64 aB_Values) (h4 : InR .i64 aX) (h5 : InR .i64 aY) : p_laws_FnExactMonodromyNumber aB_Cocycle_Orders aB_Cocycle_Modulus aB_Cocycle_Values aB_Values aX aY = some true := by
  unfold p_laws_FnExactMonodromyNumber
  obtain ⟨r, e, hr⟩ := szBraiding_spec (m := aB_Cocycle_Modulus) h0 h2 h3
  rw [e]
  simp only [Option.bind_some]
  by_cases hr0 : r < 0
  · simp [hr0]
  · obtain ⟨et, ho, _, _⟩ := hr (by omega)
    obtain ⟨x, e1, e2⟩ := monoNumber_eq (o := aB_Cocycle_Orders) (m := aB_Cocycle_Modulus) (V := aB_Cocycle_Values) (c := aB_Values) ho aX aY
    simp only [hr0, decide_false, Bool.false_eq_true, if_false, et, Option.bind_some, e1, e2, eqBraiding_self]
    simp
end Go.VG
