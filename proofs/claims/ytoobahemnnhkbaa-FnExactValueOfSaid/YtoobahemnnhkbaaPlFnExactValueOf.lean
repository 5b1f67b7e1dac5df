/- The plain law of FnExactValueOf: the code's answer is the model's. No condition but the readings'. -/
import Derived.Test.YtoobahemnnhkbaaPlPair
set_option linter.all false
namespace Go.VG
theorem valueOf_eq (T : List (List (List Int))) (x v : List Int) : ∃ r, p_spec_ValueOf T x v = some r ∧ p_impl_ValueOf T x v = some r := by
  classical
  unfold p_spec_ValueOf p_impl_ValueOf
  obtain ⟨c, e1, e2, hc⟩ := code_eq T
  by_cases h0 : c = 0
  · subst h0
    obtain ⟨h, _⟩ := hc.1 rfl
    rw [list_eq h.cube true [x] (by simp) e1, list_eq h.cube false [v] (by simp) e1, chrCode_eq h.cube [x] [v] (by simp) e2]
    have q1 : (∀ j, j < [x].length → PgL T true ([x].getD j [])) ↔ (GoodL T x ∧ ChrOK T x) := by
      constructor
      · intro hh; have := hh 0 (by simp); exact ⟨this.1, this.2 rfl⟩
      · intro hh j hj
        have : j = 0 := by simp at hj; exact hj
        subst this; exact ⟨hh.1, fun _ => hh.2⟩
    have q2 : (∀ j, j < [v].length → PgL T false ([v].getD j [])) ↔ GoodL T v := by
      constructor
      · intro hh; exact (hh 0 (by simp)).1
      · intro hh j hj
        have : j = 0 := by simp at hj; exact hj
        subst this; exact ⟨hh, fun h => by cases h⟩
    have q3 : ((∀ y ∈ [x], GoodL T y ∧ ChrOK T y) ∧ ∀ y ∈ [v], GoodL T y) ↔ ((GoodL T x ∧ ChrOK T x) ∧ GoodL T v) := by simp
    by_cases hx : GoodL T x ∧ ChrOK T x
    · by_cases hv : GoodL T v
      · rw [if_pos (q1.2 hx), if_pos (q2.2 hv), if_pos (q3.2 ⟨hx, hv⟩)]
        have hp : ∀ k, k < x.length → 0 ≤ x.getD k 0 * v.getD k 0 ∧ x.getD k 0 * v.getD k 0 ≤ 4000000000 := fun k hk => by
          have := prod_small (hx.1.2 k hk) (hv.2 k (by rw [hv.1, ← hx.1.1]; exact hk)) (by decide)
          exact ⟨this.1, this.2.1⟩
        have hl : x.length = v.length := by rw [hx.1.1, hv.1]
        have hn := h.cube.1.2
        have d1 := specDot hl hp
        have d2 := implDot hl (by rw [hx.1.1]; omega) hp
        exact ⟨(dotM x v, 0), by simp [d1], by simp [d2]⟩
      · rw [if_pos (q1.2 hx), if_neg (fun hh => hv (q2.1 hh)), if_neg (fun hh => hv (q3.1 hh).2)]
        exact ⟨(0, 2), rfl, rfl⟩
    · rw [if_neg (fun hh => hx (q1.1 hh)), if_neg (fun hh => hx (q3.1 hh).1)]
      exact ⟨(0, 2), rfl, rfl⟩
  · rw [list_off true [x] e1 h0, chrCode_off [x] [v] e2 h0]
    exact ⟨(0, c), by simp [h0], by simp [h0]⟩
theorem plain_FnExactValueOf (aR_Table : (List (List (List Int)))) (aX : (List Int)) (aV : (List Int)) (h0 : Good3 .i64 aR_Table) (h1 : Good1 .i64 aX) (h2 : Good1 .i64 aV) : p_laws_FnExactValueOf aR_Table aX aV = some true := by
  unfold p_laws_FnExactValueOf
  by_cases hl : (aX.length : Int) > 1048576
  · simp [hl]
  · by_cases hl2 : (aV.length : Int) > 1048576
    · simp [hl, hl2]
    · simp only [hl, hl2, decide_false, Bool.false_eq_true, if_false]
      obtain ⟨r, e, hr, hs⟩ := szRing_spec aR_Table 1048576 (by decide) (by decide) h0
      rw [e]
      simp only [Option.bind_some]
      by_cases hr0 : r < 0
      · simp [hr0]
      · simp only [hr0, decide_false, Bool.false_eq_true, if_false]
        obtain ⟨x, e1, e2⟩ := valueOf_eq aR_Table aX aV
        simp only [toRing_eq aR_Table hs (by omega), toInt64S_eq aX (by omega), toInt64S_eq aV (by omega), Option.bind_some, e1, e2, eqRing_self, eqS_self]
        simp
end Go.VG
