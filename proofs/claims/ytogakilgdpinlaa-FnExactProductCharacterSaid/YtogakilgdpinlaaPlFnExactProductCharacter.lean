/- The plain law of FnExactProductCharacter. No condition but the readings'. -/
import Derived.Test.YtogakilgdpinlaaPlChar
import Derived.Test.YtogakilgdpinlaaPlMark
set_option linter.all false
namespace Go.VG
theorem isList_says (T : List (List (List Int))) (x : List Int) : Says (p_impl_Ring_isList T x) (x.length = T.length ∧ NumOK x) := by
  unfold p_impl_Ring_isList
  refine Says.congr (Says.id (Says.and fun _ => Says.id (implNums x))) ?_
  simp only [beq_iff_eq]
  exact ⟨fun h => ⟨by have := h.1; omega, h.2⟩, fun h => ⟨by have := h.1; omega, h.2⟩⟩
theorem specChr_off {T : List (List (List Int))} {x : List Int} (h : ¬ (x.length = T.length ∧ NumOK x)) : p_spec_l08Is T x = some false := by
  unfold p_spec_l08Is
  by_cases hl : x.length = T.length
  · have e : ((x.length : Int) != (T.length : Int)) = false := by simp [hl]
    obtain ⟨b, e2, hb⟩ := specNums x
    have hb' : b = false := by cases b with | false => rfl | true => exact absurd ⟨hl, hb.1 rfl⟩ h
    subst hb'
    simp only [e, Bool.false_eq_true, if_false, e2, Option.bind_some, Bool.not_false, if_true]
  · have e : ((x.length : Int) != (T.length : Int)) = true := by simp only [bne_iff_ne, ne_eq]; omega
    simp only [e, if_true, Option.bind_some]
/-- The model's one test beside the code's two. -/
theorem chr_two {T : List (List (List Int))} (h : Cube T) (x : List Int) : (p_spec_l08Is T x = some false ∧ p_impl_Ring_isList T x = some false) ∨ (p_impl_Ring_isList T x = some true ∧ x.length = T.length ∧ ∃ b, p_spec_l08Is T x = some b ∧ p_impl_Ring_isCharacter T x = some b) := by
  obtain ⟨b, e, hb⟩ := isList_says T x
  cases b
  · exact .inl ⟨specChr_off (fun hh => by have := hb.2 hh; cases this), e⟩
  · have hh := hb.1 rfl
    obtain ⟨b, e4, hb4⟩ := specChr h hh.1 hh.2
    have e5 : p_impl_Ring_isCharacter T x = some b := by rw [← e4]; exact (implChr h hh.1 hh.2).eq (specChr h hh.1 hh.2)
    exact .inr ⟨e, hh.1, b, e4, e5⟩
theorem prod_loop (x y : List Int) (hx : x.length ≤ 16) (hy : y.length ≤ 16) : ∃ l, forN (R := Unit) (fun k s => p_spec_ProductCharacter_L1 x y k s) x.length 0 [] = some (.fin l) ∧ forN (R := Unit) (fun k s => p_impl_ProductCharacter_L1 x y k s) x.length 0 [] = some (.fin l) ∧ l.length = x.length * y.length := by
  rw [forN_congr (b := fun k s => p_spec_ProductCharacter_L1 x y k s) (b' := fun k s => p_impl_ProductCharacter_L1 x y k s) x.length 0 [] (fun i s hi => by
    have hi : i < x.length := by omega
    simp only [p_spec_ProductCharacter_L1, p_impl_ProductCharacter_L1, idx_getD x 0 hi, Option.bind_some]
    rw [forN_congr (b := fun k s => p_spec_ProductCharacter_L2 x i y k s) (b' := fun k s => p_impl_ProductCharacter_L2 y (x.getD i 0) k s) y.length 0 s (fun j s hj => by
      have hj : j < y.length := by omega
      simp only [p_spec_ProductCharacter_L2, p_impl_ProductCharacter_L2, idx_getD x 0 hi, Option.bind_some])])]
  obtain ⟨l, e, h⟩ := forN_inv (R := Unit) (body := fun k s => p_impl_ProductCharacter_L1 x y k s) (N := x.length) (s := []) (fun j s => s.length = j * y.length) (by simp) (fun i s hi hs => by
    simp only [p_impl_ProductCharacter_L1, idx_getD x 0 hi, Option.bind_some]
    have hb : i * y.length ≤ 16 * 16 := Nat.mul_le_mul (by omega) hy
    obtain ⟨l, e, h⟩ := forN_inv (R := Unit) (body := fun k s => p_impl_ProductCharacter_L2 y (x.getD i 0) k s) (N := y.length) (s := s) (fun j s => s.length = i * y.length + j) (by simpa using hs) (fun j s hj hs => by
      simp only [p_impl_ProductCharacter_L2, idx_getD y 0 hj, Option.bind_some]
      have ea : appL s [(w64 (x.getD i 0 * y.getD j 0)).tmod 55441] = some (s ++ [(w64 (x.getD i 0 * y.getD j 0)).tmod 55441]) := by simp [appL]; omega
      rw [ea]
      exact ⟨_, rfl, by simp; omega⟩)
    rw [e]
    exact ⟨l, rfl, by rw [h, Nat.add_mul, Nat.one_mul]⟩)
  exact ⟨l, e, e, h⟩
theorem productChr_eq (T U : List (List (List Int))) (x y : List Int) : ∃ r, p_spec_ProductCharacter T U x y = some r ∧ p_impl_ProductCharacter T U x y = some r ∧ (r.1.length : Int) ≤ 256 := by
  unfold p_spec_ProductCharacter p_impl_ProductCharacter
  obtain ⟨b1, e1, hb1⟩ := specIs (T := T)
  have f1 : p_impl_IsRing T = some b1 := by rw [← e1]; exact (implIs.eq specIs)
  obtain ⟨b2, e2, hb2⟩ := specIs (T := U)
  have f2 : p_impl_IsRing U = some b2 := by rw [← e2]; exact (implIs.eq specIs)
  rw [e1, f1, e2, f2]
  simp only [Option.bind_some]
  cases b1
  · exact ⟨([], 1), rfl, rfl, by simp⟩
  cases b2
  · exact ⟨([], 1), rfl, rfl, by simp⟩
  have c1 := (hb1.1 rfl).cube
  have c2 := (hb2.1 rfl).cube
  obtain ⟨b3, e3, _⟩ := spec_comm c1
  have f3 : p_impl_Ring_isCommutative T = some b3 := by rw [← e3]; exact ((impl_comm c1).eq (spec_comm c1))
  obtain ⟨b4, e4, _⟩ := spec_comm c2
  have f4 : p_impl_Ring_isCommutative U = some b4 := by rw [← e4]; exact ((impl_comm c2).eq (spec_comm c2))
  simp only [Bool.not_true, Bool.false_eq_true, if_false, Option.bind_some, e3, f3, e4, f4]
  cases b3
  · exact ⟨([], 5), rfl, rfl, by simp⟩
  cases b4
  · exact ⟨([], 5), rfl, rfl, by simp⟩
  simp only [Bool.not_true, Bool.false_eq_true, if_false, Option.bind_some]
  rcases chr_two c1 x with ⟨g1, k1⟩ | ⟨k1, hxl, bx, g1, j1⟩
  · simp only [g1, k1, Bool.not_false, if_true, Option.bind_some]
    exact ⟨([], 2), rfl, rfl, by simp⟩
  rcases chr_two c2 y with ⟨g2, k2⟩ | ⟨k2, hyl, b6, g2, j2⟩
  · cases bx <;> (simp only [g1, k1, g2, k2, Bool.not_false, Bool.not_true, Bool.false_eq_true, if_true, if_false, Option.bind_some]; exact ⟨([], 2), rfl, rfl, by simp⟩)
  cases bx
  · simp only [g1, k1, k2, j1, Bool.not_false, Bool.not_true, Bool.false_eq_true, if_true, if_false, Option.bind_some]
    exact ⟨([], 2), rfl, rfl, by simp⟩
  cases b6
  · simp only [g1, k1, g2, k2, j1, j2, Bool.not_false, Bool.not_true, Bool.false_eq_true, if_true, if_false, Option.bind_some]
    exact ⟨([], 2), rfl, rfl, by simp⟩
  have n1 := c1.1.2
  have n2 := c2.1.2
  obtain ⟨l, l1, l2, l3⟩ := prod_loop x y (by omega) (by omega)
  simp only [g1, k1, g2, k2, j1, j2, Bool.not_true, Bool.false_eq_true, if_false, Option.bind_some, l1, l2, onRes]
  refine ⟨_, rfl, rfl, ?_⟩
  have : x.length * y.length ≤ 16 * 16 := Nat.mul_le_mul (by omega) (by omega)
  show (l.length : Int) ≤ 256
  omega
theorem plain_FnExactProductCharacter (aR_Table : (List (List (List Int)))) (aS_Table : (List (List (List Int)))) (aX : (List Int)) (aY : (List Int)) (h0 : Good3 .i64 aR_Table) (h1 : Good3 .i64 aS_Table) (h2 : Good1 .i64 aX) (h3 : Good1 .i64 aY) : p_laws_FnExactProductCharacter aR_Table aS_Table aX aY = some true := by
  unfold p_laws_FnExactProductCharacter
  by_cases hx : (aX.length : Int) > 1048576
  · simp [hx]
  by_cases hy : (aY.length : Int) > 1048576
  · simp [hy]
  simp only [hx, hy, decide_false, Bool.false_eq_true, if_false]
  obtain ⟨r, e, hr, hs⟩ := szRing_spec aR_Table 1048576 (by decide) (by decide) h0
  rw [e]
  simp only [Option.bind_some]
  by_cases hr0 : r < 0
  · simp [hr0]
  simp only [hr0, decide_false, Bool.false_eq_true, if_false]
  have hr1 : r ≤ 1048576 := hs.1
  obtain ⟨r2, e2, hr2, hs2⟩ := szRing_spec aS_Table r (by omega) hr1 h1
  rw [e2]
  simp only [Option.bind_some]
  by_cases hr3 : r2 < 0
  · simp [hr3]
  simp only [hr3, decide_false, Bool.false_eq_true, if_false]
  have hs2' : Sz3 aS_Table 1048576 r2 := ⟨by have := hs2.1; omega, fun hh => by
    obtain ⟨q1, q2⟩ := hs2.2 hh
    exact ⟨by omega, fun x hx => ⟨by have := (q2 x hx).1; omega, fun y hy => by have := (q2 x hx).2 y hy; omega⟩⟩⟩
  obtain ⟨x, g1, g2, g3⟩ := productChr_eq aR_Table aS_Table aX aY
  obtain ⟨m1, q1, e4, e5, e6⟩ := markRing_ok aR_Table 1 hs (by omega) (by decide) (by decide)
  obtain ⟨m2, q2, e7, e8, e9⟩ := markRing_ok aS_Table q1 hs2' (by omega) (by omega) (by omega)
  obtain ⟨lx, e10, _, _⟩ := markS_held aX q2 (by omega) (by omega)
  obtain ⟨ly, e11, _, _⟩ := markS_held aY (q2 + aX.length) (by omega) (by omega)
  obtain ⟨l, e12, e13, e14⟩ := markS_held x.1 1 (by decide) (by omega)
  have hq : ¬ (q2 + (aX.length : Int) + (aY.length : Int)) < 0 := by omega
  have hp : ¬ (1 + (x.1.length : Int)) < 0 := by omega
  simp only [toRing_eq aR_Table hs (by omega), toRing_eq aS_Table hs2' (by omega), toInt64S_eq aX (by omega), toInt64S_eq aY (by omega), Option.bind_some, g1, g2, eqRing_self, eqS_self, e4, e7, e10, e11, e12, e14]
  simp [hq, hp]
end Go.VG
