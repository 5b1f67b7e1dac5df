/- The plain law of FnExactPowerOfLabel: the code's answer is the model's. No condition but the readings'. -/
import Derived.Test.YtppnedfpdobgiaaPlMul
import Derived.Test.YtppnedfpdobgiaaPlMark
set_option linter.all false
namespace Go.VG
def oneAt (n i : Nat) : List Int := (List.replicate n 0).set i 1
theorem oneAt_vb {n i : Nat} (hi : i < n) : VB n (oneAt n i) 1 := by
  refine ⟨by simp [oneAt], fun k hk => ?_⟩
  by_cases h : i = k
  · subst h
    rw [show (oneAt n i).getD i 0 = 1 from getD_set_eq _ _ _ (by simp; exact hi)]
    decide
  · rw [show (oneAt n i).getD k 0 = (List.replicate n (0 : Int)).getD k 0 from getD_set_ne _ _ _ h]
    simp [List.getD, hk]
theorem VB.up {n : Nat} {x : List Int} {X Y : Int} (h : VB n x X) (hXY : X ≤ Y) : VB n x Y := ⟨h.len, fun i hi => ⟨(h.rng i hi).1, Int.le_trans (h.rng i hi).2 hXY⟩⟩
def Big (v : List Int) : Prop := ∃ k, k < v.length ∧ 1000000000 < v.getD k 0
open Classical in
/-- m rounds of products; none where an entry grows too great. -/
noncomputable def pwR (T : List (List (List Int))) (o : List Int) : Nat → List Int → Option (List Int)
  | 0, v => some v
  | m + 1, v => if Big (mulV T v o) then none else pwR T o m (mulV T v o)

section
variable {T : List (List (List Int))}
theorem one_eq (h : Cube T) {i : Int} (h0 : 0 ≤ i) (h1 : i < T.length) : p_spec_l03One T i = some (oneAt T.length i.toNat) ∧ p_impl_Ring_vectorOf T i = some (oneAt T.length i.toNat) := by
  have hn := h.1
  have e : (mkL (T.length : Int) (0 : Int)).bind (fun x => (idx x i).bind fun y => some (x.set i.toNat (1 : Int))) = some (oneAt T.length i.toNat) := by
    rw [mkL_some' (0 : Int) (by omega)]
    simp only [Option.bind_some]
    rw [idx_toNat _ 0 h0 (by simp; omega)]
    rfl
  exact ⟨e, e⟩
theorem mulV_vb {x y : List Int} {X Y : Int} (h : Cube T) (hx : VB T.length x X) (hy : VB T.length y Y) (hb : ¬ Big (mulV T x y)) : VB T.length (mulV T x y) 1000000000 := by
  refine ⟨mulV_len T x y, fun k hk => ⟨?_, ?_⟩⟩
  · rw [show (mulV T x y).getD k 0 = prodS T x y k T.length from getD_map_range hk]
    exact (prod_bd h hx hy hk (Nat.le_refl _)).1
  · exact Int.not_lt.1 fun hc => hb ⟨k, by rw [mulV_len]; exact hk, hc⟩
theorem max_spec {x : List Int} (h : 1 ≤ x.length) : ∃ m, p_slices_Max_Lint64_int64 x = some m ∧ (∀ k, k < x.length → x.getD k 0 ≤ m) ∧ ∃ k, k < x.length ∧ x.getD k 0 = m := by
  unfold p_slices_Max_Lint64_int64
  have e : decide ((x.length : Int) < 1) = false := by simp; omega
  simp only [e, Bool.false_eq_true, if_false, Option.bind_some, idx_zero x 0 (by omega : 0 < x.length)]
  have e2 : ((x.length : Int) - 1).toNat = x.length - 1 := by omega
  rw [e2]
  obtain ⟨s, h1, h2, h3⟩ := forN_inv (R := Unit) (body := fun k s => p_slices_Max_Lint64_int64_L1 x k s) (N := x.length - 1) (s := x.getD 0 0) (fun j s => (∀ k, k < j + 1 → x.getD k 0 ≤ s) ∧ ∃ k, k < x.length ∧ x.getD k 0 = s)
    ⟨fun k hk => by have : k = 0 := by omega
                    subst this; exact Int.le_refl _, 0, by omega, rfl⟩ (fun j s hj hs => by
      have ei : (1 : Int) + (j : Int) = ((j + 1 : Nat) : Int) := by omega
      simp only [p_slices_Max_Lint64_int64_L1, ei, idx_getD x 0 (by omega : j + 1 < x.length), Option.bind_some]
      refine ⟨_, rfl, fun k hk => ?_, ?_⟩
      · have := hs.1 k
        by_cases hkj : k = j + 1
        · subst hkj; split <;> omega
        · have := this (by omega)
          split <;> omega
      · split
        · exact ⟨j + 1, by omega, rfl⟩
        · exact hs.2)
  rw [h1]
  exact ⟨s, rfl, fun k hk => h2 k (by omega), h3⟩

def resOf {S R : Type} (f : List Int → S) (r : R) : Option (List Int) → Res S R
  | some v => .fin (f v)
  | none => .ret r

theorem specPow (h : Cube T) {o : List Int} (ho : VB T.length o 1) : ∀ (m : Nat) (v : List Int), m ≤ 40 → VB T.length v 1000000000 →
    ∃ N, iterW (fun s : List Int × Int => p_spec_PowerOfLabel_L1 T o s.1 s.2) N (v, (m : Int)) = some (resOf (fun v => (v, (0 : Int))) (([] : List Int), (3 : Int)) (pwR T o m v))
  | 0, v, _, hv => ⟨1, by simp [iterW, p_spec_PowerOfLabel_L1, pwR, resOf]⟩
  | m + 1, v, hm, hv => by
    have e1 : decide (((m + 1 : Nat) : Int) > 0) = true := decide_eq_true (by omega)
    have e2 : w64 (((m + 1 : Nat) : Int) - 1) = (m : Int) := by rw [w64_small (by omega) (by omega)]; omega
    have em := specMul h hv ho (by decide)
    have chk := forN_chk (N := (mulV T v o).length) (R := List Int × Int) (Bad := fun r => r = ([], 3)) (body := fun k s => p_spec_PowerOfLabel_L2 (mulV T v o) k) (P := fun k => ¬ 1000000000 < (mulV T v o).getD k 0) fun k hk _ => by
      simp only [p_spec_PowerOfLabel_L2, idx_getD (mulV T v o) 0 hk, Option.bind_some]
      exact ChkC.congr (ChkC.ite rfl) (by simp)
    rcases chk with ⟨hp, e⟩ | ⟨hp, r, e, rfl⟩
    · have hb : ¬ Big (mulV T v o) := fun ⟨k, hk, hc⟩ => hp k hk hc
      obtain ⟨N, hN⟩ := specPow h ho m (mulV T v o) (by omega) (mulV_vb h hv ho hb)
      refine ⟨N + 1, ?_⟩
      rw [show pwR T o (m + 1) v = pwR T o m (mulV T v o) from by simp [pwR, hb]]
      exact iterW_next (s' := (mulV T v o, (m : Int))) (by simp only [p_spec_PowerOfLabel_L1, e1, if_true, em, Option.bind_some, e, onRes, e2]) hN
    · have hb : Big (mulV T v o) := Classical.byContradiction fun hc => hp fun k hk hh => hc ⟨k, hk, hh⟩
      refine ⟨1, ?_⟩
      rw [show pwR T o (m + 1) v = none from by simp [pwR, hb]]
      exact iterW_ret (by simp only [p_spec_PowerOfLabel_L1, e1, if_true, em, Option.bind_some, e, onRes])
theorem implPow (h : Cube T) {i : Int} (h0 : 0 ≤ i) (h1 : i < T.length) : ∀ (m k : Nat) (v : List Int), VB T.length v 1000000000 →
    forN (fun k s => p_impl_PowerOfLabel_L1 T i k s) m k v = some (resOf (fun v => v) (([] : List Int), (3 : Int)) (pwR T (oneAt T.length i.toNat) m v))
  | 0, k, v, hv => by simp [forN, pwR, resOf]
  | m + 1, k, v, hv => by
    have hn := h.1
    have ho : VB T.length (oneAt T.length i.toNat) 1 := oneAt_vb (by omega)
    have em := implMul h hv ho (by decide)
    obtain ⟨mx, em2, hmax, k0, hk0, hk1⟩ := max_spec (x := mulV T v (oneAt T.length i.toNat)) (by rw [mulV_len]; omega)
    by_cases hb : Big (mulV T v (oneAt T.length i.toNat))
    · have hmb : mx > 1000000000 := by obtain ⟨q, hq, hc⟩ := hb; have := hmax q hq; omega
      rw [show pwR T (oneAt T.length i.toNat) (m + 1) v = none from by simp [pwR, hb]]
      exact forN_ret1 (by simp [p_impl_PowerOfLabel_L1, (one_eq h h0 h1).2, em, em2, hmb])
    · have hmb : ¬ mx > 1000000000 := fun hc => hb ⟨k0, hk0, by omega⟩
      rw [show pwR T (oneAt T.length i.toNat) (m + 1) v = pwR T (oneAt T.length i.toNat) m (mulV T v (oneAt T.length i.toNat)) from by simp [pwR, hb]]
      rw [forN_next1 (s' := mulV T v (oneAt T.length i.toNat)) (by simp [p_impl_PowerOfLabel_L1, (one_eq h h0 h1).2, em, em2, hmb])]
      exact implPow h h0 h1 m (k + 1) _ (mulV_vb h hv ho hb)
theorem pwR_len (h : Cube T) {o : List Int} (ho : o.length = T.length) : ∀ (m : Nat) (v r : List Int), v.length = T.length → pwR T o m v = some r → r.length = T.length
  | 0, v, r, hv, e => by simp only [pwR, Option.some.injEq] at e; exact e ▸ hv
  | m + 1, v, r, hv, e => by
    simp only [pwR] at e
    split at e
    · cases e
    · exact pwR_len h ho m _ r (mulV_len ..) e

theorem pow_eq (T : List (List (List Int))) (i m : Int) : ∃ r, p_spec_PowerOfLabel T i m = some r ∧ p_impl_PowerOfLabel T i m = some r ∧ (r.1.length : Int) ≤ 16 := by
  unfold p_spec_PowerOfLabel p_impl_PowerOfLabel
  obtain ⟨b, e1, hb⟩ := specIs (T := T)
  have e2 : p_impl_IsRing T = some b := by rw [← e1]; exact (implIs.eq specIs)
  rw [e1, e2]
  cases b
  · exact ⟨_, rfl, rfl, by simp⟩
  · have hr := hb.1 rfl
    have hn := hr.cube.1
    have e3 : p_spec_l03Label T i = some (decide (i ≥ 0) && decide (i ≤ (T.length : Int) - 1)) := by
      unfold p_spec_l03Label p_spec_l01In
      rw [w64_small (by omega) (by omega)]; rfl
    have e4 : p_impl_Ring_isLabel T i = some (decide (i ≥ 0) && decide (i ≤ (T.length : Int) - 1)) := by
      unfold p_impl_Ring_isLabel p_impl_within
      rw [w64_small (by omega) (by omega)]; rfl
    simp only [Option.bind_some, Bool.not_true, Bool.false_eq_true, if_false, e3, e4, p_spec_l01In, p_impl_within]
    by_cases hi : i ≥ 0 ∧ i ≤ (T.length : Int) - 1
    · by_cases hm : m ≥ 0 ∧ m ≤ 40
      · simp only [hi.1, hi.2, hm.1, hm.2, decide_true, Bool.and_self, Bool.not_true, Bool.false_eq_true, if_false, Option.bind_some]
        have o0 := one_eq hr.cube (i := 0) (Int.le_refl _) (by omega)
        have oi := one_eq hr.cube (i := i) hi.1 (by omega)
        rw [o0.1, o0.2, oi.1]
        simp only [Option.bind_some]
        have v0 : VB T.length (oneAt T.length (0 : Int).toNat) 1000000000 := (oneAt_vb (by simp; omega)).up (by decide)
        have hoi : VB T.length (oneAt T.length i.toNat) 1 := oneAt_vb (by omega)
        have em : m = ((m.toNat : Nat) : Int) := by omega
        obtain ⟨N, hN⟩ := specPow hr.cube hoi m.toNat _ (by omega) v0
        rw [← em] at hN
        rw [whileC_of hN, implPow hr.cube hi.1 (by omega) m.toNat 0 _ v0]
        cases hp : pwR T (oneAt T.length i.toNat) m.toNat (oneAt T.length (0 : Int).toNat) with
        | none => exact ⟨([], 3), rfl, rfl, by simp⟩
        | some r => exact ⟨(r, 0), rfl, rfl, by have := pwR_len hr.cube hoi.len m.toNat _ r v0.len hp; simp only; omega⟩
      · have : (decide (m ≥ 0) && decide (m ≤ 40)) = false := by simp only [Bool.and_eq_false_iff, decide_eq_false_iff_not]; omega
        simp only [hi.1, hi.2, decide_true, Bool.and_self, Bool.not_true, Bool.false_eq_true, if_false, this, Bool.not_false, if_true, Option.bind_some]
        exact ⟨_, rfl, rfl, by simp⟩
    · have : (decide (i ≥ 0) && decide (i ≤ (T.length : Int) - 1)) = false := by simp only [Bool.and_eq_false_iff, decide_eq_false_iff_not]; omega
      simp only [this, Bool.not_false, if_true, Option.bind_some]
      exact ⟨_, rfl, rfl, by simp⟩
end
theorem plain_FnExactPowerOfLabel (aR_Table : (List (List (List Int)))) (aI : Int) (aK : Int) (h0 : Good3 .i64 aR_Table) (h1 : InR .i64 aI) (h2 : InR .i64 aK) : p_laws_FnExactPowerOfLabel aR_Table aI aK = some true := by
  unfold p_laws_FnExactPowerOfLabel
  obtain ⟨r, e, hr, hs⟩ := szRing_spec aR_Table 1048576 (by decide) (by decide) h0
  rw [e]
  simp only [Option.bind_some]
  by_cases hr0 : r < 0
  · simp [hr0]
  · simp only [hr0, decide_false, Bool.false_eq_true, if_false]
    obtain ⟨x, e1, e2, e3⟩ := pow_eq aR_Table aI aK
    obtain ⟨m, q, e4, e5, e6⟩ := markRing_ok aR_Table 1 hs (by omega) (by decide) (by decide)
    obtain ⟨l, e7, e8, e9⟩ := markS_held x.1 1 (by decide) (by omega)
    have hq : ¬ q < 0 := by omega
    have hp : ¬ (1 + (x.1.length : Int)) < 0 := by omega
    simp only [toRing_eq aR_Table hs (by omega), Option.bind_some, e1, e2, eqRing_self, eqS_self, e4, e7, e9]
    simp [hq, hp]
end Go.VG
