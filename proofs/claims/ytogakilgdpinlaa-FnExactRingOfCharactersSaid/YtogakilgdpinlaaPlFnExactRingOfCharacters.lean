/- The plain law of FnExactRingOfCharacters. No condition but the readings'. -/
import Derived.Test.YtogakilgdpinlaaPlChar
import Derived.Test.YtogakilgdpinlaaPlMark
import Derived.Test.YtogakilgdpinlaaPlLoops
import Derived.Test.YtogakilgdpinlaaPlCube
import Derived.Test.YtogakilgdpinlaaPlHeld3
set_option linter.all false
namespace Go.VG

/-! ### Powers -/

theorem pow_ok : ∀ (N : Nat) (a k r : Int), k.toNat ≤ N → (0 ≤ a ∧ a ≤ 55440) → 0 ≤ k ∧ k ≤ 1000000 → (0 ≤ r ∧ r ≤ 55440) → ∃ (n : Nat) (a' r' : Int), iterW (R := Unit) (fun s : Int × Int × Int => p_impl_power_L1 s.1 s.2.1 s.2.2) n (a, k, r) = some (.fin (a', 0, r')) ∧ 0 ≤ r' ∧ r' ≤ 55440 := by
  intro N
  induction N with
  | zero =>
    intro a k r hk ha hk0 hr
    obtain rfl : k = 0 := by omega
    refine ⟨1, a, r, iterN_brk ?_, hr.1, hr.2⟩
    have e : decide ((0 : Int) > 0) = false := rfl
    simp only [p_impl_power_L1, e, Bool.false_eq_true, if_false]
  | succ N ih =>
    intro a k r hk ha hk0 hr
    by_cases hz : k = 0
    · subst hz
      refine ⟨1, a, r, iterN_brk ?_, hr.1, hr.2⟩
      have e : decide ((0 : Int) > 0) = false := rfl
      simp only [p_impl_power_L1, e, Bool.false_eq_true, if_false]
    · have e : decide (k > 0) = true := decide_eq_true (by omega)
      have p1 := prod_small (a := a) (b := a) (A := 55440) (B := 55440) ha ha (by decide)
      have p2 := prod_small (a := r) (b := a) (A := 55440) (B := 55440) hr ha (by decide)
      have m1 := Int.emod_nonneg (a * a) (b := 55441) (by decide)
      have m2 := Int.emod_lt_of_pos (a * a) (b := 55441) (by decide)
      have m3 := Int.emod_nonneg (r * a) (b := 55441) (by decide)
      have m4 := Int.emod_lt_of_pos (r * a) (b := 55441) (by decide)
      have d1 : k.tdiv 2 = k / 2 := Int.tdiv_eq_ediv_of_nonneg hk0.1
      · have ew : w64 (k.tdiv 2) = k / 2 := by rw [d1]; exact w64_small (by omega) (by omega)
        by_cases ho : (k.tmod 2 == 1) = true
        · obtain ⟨n, a', r', e1, h1, h2⟩ := ih ((a * a) % 55441) (k / 2) ((r * a) % 55441) (by omega) ⟨m1, by omega⟩ (by omega) ⟨m3, by omega⟩
          refine ⟨n + 1, a', r', ?_, h1, h2⟩
          rw [iterN_next (s' := ((a * a) % 55441, k / 2, (r * a) % 55441)) (by
            simp only [p_impl_power_L1, e, if_true, ho, Option.bind_some, p1.2.2, p2.2.2, ew, tmod_eq p1.1, tmod_eq p2.1])]
          exact e1
        · obtain ⟨n, a', r', e1, h1, h2⟩ := ih ((a * a) % 55441) (k / 2) r (by omega) ⟨m1, by omega⟩ (by omega) hr
          refine ⟨n + 1, a', r', ?_, h1, h2⟩
          rw [iterN_next (s' := ((a * a) % 55441, k / 2, r)) (by
            simp only [p_impl_power_L1, e, if_true, ho, Bool.false_eq_true, if_false, Option.bind_some, p1.2.2, ew, tmod_eq p1.1])]
          exact e1
theorem inv_ok {a : Int} (ha : 0 ≤ a ∧ a ≤ 55440) : ∃ r, p_spec_l01Inv a = some r ∧ p_impl_divide 1 a = some r ∧ 0 ≤ r ∧ r ≤ 55440 := by
  obtain ⟨n, a', r, e, h1, h2⟩ := pow_ok 55439 a 55439 1 (by decide) ha (by decide) (by decide)
  have e2 : p_impl_power a 55439 = some r := by
    unfold p_impl_power
    rw [whileC_of e]
    rfl
  have e3 : p_spec_l01Pow a 55439 = some r := e2
  refine ⟨r, ?_, ?_, h1, h2⟩
  · unfold p_spec_l01Inv; rw [e3]; rfl
  · unfold p_impl_divide
    rw [e2]
    simp only [Option.bind_some, Int.one_mul]
    rw [w64_small (by omega) (by omega), tmod_eq h1, Int.emod_eq_of_lt h1 (by omega)]

/-! ### The tables -/

def DualsOK (n : Nat) (d : List Int) : Prop := d.length = n ∧ ∀ k, k < n → (0 ≤ d.getD k 0 ∧ d.getD k 0 ≤ (n : Int) - 1) ∧ d.getD (d.getD k 0).toNat 0 = k
def RowsOK (t : List (List Int)) : Prop := ∀ i, i < t.length → (t.getD i []).length = t.length ∧ NumOK (t.getD i [])
section
variable {t : List (List Int)} {d : List Int} {n : Nat}
theorem specDualsOK (hn : 1 ≤ n ∧ n ≤ 16) : Says (p_spec_l08Duals (n : Int) d) (DualsOK n d) := by
  unfold p_spec_l08Duals
  by_cases hl : d.length = n
  · have e : ((d.length : Int) != (n : Int)) = false := by simp [hl]
    have ew : w64 ((n : Int) - 1) = (n : Int) - 1 := w64_small (by omega) (by omega)
    simp only [e, Bool.false_eq_true, if_false, Int.toNat_natCast]
    have c1 := forN_chk (R := Bool) (Bad := fun r => r = false) (body := fun k s => p_spec_l08Duals_L1 d (n : Int) k) (N := n) (P := fun k => 0 ≤ d.getD k 0 ∧ d.getD k 0 ≤ (n : Int) - 1) fun k hk _ => by
      simp only [p_spec_l08Duals_L1, p_spec_l01In, idx_getD d 0 (show k < d.length by omega), Option.bind_some, ew]
      exact ChkC.congr (ChkC.ite rfl) (by simp)
    rcases c1 with ⟨h1, e1⟩ | ⟨h1, r, e1, rfl⟩
    · rw [e1]
      simp only [Option.bind_some, onRes]
      refine Says.congr (Chk.says (forN_chk (P := fun k => d.getD (d.getD k 0).toNat 0 = k) fun k hk _ => ?_)) ⟨fun h => ⟨hl, fun k hk => ⟨h1 k hk, h k hk⟩⟩, fun h k hk => (h.2 k hk).2⟩
      have := h1 k hk
      simp only [p_spec_l08Duals_L2, idx_getD d 0 (show k < d.length by omega), idx_toNat d 0 (i := d.getD k 0) (by omega) (by omega), Option.bind_some]
      exact ChkC.congr (ChkC.ite rfl) (by simp)
    · rw [e1]
      exact ⟨false, rfl, ⟨fun h => (by cases h), fun h => absurd (fun k hk => (h.2 k hk).1) h1⟩⟩
  · have e : ((d.length : Int) != (n : Int)) = true := by simp only [bne_iff_ne, ne_eq]; omega
    simp only [e, if_true]
    exact ⟨false, rfl, ⟨fun h => (by cases h), fun h => absurd h.1 hl⟩⟩
theorem implDualsOK (hn : 1 ≤ n ∧ n ≤ 16) (hl : d.length = n) : Says (p_impl_areDuals d (n : Int)) (DualsOK n d) := by
  unfold p_impl_areDuals
  have ew : w64 ((n : Int) - 1) = (n : Int) - 1 := w64_small (by omega) (by omega)
  have c1 := forN_chk (R := Bool) (Bad := fun r => r = false) (body := fun k s => p_impl_areDuals_L1 d (n : Int) k) (N := d.length) (P := fun k => (0 ≤ d.getD k 0 ∧ d.getD k 0 ≤ (n : Int) - 1) ∧ d.getD (d.getD k 0).toNat 0 = k) fun k hk _ => by
    simp only [p_impl_areDuals_L1, p_impl_within, idx_getD d 0 hk, Option.bind_some, ew]
    by_cases hr : 0 ≤ d.getD k 0 ∧ d.getD k 0 ≤ (n : Int) - 1
    · have er : (decide (d.getD k 0 ≥ 0) && decide (d.getD k 0 ≤ (n : Int) - 1)) = true := by simpa using hr
      simp only [er, Bool.not_true, Bool.false_eq_true, if_false, idx_toNat d 0 (i := d.getD k 0) (by omega) (by omega), Option.bind_some]
      exact ChkC.congr (ChkC.ite rfl) (by rw [bne_eq_false_iff_eq]; exact ⟨fun h => ⟨hr, h⟩, fun h => h.2⟩)
    · have er : (decide (d.getD k 0 ≥ 0) && decide (d.getD k 0 ≤ (n : Int) - 1)) = false := by
        cases hh : (decide (d.getD k 0 ≥ 0) && decide (d.getD k 0 ≤ (n : Int) - 1)) with
        | false => rfl
        | true => exact absurd (by simpa using hh) hr
      simp only [er, Bool.not_false, if_true, Option.bind_some]
      exact .inr ⟨fun h => hr h.1, false, rfl, rfl⟩
  have el : ((d.length : Int) == (n : Int)) = true := by simp [hl]
  rcases c1 with ⟨h1, e1⟩ | ⟨h1, r, e1, rfl⟩
  · rw [e1]
    simp only [Option.bind_some, onRes, el]
    exact ⟨true, rfl, ⟨fun _ => ⟨hl, fun k hk => h1 k (by omega)⟩, fun _ => rfl⟩⟩
  · rw [e1]
    exact ⟨false, rfl, ⟨fun h => (by cases h), fun h => absurd (fun k hk => h.2 k (by omega)) h1⟩⟩
theorem specRows : Chk (forN (fun k s => p_spec_RingOfCharacters_L1 t k) t.length 0 ()) (RowsOK t) (fun r => r = ([], 2)) := by
  refine forN_chk fun i hi _ => ?_
  simp only [p_spec_RingOfCharacters_L1, idx_getD t [] hi, Option.bind_some]
  obtain ⟨b, e, hb⟩ := specNums (t.getD i [])
  by_cases hl : (t.getD i []).length = t.length
  · have e1 : (((t.getD i []).length : Int) != (t.length : Int)) = false := by rw [hl]; simp
    simp only [e1, Bool.false_eq_true, if_false, e, Option.bind_some]
    cases b
    · exact .inr ⟨fun h => absurd (hb.2 h.2) (by simp), _, rfl, rfl⟩
    · exact .inl ⟨⟨hl, hb.1 rfl⟩, rfl⟩
  · have e1 : (((t.getD i []).length : Int) != (t.length : Int)) = true := by simp only [bne_iff_ne, ne_eq]; omega
    simp only [e1, if_true, Option.bind_some]
    exact .inr ⟨fun h => hl h.1, _, rfl, rfl⟩
theorem implRows : Says (p_slices_ContainsFunc_LLint64_Lint64 t (fun a0 => p_impl_RingOfCharacters_c1 a0 (t.length : Int))) (¬ RowsOK t) := by
  refine Says.congr (indexFunc_l (Q := fun i => ¬ ((t.getD i []).length = t.length ∧ NumOK (t.getD i []))) fun i hi => ?_) ?_
  · simp only [p_impl_RingOfCharacters_c1]
    refine Says.id ?_
    by_cases hl : (t.getD i []).length = t.length
    · have e1 : (((t.getD i []).length : Int) != (t.length : Int)) = false := by rw [hl]; simp
      simp only [e1, Bool.false_eq_true, if_false]
      exact Says.congr (Says.not (implNums _)) ⟨fun h hh => h hh.2, fun h hh => h ⟨hl, hh⟩⟩
    · have e1 : (((t.getD i []).length : Int) != (t.length : Int)) = true := by simp only [bne_iff_ne, ne_eq]; omega
      simp only [e1, if_true]
      exact ⟨true, rfl, ⟨fun _ h => hl h.1, fun _ => rfl⟩⟩
  · constructor
    · rintro ⟨i, hi, h⟩ hh
      exact h (hh i hi)
    · intro h
      apply Classical.byContradiction
      intro hc
      exact h fun i hi => Classical.byContradiction fun h2 => hc ⟨i, hi, h2⟩

/-! ### The weights -/

def turned (d x : List Int) : List Int := (List.range d.length).map (fun k => x.getD (d.getD k 0).toNat 0)
theorem turned_len {d x : List Int} : (turned d x).length = d.length := by simp [turned]
theorem turned_getD {d x : List Int} {k : Nat} (hk : k < d.length) : (turned d x).getD k 0 = x.getD (d.getD k 0).toNat 0 := by simp [turned, List.getD, List.getElem?_range hk]
section
variable (hn : 1 ≤ t.length ∧ t.length ≤ 16) (hd : DualsOK t.length d) (ht : RowsOK t)
include hn hd ht
theorem row_of {i : Nat} (hi : i < t.length) : (t.getD i []).length = t.length ∧ ∀ k, k < t.length → 0 ≤ (t.getD i []).getD k 0 ∧ (t.getD i []).getD k 0 ≤ 55440 := by
  obtain ⟨h1, h2⟩ := ht i hi
  exact ⟨h1, fun k hk => h2 k (by omega)⟩
theorem dual_lt {k : Nat} (hk : k < t.length) : (d.getD k 0).toNat < t.length ∧ idx d (k : Int) = some (d.getD k 0) := by
  have := (hd.2 k hk).1
  have hl := hd.1
  exact ⟨by omega, idx_getD d 0 (by omega)⟩
theorem pair_eq {i : Nat} (hi : i < t.length) : ∃ v, p_spec_l08Pair (t.getD i []) (t.getD i []) d = some v ∧ (p_impl_turnList d (t.getD i [])).bind (fun x43 => p_impl_dot (t.getD i []) x43) = some v ∧ 0 ≤ v ∧ v ≤ 55440 := by
  obtain ⟨hr, hv⟩ := row_of hn hd ht hi
  have hdl := hd.1
  have e1 : p_impl_turnList d (t.getD i []) = some (turned d (t.getD i [])) := by
    unfold p_impl_turnList
    rw [forN_app (R := Unit) (fun k => (t.getD i []).getD (d.getD k 0).toNat 0) (fun k hk => by
      obtain ⟨q1, q2⟩ := dual_lt hn hd ht (k := k) (by omega)
      have := (hd.2 k (by omega)).1
      simp only [p_impl_turnList_L1, q2, idx_toNat (t.getD i []) 0 (i := d.getD k 0) (by omega) (by omega), Option.bind_some]
      rw [appL_range (fun k => (t.getD i []).getD (d.getD k 0).toNat 0) (by omega)]
      rfl)]
    rfl
  have hll : (t.getD i []).length = (turned d (t.getD i [])).length := by rw [turned_len]; omega
  have hpos : ∀ k, k < (t.getD i []).length → 0 ≤ (t.getD i []).getD k 0 * (turned d (t.getD i [])).getD k 0 ∧ (t.getD i []).getD k 0 * (turned d (t.getD i [])).getD k 0 ≤ 4000000000 := by
    intro k hk
    rw [turned_getD (by omega)]
    obtain ⟨q1, q2⟩ := dual_lt hn hd ht (k := k) (by omega)
    have p := prod_small (a := (t.getD i []).getD k 0) (b := (t.getD i []).getD (d.getD k 0).toNat 0) (A := 55440) (B := 55440) (hv k (by omega)) (hv _ q1) (by decide)
    exact ⟨p.1, p.2.1⟩
  have e2 : p_spec_l08Pair (t.getD i []) (t.getD i []) d = p_spec_l01Dot (t.getD i []) (turned d (t.getD i [])) := by
    unfold p_spec_l08Pair p_spec_l01Dot
    rw [forN_congr (b := fun k s => p_spec_l08Pair_L1 (t.getD i []) d (t.getD i []) k s) (b' := fun k s => p_spec_l01Dot_L1 (t.getD i []) (turned d (t.getD i [])) k s) (t.getD i []).length 0 (0 : Int) (fun k s hk => by
      have hk' : k < t.length := by omega
      obtain ⟨q1, q2⟩ := dual_lt hn hd ht hk'
      have := (hd.2 k hk').1
      simp only [p_spec_l08Pair_L1, p_spec_l01Dot_L1, q2, idx_toNat (t.getD i []) 0 (i := d.getD k 0) (by omega) (by omega), idx_getD (t.getD i []) 0 (show k < (t.getD i []).length by omega), idx_getD (turned d (t.getD i [])) 0 (show k < (turned d (t.getD i [])).length by rw [turned_len]; omega), turned_getD (show k < d.length by omega), Option.bind_some])]
  refine ⟨dotM (t.getD i []) (turned d (t.getD i [])), ?_, ?_, ?_, ?_⟩
  · rw [e2, specDot hll hpos]
  · rw [e1]; exact implDot hll (by omega) hpos
  · exact Int.emod_nonneg _ (by decide)
  · have := Int.emod_lt_of_pos (sumN (fun k => (t.getD i []).getD k 0 * (turned d (t.getD i [])).getD k 0) (t.getD i []).length) (b := 55441) (by decide)
    unfold dotM; omega
theorem weights_rel : (forN (fun k s => p_spec_l08Ring_L1 t d k s) t.length 0 ([] : List Int) = some (.ret ([], false)) ∧ forN (fun k s => p_impl_toldRing_L1 t d k s) t.length 0 ([] : List Int) = some (.ret ([], false))) ∨
    ∃ w : List Int, (w.length = t.length ∧ ∀ k, k < t.length → 0 ≤ w.getD k 0 ∧ w.getD k 0 ≤ 55440) ∧ forN (fun k s => p_spec_l08Ring_L1 t d k s) t.length 0 ([] : List Int) = some (.fin w) ∧ forN (fun k s => p_impl_toldRing_L1 t d k s) t.length 0 ([] : List Int) = some (.fin w) := by
  have := forN_rel (b := fun k s => p_spec_l08Ring_L1 t d k s) (b' := fun k s => p_impl_toldRing_L1 t d k s) (I := fun j (s : List Int) => s.length = j ∧ ∀ k, k < j → 0 ≤ s.getD k 0 ∧ s.getD k 0 ≤ 55440) (r := ([], false)) (r' := ([], false)) t.length 0 ([] : List Int) ⟨rfl, fun k hk => by omega⟩ (fun i s _ hi hs => by
    have hi : i < t.length := by omega
    obtain ⟨v, e1, e2, v0, v1⟩ := pair_eq hn hd ht hi
    have e2' : ∃ y, p_impl_turnList d (t.getD i []) = some y ∧ p_impl_dot (t.getD i []) y = some v := by
      cases hq : p_impl_turnList d (t.getD i []) with
      | none => rw [hq] at e2; cases e2
      | some y => rw [hq] at e2; exact ⟨y, rfl, e2⟩
    obtain ⟨y, y1, y2⟩ := e2'
    obtain ⟨r, f1, f2, r0, r1⟩ := inv_ok ⟨v0, v1⟩
    have ea : appL s [r] = some (s ++ [r]) := by simp [appL]; omega
    by_cases hv : v = 0
    · have hv' : (v == 0) = true := by simpa using hv
      refine .inl ⟨?_, ?_⟩
      · simp only [p_spec_l08Ring_L1, idx_getD t [] hi, e1, Option.bind_some, hv', if_true]
      · simp only [p_impl_toldRing_L1, idx_getD t [] hi, y1, y2, Option.bind_some, hv', if_true]
    · have hv' : (v == 0) = false := by simpa using hv
      refine .inr ⟨s ++ [r], ⟨by simp [hs.1], fun k hk => ?_⟩, ?_, ?_⟩
      · by_cases hks : k < i
        · have := hs.2 k hks
          rw [List.getD_eq_getElem?_getD, List.getElem?_append_left (by omega), ← List.getD_eq_getElem?_getD]; exact this
        · obtain rfl : k = i := by omega
          rw [List.getD_eq_getElem?_getD, List.getElem?_append_right (by omega)]
          simp [hs.1, r0, r1]
      · simp only [p_spec_l08Ring_L1, idx_getD t [] hi, e1, Option.bind_some, hv', Bool.false_eq_true, if_false, f1, ea]
      · simp only [p_impl_toldRing_L1, idx_getD t [] hi, y1, y2, Option.bind_some, hv', Bool.false_eq_true, if_false, f2, ea])
  rcases this with ⟨e, e'⟩ | ⟨w, hw, e, e'⟩
  · exact .inl ⟨e, e'⟩
  · exact .inr ⟨w, by simpa using hw, e, e'⟩

/-! ### The cube -/

def termC (t : List (List Int)) (d w : List Int) (i j k e : Nat) : Int := ((t.getD e []).getD i 0 * (t.getD e []).getD j 0 % 55441) * (t.getD e []).getD (d.getD k 0).toNat 0 % 55441 * w.getD e 0
def cubeC (t : List (List Int)) (d w : List Int) (i j k : Nat) : Int := sumN (termC t d w i j k) t.length % 55441
theorem termC_ok {w : List Int} (hw : w.length = t.length ∧ ∀ k, k < t.length → 0 ≤ w.getD k 0 ∧ w.getD k 0 ≤ 55440) {i j k e : Nat} (hi : i < t.length) (hj : j < t.length) (hk : k < t.length) (he : e < t.length) :
    idx t (e : Int) = some (t.getD e []) ∧ idx (t.getD e []) (i : Int) = some ((t.getD e []).getD i 0) ∧ idx (t.getD e []) (j : Int) = some ((t.getD e []).getD j 0) ∧ idx d (k : Int) = some (d.getD k 0) ∧ idx (t.getD e []) (d.getD k 0) = some ((t.getD e []).getD (d.getD k 0).toNat 0) ∧ idx w (e : Int) = some (w.getD e 0) ∧
    (w64 ((t.getD e []).getD i 0 * (t.getD e []).getD j 0)).tmod 55441 = (t.getD e []).getD i 0 * (t.getD e []).getD j 0 % 55441 ∧
    (w64 ((t.getD e []).getD i 0 * (t.getD e []).getD j 0 % 55441 * (t.getD e []).getD (d.getD k 0).toNat 0)).tmod 55441 = (t.getD e []).getD i 0 * (t.getD e []).getD j 0 % 55441 * (t.getD e []).getD (d.getD k 0).toNat 0 % 55441 ∧
    w64 (termC t d w i j k e) = termC t d w i j k e ∧ 0 ≤ termC t d w i j k e ∧ termC t d w i j k e ≤ 4000000000 := by
  obtain ⟨hr, hv⟩ := row_of hn hd ht he
  obtain ⟨q1, q2⟩ := dual_lt hn hd ht hk
  have hdk := (hd.2 k hk).1
  have p1 := prod_small (A := 55440) (B := 55440) (hv i hi) (hv j hj) (by decide)
  have m1 := Int.emod_nonneg ((t.getD e []).getD i 0 * (t.getD e []).getD j 0) (b := 55441) (by decide)
  have m2 := Int.emod_lt_of_pos ((t.getD e []).getD i 0 * (t.getD e []).getD j 0) (b := 55441) (by decide)
  have p2 := prod_small (a := (t.getD e []).getD i 0 * (t.getD e []).getD j 0 % 55441) (A := 55440) (B := 55440) ⟨m1, by omega⟩ (hv _ q1) (by decide)
  have m3 := Int.emod_nonneg ((t.getD e []).getD i 0 * (t.getD e []).getD j 0 % 55441 * (t.getD e []).getD (d.getD k 0).toNat 0) (b := 55441) (by decide)
  have m4 := Int.emod_lt_of_pos ((t.getD e []).getD i 0 * (t.getD e []).getD j 0 % 55441 * (t.getD e []).getD (d.getD k 0).toNat 0) (b := 55441) (by decide)
  have p3 := prod_small (a := (t.getD e []).getD i 0 * (t.getD e []).getD j 0 % 55441 * (t.getD e []).getD (d.getD k 0).toNat 0 % 55441) (A := 55440) (B := 55440) ⟨m3, by omega⟩ (hw.2 e he) (by decide)
  exact ⟨idx_getD t [] he, idx_getD _ 0 (by omega), idx_getD _ 0 (by omega), q2, idx_toNat _ 0 hdk.1 (by omega), idx_getD w 0 (by omega), by rw [p1.2.2, tmod_eq p1.1], by rw [p2.2.2, tmod_eq p2.1], p3.2.2, p3.1, p3.2.1⟩
omit hn hd ht in
theorem sum_mod (f : Nat → Int) : ∀ n, sumN (fun k => f k % 55441) n % 55441 = sumN f n % 55441 := by
  intro n
  induction n with
  | zero => rfl
  | succ n ih => simp only [sumN]; rw [← add_emod, ih, add_emod, Int.add_emod_emod]
theorem specCell {w : List Int} (hw : w.length = t.length ∧ ∀ k, k < t.length → 0 ≤ w.getD k 0 ∧ w.getD k 0 ≤ 55440) {i j k : Nat} (hi : i < t.length) (hj : j < t.length) (hk : k < t.length) :
    forN (R := Unit) (fun e s => p_spec_l08Ring_L5 t i j d k w e s) t.length 0 (0 : Int) = some (.fin (cubeC t d w i j k)) := by
  have := forN_det (R := Unit) (N := t.length) (body := fun e s => p_spec_l08Ring_L5 t i j d k w e s) (fun e => sumN (termC t d w i j k) e % 55441) (fun e he => by
    obtain ⟨i1, i2, i3, i4, i5, i6, c1, c2, c3, c4, c5⟩ := termC_ok hn hd ht hw hi hj hk he
    have m1 := Int.emod_nonneg (sumN (termC t d w i j k) e) (b := 55441) (by decide)
    have m2 := Int.emod_lt_of_pos (sumN (termC t d w i j k) e) (b := 55441) (by decide)
    simp only [p_spec_l08Ring_L5, i1, i2, i3, i4, i5, i6, Option.bind_some, c1, c2]
    rw [show (t.getD e []).getD i 0 * (t.getD e []).getD j 0 % 55441 * (t.getD e []).getD (d.getD k 0).toNat 0 % 55441 * w.getD e 0 = termC t d w i j k e from rfl, c3, w64_small (by omega) (by omega), tmod_eq (by omega), add_emod]
    rfl)
  exact this
theorem implCell {w : List Int} (hw : w.length = t.length ∧ ∀ k, k < t.length → 0 ≤ w.getD k 0 ∧ w.getD k 0 ≤ 55440) {i j k : Nat} (hi : i < t.length) (hj : j < t.length) (hk : k < t.length) :
    ∃ v, forN (R := Unit) (fun e s => p_impl_toldRing_L5 t i j d k w e s) t.length 0 (0 : Int) = some (.fin v) ∧ v.tmod 55441 = cubeC t d w i j k := by
  have bd : ∀ e, e ≤ t.length → 0 ≤ sumN (fun e => termC t d w i j k e % 55441) e ∧ sumN (fun e => termC t d w i j k e % 55441) e ≤ e * 55440 := by
    intro e he
    have := sumN_bd (f := fun e => termC t d w i j k e % 55441) (a := 0) (b := 55440) (n := e) (fun q _ => by
      have h1 := Int.emod_nonneg (termC t d w i j k q) (b := 55441) (by decide)
      have h2 := Int.emod_lt_of_pos (termC t d w i j k q) (b := 55441) (by decide)
      omega)
    simpa using this
  have := forN_det (R := Unit) (N := t.length) (body := fun e s => p_impl_toldRing_L5 t i j d k w e s) (fun e => sumN (fun e => termC t d w i j k e % 55441) e) (fun e he => by
    obtain ⟨i1, i2, i3, i4, i5, i6, c1, c2, c3, c4, c5⟩ := termC_ok hn hd ht hw hi hj hk he
    have b1 := bd e (by omega)
    have m1 := Int.emod_nonneg (termC t d w i j k e) (b := 55441) (by decide)
    have m2 := Int.emod_lt_of_pos (termC t d w i j k e) (b := 55441) (by decide)
    simp only [p_impl_toldRing_L5, i1, i2, i3, i4, i5, i6, Option.bind_some, c1, c2]
    rw [show (t.getD e []).getD i 0 * (t.getD e []).getD j 0 % 55441 * (t.getD e []).getD (d.getD k 0).toNat 0 % 55441 * w.getD e 0 = termC t d w i j k e from rfl, c3, tmod_eq c4, w64_small (by omega) (by omega)]
    rfl)
  refine ⟨_, this, ?_⟩
  rw [tmod_eq (bd _ (Nat.le_refl _)).1, sum_mod]
  rfl
theorem specCube2 {w : List Int} (hw : w.length = t.length ∧ ∀ k, k < t.length → 0 ≤ w.getD k 0 ∧ w.getD k 0 ≤ 55440) :
    forN (R := Unit) (fun k s => p_spec_l08Ring_L2 t d w k s) t.length 0 ([] : List (List (List Int))) = some (.fin (cubeG (cubeC t d w) t.length t.length t.length)) := by
  refine forN_app (fun i => grid (cubeC t d w i) t.length t.length) fun i hi => ?_
  have e2 : forN (R := Unit) (fun k s => p_spec_l08Ring_L3 t i d w k s) t.length 0 ([] : List (List Int)) = some (.fin (grid (cubeC t d w i) t.length t.length)) := by
    refine forN_app (rowG (cubeC t d w i) t.length) fun j hj => ?_
    have e3 : forN (R := Unit) (fun k s => p_spec_l08Ring_L4 t i j d w k s) t.length 0 ([] : List Int) = some (.fin (rowG (cubeC t d w i) t.length j)) := by
      refine forN_app (cubeC t d w i j) fun k hk => ?_
      simp only [p_spec_l08Ring_L4, specCell hn hd ht hw hi hj hk, Option.bind_some, onRes]
      rw [appL_range (cubeC t d w i j) (by omega)]
      rfl
    simp only [p_spec_l08Ring_L3, e3, Option.bind_some, onRes]
    rw [appL_range (rowG (cubeC t d w i) t.length) (by omega)]
    rfl
  simp only [p_spec_l08Ring_L2, e2, Option.bind_some, onRes]
  rw [appL_range (fun i => grid (cubeC t d w i) t.length t.length) (by omega)]
  rfl
theorem implCube2 {w : List Int} (hw : w.length = t.length ∧ ∀ k, k < t.length → 0 ≤ w.getD k 0 ∧ w.getD k 0 ≤ 55440) :
    (p_impl_emptyCube (t.length : Int)).bind (fun x110 => forN (R := Unit) (fun k s => p_impl_toldRing_L2 t d w k s) t.length 0 x110) = some (.fin (cubeG (cubeC t d w) t.length t.length t.length)) := by
  have ee : p_impl_emptyCube (t.length : Int) = some (cubeG (fun _ _ _ => 0) t.length t.length t.length) := by
    unfold p_impl_emptyCube
    rw [Int.toNat_natCast, forN_app (R := Unit) (fun _ => grid (fun _ _ => (0 : Int)) t.length t.length) (fun j hj => by
      simp only [p_impl_emptyCube_L1, p_impl_zeros]
      rw [Int.toNat_natCast, zeros_eq (by omega) (by omega) (body := fun k s => p_impl_zeros_L1 (t.length : Int) k s) (fun _ _ => rfl)]
      simp only [Option.bind_some, onRes]
      rw [appL_range (fun _ => grid (fun _ _ => (0 : Int)) t.length t.length) (by omega : j ≤ 1048576)]
      rfl)]
    rfl
  rw [ee]
  simp only [Option.bind_some]
  refine fill3 (L2 := fun i j s => p_impl_toldRing_L3 t i d w j s) (L3 := fun i j k s => p_impl_toldRing_L4 t i j d w k s) _ (cubeC t d w) (fun i hi j hj k hk g hg => ?_) (fun i hi j hj g => ?_) (fun i hi g => ?_)
  · obtain ⟨v, e, ev⟩ := implCell hn hd ht hw hi hj hk
    simp only [p_impl_toldRing_L4, e, Option.bind_some, onRes, cubeG_idx hi, grid_idx hj, rowG_idx hk, Int.toNat_natCast, ev]
    rw [cubeG_set hi hj hk]
  · simp only [p_impl_toldRing_L3]
  · simp only [p_impl_toldRing_L2]
end
end
theorem specDuals' {T : List (List (List Int))} (h : Cube T) : p_spec_l03Duals T = some (duL T) := by
  unfold p_spec_l03Duals
  rw [forN_app (R := Unit) (du T) (fun j hj => by
    simp only [p_spec_l03Duals_L1, (dual_spec h hj).1, Option.bind_some, app_range (du T) (by have := h.1.2; omega : j ≤ 1048576)])]
  rfl
theorem equalInt_says (a b : List Int) : Says (p_slices_Equal_Lint_int a b) (a = b) := eqS_says a b
/-- The two last tests. -/
theorem last_eq (C : List (List (List Int))) (d : List Int) : ∃ b, (((p_spec_l03Is C).bind fun x843 => (if (!x843) = true then some true else (p_spec_l03Commutative C).bind fun x855 => some (!x855)).bind fun (x850 : Bool) => (if x850 = true then some true else (p_spec_l03Duals C).bind fun x872 => (p_spec_l01Same x872 d).bind fun x879 => some (!x879)).bind fun (x867 : Bool) => some x867) = some b) ∧
    (((p_impl_isCube C).bind fun x158 => (if (!x158) = true then some true else (p_impl_IsRing C).bind fun x177 => some (!x177)).bind fun (x172 : Bool) => (if x172 = true then some true else (p_impl_Ring_isCommutative C).bind fun x194 => some (!x194)).bind fun (x189 : Bool) => (if x189 = true then some true else (p_impl_Ring_duals C).bind fun x211 => (p_slices_Equal_Lint_int x211 d).bind fun x218 => some (!x218)).bind fun (x206 : Bool) => some x206) = some b) := by
  obtain ⟨b1, e1, hb1⟩ := specIs (T := C)
  have f1 : p_impl_IsRing C = some b1 := by rw [← e1]; exact (implIs.eq specIs)
  obtain ⟨b0, e0, hb0⟩ := isCube_says (T := C)
  rw [e1, e0]
  simp only [Option.bind_some]
  cases b1
  · cases b0
    · exact ⟨true, by simp, by simp⟩
    · exact ⟨true, by simp, by simp [f1]⟩
  have hr := hb1.1 rfl
  have hb0' : b0 = true := hb0.2 hr.cube
  subst hb0'
  obtain ⟨b3, e3, _⟩ := spec_comm hr.cube
  have f3 : p_impl_Ring_isCommutative C = some b3 := by rw [← e3]; exact ((impl_comm hr.cube).eq (spec_comm hr.cube))
  obtain ⟨q, g1, _⟩ := equalInt_says (duL C) d
  have g2 : p_spec_l01Same (duL C) d = some q := g1
  simp only [Bool.not_true, Bool.false_eq_true, if_false, e3, f1, f3, Option.bind_some, specDuals' hr.cube, duals_eq hr.cube, g1, g2]
  cases b3 <;> exact ⟨_, rfl, rfl⟩
theorem ringOf_eq (t : List (List Int)) (d : List Int) (hd0 : (d.length : Int) ≤ 1048576) : ∃ r, p_spec_RingOfCharacters t d = some r ∧ p_impl_RingOfCharacters t d = some r ∧ r.1.length ≤ 16 ∧ ∀ x ∈ r.1, x.length ≤ 16 ∧ ∀ y ∈ x, y.length ≤ 16 := by
  unfold p_spec_RingOfCharacters p_impl_RingOfCharacters
  by_cases hn : 1 ≤ t.length ∧ t.length ≤ 16
  · have c0 : (decide ((t.length : Int) < 1) || decide ((t.length : Int) > 16)) = false := by simp only [Bool.or_eq_false_iff, decide_eq_false_iff_not]; omega
    obtain ⟨b1, e1, h1⟩ := specDualsOK (d := d) hn
    obtain ⟨b2, e2, h2⟩ := implRows (t := t)
    simp only [c0, Bool.false_eq_true, if_false, e1, e2, Option.bind_some, p_impl_within]
    by_cases hr : RowsOK t
    · have hb2 : b2 = false := by cases b2 with | false => rfl | true => exact absurd hr (h2.1 rfl)
      subst hb2
      simp only [Bool.false_eq_true, if_false]
      by_cases hl : d.length = t.length
      · have ew : (decide ((d.length : Int) ≥ (t.length : Int)) && decide ((d.length : Int) ≤ (t.length : Int))) = true := by rw [hl]; simp
        obtain ⟨b3, e3, h3⟩ := implDualsOK (d := d) hn hl
        simp only [ew, Bool.not_true, Bool.false_eq_true, if_false, e3, Option.bind_some]
        by_cases hd : DualsOK t.length d
        · have hb1 : b1 = true := h1.2 hd
          have hb3 : b3 = true := h3.2 hd
          subst hb1; subst hb3
          have hsr := specRows (t := t)
          rcases hsr with ⟨_, f1⟩ | ⟨hh, _⟩
          · have fc : forN (R := Unit) (fun k s => p_impl_RingOfCharacters_L1 d k s) d.length 0 ([] : List Int) = some (.fin d) := by
              rw [forN_app (R := Unit) (fun k => d.getD k 0) (fun k hk => by
                simp only [p_impl_RingOfCharacters_L1, idx_getD d 0 hk, Option.bind_some]
                rw [appL_range (fun k => d.getD k 0) (by omega)]
                rfl), map_range_getD]
            simp only [Bool.not_true, Bool.false_eq_true, if_false, f1, fc, Option.bind_some, onRes]
            unfold p_spec_l08Ring p_impl_toldRing
            rcases weights_rel hn hd hr with ⟨g1, g2⟩ | ⟨w, hw, g1, g2⟩
            · rw [g1, g2]
              exact ⟨([], 5), by simp [onRes], by simp [onRes], by simp, by simp⟩
            · have k1 := specCube2 hn hd hr hw
              have k2 := implCube2 hn hd hr hw
              obtain ⟨b, q1, q2⟩ := last_eq (cubeG (cubeC t d w) t.length t.length t.length) d
              have k2' : ∃ z, p_impl_emptyCube (t.length : Int) = some z ∧ forN (R := Unit) (fun k s => p_impl_toldRing_L2 t d w k s) t.length 0 z = some (.fin (cubeG (cubeC t d w) t.length t.length t.length)) := by
                cases hq : p_impl_emptyCube (t.length : Int) with
                | none => rw [hq] at k2; cases k2
                | some z => rw [hq] at k2; exact ⟨z, rfl, k2⟩
              obtain ⟨z, z1, z2⟩ := k2'
              rw [g1, g2]
              simp only [Option.bind_some, onRes, k1, z1, z2]
              generalize hC : cubeG (cubeC t d w) t.length t.length t.length = C at *
              have hsz : C.length ≤ 16 ∧ ∀ x ∈ C, x.length ≤ 16 ∧ ∀ y ∈ x, y.length ≤ 16 := by
                rw [← hC]
                refine ⟨by rw [cubeG_len]; exact hn.2, fun x hx => ?_⟩
                simp only [cubeG, List.mem_map] at hx
                obtain ⟨i, _, rfl⟩ := hx
                refine ⟨by rw [grid_len]; exact hn.2, fun y hy => ?_⟩
                simp only [grid, List.mem_map] at hy
                obtain ⟨j, _, rfl⟩ := hy
                rw [rowG_len]; exact hn.2
              refine ⟨if b = true then ([], 5) else (C, 0), ?_, ?_, ?_, ?_⟩
              · have : ∀ (o1 : Option Bool) (o2 : Bool → Option Bool) (o3 : Bool → Option Bool), (o1.bind fun x => (o2 x).bind fun y => (o3 y).bind fun z => some z) = some b →
                    ((o1.bind fun x => (o2 x).bind fun y => (o3 y).bind fun (z : Bool) => if z = true then some (([] : List (List (List Int))), false) else some (C, true)).bind fun x116 => if (!x116.2) = true then some (([] : List (List (List Int))), (5 : Int)) else some (x116.1, (0 : Int))) = some (if b = true then ([], 5) else (C, 0)) := by
                  intro o1 o2 o3 hh
                  cases o1 with
                  | none => cases hh
                  | some x =>
                    simp only [Option.bind_some] at hh ⊢
                    cases hq2 : o2 x with
                    | none => rw [hq2] at hh; cases hh
                    | some y =>
                      rw [hq2] at hh
                      simp only [Option.bind_some] at hh ⊢
                      cases hq3 : o3 y with
                      | none => rw [hq3] at hh; cases hh
                      | some zz =>
                        rw [hq3] at hh
                        simp only [Option.bind_some] at hh ⊢
                        cases hh
                        cases b <;> rfl
                exact this _ _ _ q1
              · cases hq : p_impl_isCube C with
                | none => rw [hq] at q2; cases q2
                | some x =>
                  rw [hq] at q2
                  simp only [Option.bind_some] at q2 ⊢
                  revert q2
                  generalize (if (!x) = true then some true else (p_impl_IsRing C).bind fun x177 => some (!x177)) = o1
                  intro q2
                  cases o1 with
                  | none => cases q2
                  | some y =>
                    simp only [Option.bind_some] at q2 ⊢
                    revert q2
                    generalize (if y = true then some true else (p_impl_Ring_isCommutative C).bind fun x194 => some (!x194)) = o2
                    intro q2
                    cases o2 with
                    | none => cases q2
                    | some y2 =>
                      simp only [Option.bind_some] at q2 ⊢
                      revert q2
                      generalize (if y2 = true then some true else (p_impl_Ring_duals C).bind fun x211 => (p_slices_Equal_Lint_int x211 d).bind fun x218 => some (!x218)) = o3
                      intro q2
                      cases o3 with
                      | none => cases q2
                      | some y3 =>
                        simp only [Option.bind_some] at q2 ⊢
                        cases q2
                        cases b <;> rfl
              · cases b
                · exact hsz.1
                · simp
              · cases b
                · exact hsz.2
                · simp
          · exact absurd hr hh
        · have hb1 : b1 = false := by cases b1 with | false => rfl | true => exact absurd (h1.1 rfl) hd
          have hb3 : b3 = false := by cases b3 with | false => rfl | true => exact absurd (h3.1 rfl) hd
          subst hb1; subst hb3
          simp only [Bool.not_false, if_true]
          exact ⟨([], 2), rfl, rfl, by simp, by simp⟩
      · have ew : (decide ((d.length : Int) ≥ (t.length : Int)) && decide ((d.length : Int) ≤ (t.length : Int))) = false := by
          cases hh : (decide ((d.length : Int) ≥ (t.length : Int)) && decide ((d.length : Int) ≤ (t.length : Int))) with
          | false => rfl
          | true => simp only [Bool.and_eq_true, decide_eq_true_eq] at hh; omega
        have hb1 : b1 = false := by cases b1 with | false => rfl | true => exact absurd (h1.1 rfl).1 hl
        subst hb1
        simp only [ew, Bool.not_false, if_true, Option.bind_some]
        exact ⟨([], 2), rfl, rfl, by simp, by simp⟩
    · have hb2 : b2 = true := h2.2 hr
      subst hb2
      simp only [if_true, Option.bind_some]
      cases b1
      · simp only [Bool.not_false, if_true]
        exact ⟨([], 2), rfl, rfl, by simp, by simp⟩
      · simp only [Bool.not_true, Bool.false_eq_true, if_false]
        have hsr := specRows (t := t)
        rcases hsr with ⟨hh, _⟩ | ⟨_, r, f1, rfl⟩
        · exact absurd hh hr
        · rw [f1]
          exact ⟨([], 2), rfl, rfl, by simp, by simp⟩
  · have c0 : (decide ((t.length : Int) < 1) || decide ((t.length : Int) > 16)) = true := by
      cases hh : (decide ((t.length : Int) < 1) || decide ((t.length : Int) > 16)) with
      | true => rfl
      | false => simp only [Bool.or_eq_false_iff, decide_eq_false_iff_not] at hh; omega
    simp only [c0, if_true, Option.bind_some]
    exact ⟨([], 2), rfl, rfl, by simp, by simp⟩
theorem plain_FnExactRingOfCharacters (aTable : (List (List Int))) (aDuals : (List Int)) (h0 : Good2 .i64 aTable) (h1 : Good1 .i64 aDuals) : p_laws_FnExactRingOfCharacters aTable aDuals = some true := by
  unfold p_laws_FnExactRingOfCharacters
  by_cases hl : (aDuals.length : Int) > 1048576
  · simp [hl]
  simp only [hl, decide_false, Bool.false_eq_true, if_false]
  obtain ⟨r, e, hr, hs⟩ := szInt64SS_spec aTable 1048576 (by decide) (by decide) h0.1 (fun x hx => (h0.2 x hx).1)
  rw [e]
  simp only [Option.bind_some]
  by_cases hr0 : r < 0
  · simp [hr0]
  simp only [hr0, decide_false, Bool.false_eq_true, if_false]
  obtain ⟨v1, v2⟩ := hs.2 (by omega)
  obtain ⟨x, g1, g2, g3, g4⟩ := ringOf_eq aTable aDuals (by omega)
  obtain ⟨l2, r2, e2, q1, q2⟩ := markSS_ok 1048576 (Nat.le_refl _) aTable 1 (by omega) (by omega) (fun x hx => by have := v2 x hx; omega) (by omega)
  obtain ⟨l1, e1, _, _⟩ := markS_held aDuals r2 (by omega) (by omega)
  obtain ⟨y, l, e7, e8, e9, e10⟩ := markSSS_held x.1 1 (by decide) (by omega) (fun z hz => ⟨by have := (g4 z hz).1; omega, fun u hu => by have := (g4 z hz).2 u hu; omega⟩) (by decide)
  have e11 : p_laws_markRing x.1 1 = some (y, l) := by unfold p_laws_markRing; rw [e7]; rfl
  have hy : ¬ y < 0 := by omega
  have e12 : p_laws_heldRing l 1 = some y := by unfold p_laws_heldRing; rw [e10]; simp [hy]
  have hq : ¬ (r2 + (aDuals.length : Int)) < 0 := by omega
  simp only [toInt64S_eq aDuals (by omega), toInt64SS_eq aTable v1 v2, Option.bind_some, g1, g2, eqRing_self, eqS_self, eqSS_self, e1, e2, e11, e12]
  simp [hq, hy]
end Go.VG
