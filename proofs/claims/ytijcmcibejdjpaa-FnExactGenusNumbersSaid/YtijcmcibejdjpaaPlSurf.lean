/- Products within a bound, and the numbers of surfaces: model beside code. No condition. -/
import Derived.Test.YtijcmcibejdjpaaPlLoops
import Derived.Test.YtijcmcibejdjpaaPlHdl
set_option linter.all false
namespace Go.VG
theorem set_getD_self (l : List Int) {k : Nat} (h : k < l.length) : l.set k (l.getD k 0) = l := by
  rw [List.getD_eq_getElem?_getD, List.getElem?_eq_getElem h]
  exact List.set_getElem_self h
def LimOK (n : Nat) (v : List Int) : Prop := v.length = n ∧ ∀ k, k < n → 0 ≤ v.getD k 0 ∧ v.getD k 0 ≤ 1000000000000
def FacOK (n : Nat) (v : List Int) : Prop := v.length = n ∧ ∀ k, k < n → 0 ≤ v.getD k 0 ∧ v.getD k 0 ≤ 16000
theorem LimOK.set {n : Nat} {v : List Int} (h : LimOK n v) {k : Nat} {x : Int} (h0 : 0 ≤ x) (h1 : x ≤ 1000000000000) : LimOK n (v.set k x) := by
  refine ⟨by simpa using h.1, fun j hj => ?_⟩
  by_cases e : k = j
  · subst e; rw [getD_set_eq _ _ _ (by rw [h.1]; exact hj)]; exact ⟨h0, h1⟩
  · rw [getD_set_ne _ _ _ e]; exact h.2 j hj
theorem quo_lim {d : Int} (hd : 0 < d) : quoI .i64 1000000000000 d = some (1000000000000 / d) := by
  have h0 : d ≠ 0 := by omega
  simp only [quoI, ne_eq, h0, not_false_eq_true, if_true]
  rw [Int.tdiv_eq_ediv_of_nonneg (by decide)]
  have h1 : 0 ≤ 1000000000000 / d := Int.ediv_nonneg (by decide) (by omega)
  have h2 : 1000000000000 / d ≤ 1000000000000 := Int.ediv_le_self _ (by decide)
  exact congrArg some (w64_small (by omega) (by omega))
section
variable {T : List (List (List Int))} {x y : List Int}
/-- One place's numbers. -/
theorem cell_num {a b t s : Int} (ha : 0 < a ∧ a ≤ 1000000000000) (hb : 0 < b ∧ b ≤ 16000) (ht : 0 < t ∧ t ≤ 1000) (hs : 0 ≤ s ∧ s ≤ 1000000000000) (h : ¬ a > 1000000000000 / (b * t)) :
    w64 (s + w64 (w64 (a * b) * t)) = s + a * b * t ∧ 0 ≤ s + a * b * t := by
  have hbt : 0 < b * t := Int.mul_pos hb.1 ht.1
  have h1 : a * (b * t) ≤ 1000000000000 := (Int.le_ediv_iff_mul_le hbt).1 (by omega)
  rw [← Int.mul_assoc] at h1
  have hab : 0 < a * b := Int.mul_pos ha.1 hb.1
  have h2 : a * b ≤ a * b * t := by
    have := Int.mul_le_mul_of_nonneg_left (show (1 : Int) ≤ t by omega) (Int.le_of_lt hab)
    omega
  have h3 : 0 < a * b * t := Int.mul_pos hab ht.1
  generalize a * b = p at h1 h2 h3 hab ⊢
  generalize hq : p * t = q at h1 h2 h3 ⊢
  rw [w64_small (x := p) (by omega) (by omega), hq, w64_small (x := q) (by omega) (by omega), w64_small (by omega) (by omega)]
  omega
theorem bt_small {b t : Int} (hb : 0 ≤ b ∧ b ≤ 16000) (ht : 0 ≤ t ∧ t ≤ 1000) : 0 ≤ b * t ∧ b * t ≤ 16000000 := by
  refine ⟨Int.mul_nonneg hb.1 ht.1, ?_⟩
  have h1 := Int.mul_le_mul_of_nonneg_left ht.2 hb.1
  have h2 := Int.mul_le_mul_of_nonneg_right hb.2 (show (0 : Int) ≤ 1000 by decide)
  omega
theorem cell_rel (h : Cube T) (hx : LimOK T.length x) (hy : FacOK T.length y) {i j : Nat} (hi : i < T.length) (hj : j < T.length) (s : List Int) (hs : LimOK T.length s) :
    (whileC (fun s => p_spec_l15Times_L3 x i y j T s.1 s.2) (s, (0 : Int)) = some (.ret ([], false)) ∧ forN (fun k s => p_impl_Ring_limitedProduct_L3 ((T.getD i []).getD j []) (y.getD j 0) (x.getD i 0) k s) T.length 0 s = some (.ret [])) ∨
    ∃ s' : List Int, ∃ e : Int, LimOK T.length s' ∧ whileC (fun s => p_spec_l15Times_L3 x i y j T s.1 s.2) (s, (0 : Int)) = some (.fin (s', e)) ∧ forN (fun k s => p_impl_Ring_limitedProduct_L3 ((T.getD i []).getD j []) (y.getD j 0) (x.getD i 0) k s) T.length 0 s = some (.fin s') := by
  have hn := h.1
  obtain ⟨hx1, hx2⟩ := hx
  obtain ⟨hy1, hy2⟩ := hy
  obtain ⟨a0, a1⟩ := hx2 i hi
  obtain ⟨b0, b1⟩ := hy2 j hj
  have ix : idx x (i : Int) = some (x.getD i 0) := idx_getD x 0 (by omega)
  have iy : idx y (j : Int) = some (y.getD j 0) := idx_getD y 0 (by omega)
  by_cases hz : x.getD i 0 = 0 ∨ y.getD j 0 = 0
  · refine .inr ⟨s, 0, hs, ?_, ?_⟩
    · refine whileC_of (n := 1) (iterN_brk ?_)
      have hc : decide ((0 : Int) < (s.length : Int)) = true := by rw [hs.1]; simp; omega
      simp only [p_spec_l15Times_L3, hc, if_true, ix, iy, Option.bind_some]
      by_cases hxz : x.getD i 0 = 0
      · have e1 : (x.getD i 0 != 0) = false := by rw [hxz]; rfl
        simp only [e1, Bool.false_eq_true, if_false, Option.bind_some]
      · have e1 : (x.getD i 0 != 0) = true := by simpa using hxz
        have e2 : (y.getD j 0 != 0) = false := by rw [hz.resolve_left hxz]; rfl
        simp only [e1, e2, if_true, Bool.false_eq_true, if_false, Option.bind_some]
    · refine forN_det (R := List Int) (fun _ => s) (fun k hk => ?_)
      obtain ⟨t0, t1⟩ := h.rng hi hj hk
      obtain ⟨s0, s1⟩ := hs.2 k hk
      have hbt := bt_small ⟨b0, b1⟩ ⟨t0, t1⟩
      have ewt : w64 (y.getD j 0 * at3 T i j k) = y.getD j 0 * at3 T i j k := w64_small (by omega) (by omega)
      have e3 : (if decide (w64 (y.getD j 0 * at3 T i j k) > 0) = true then (quoI .i64 1000000000000 (w64 (y.getD j 0 * at3 T i j k))).bind fun q => some (decide (x.getD i 0 > q)) else some false) = some false := by
        rw [ewt]
        by_cases hp : y.getD j 0 * at3 T i j k > 0
        · simp only [hp, decide_true, if_true, quo_lim hp, Option.bind_some]
          rcases hz with hz | hz
          · rw [hz]
            have := Int.ediv_nonneg (show (0 : Int) ≤ 1000000000000 by decide) (Int.le_of_lt hp)
            exact congrArg some (decide_eq_false (by omega))
          · rw [hz] at hp; simp at hp
        · simp only [hp, decide_false, Bool.false_eq_true, if_false]
      have e4 : w64 (s.getD k 0 + w64 (w64 (x.getD i 0 * y.getD j 0) * at3 T i j k)) = s.getD k 0 := by
        rcases hz with hz | hz <;> rw [hz]
        · rw [Int.zero_mul, w64_small (x := 0) (by decide) (by decide), Int.zero_mul, w64_small (x := 0) (by decide) (by decide), Int.add_zero, w64_small (by omega) (by omega)]
        · rw [Int.mul_zero, w64_small (x := 0) (by decide) (by decide), Int.zero_mul, w64_small (x := 0) (by decide) (by decide), Int.add_zero, w64_small (by omega) (by omega)]
      have e5 : decide (s.getD k 0 > 1000000000000) = false := decide_eq_false (by omega)
      simp only [p_impl_Ring_limitedProduct_L3, h.i3 hi hj hk, Option.bind_some, e3, Bool.false_eq_true, if_false, idx_getD s 0 (show k < s.length by rw [hs.1]; exact hk), e4, Int.toNat_natCast, set_getD_self s (show k < s.length by rw [hs.1]; exact hk), e5]
  · have hxz : x.getD i 0 ≠ 0 := fun e => hz (.inl e)
    have hyz : y.getD j 0 ≠ 0 := fun e => hz (.inr e)
    have e1 : (x.getD i 0 != 0) = true := by simpa using hxz
    have e2 : (y.getD j 0 != 0) = true := by simpa using hyz
    have := whileC_up (R := List Int × Bool) (R' := List Int) (step := fun s => p_spec_l15Times_L3 x i y j T s.1 s.2) (b' := fun k s => p_impl_Ring_limitedProduct_L3 ((T.getD i []).getD j []) (y.getD j 0) (x.getD i 0) k s) (I := fun _ s => LimOK T.length s) (N := T.length) (r := ([], false)) (r' := []) (fun k s hk hs => by
      have hks : k < s.length := by rw [hs.1]; exact hk
      have hc : decide ((k : Int) < (s.length : Int)) = true := by simp; omega
      obtain ⟨t0, t1⟩ := h.rng hi hj hk
      obtain ⟨s0, s1⟩ := hs.2 k hk
      have hbt := bt_small ⟨b0, b1⟩ ⟨t0, t1⟩
      have ewt : w64 (y.getD j 0 * at3 T i j k) = y.getD j 0 * at3 T i j k := w64_small (by omega) (by omega)
      have ewk : w64 ((k : Int) + 1) = ((k + 1 : Nat) : Int) := by rw [w64_small (by omega) (by omega)]; omega
      simp only [p_spec_l15Times_L3, p_impl_Ring_limitedProduct_L3, hc, if_true, ix, iy, e1, e2, h.i1 hi, h.i2 hi hj, h.i3 hi hj hk, Option.bind_some, ewt, ewk, idx_getD s 0 hks, Int.toNat_natCast]
      by_cases htz : at3 T i j k = 0
      · refine .inr ⟨s, hs, ?_, ?_⟩
        · have e3 : (at3 T i j k == 0) = true := by simpa using htz
          simp only [e3, if_true]
        · have e5 : decide (s.getD k 0 > 1000000000000) = false := decide_eq_false (by omega)
          have e4 : w64 (s.getD k 0 + w64 (w64 (x.getD i 0 * y.getD j 0) * 0)) = s.getD k 0 := by
            rw [Int.mul_zero, w64_small (x := 0) (by decide) (by decide), Int.add_zero, w64_small (by omega) (by omega)]
          rw [htz, Int.mul_zero, e4, set_getD_self s hks]
          simp only [idx_getD s 0 hks, gt_iff_lt, Int.lt_irrefl, decide_false, Bool.false_eq_true, if_false, Option.bind_some]
          have e6 : decide ((1000000000000 : Int) < s.getD k 0) = false := decide_eq_false (by omega)
          simp only [e6, Bool.false_eq_true, if_false]
      · have hp : y.getD j 0 * at3 T i j k > 0 := Int.mul_pos (by omega) (by omega)
        have e3 : (at3 T i j k == 0) = false := by simpa using htz
        simp only [e3, Bool.false_eq_true, if_false, quo_lim hp, Option.bind_some, hp, decide_true, if_true]
        by_cases hq : x.getD i 0 > 1000000000000 / (y.getD j 0 * at3 T i j k)
        · simp only [hq, decide_true, if_true]; exact .inl ⟨trivial, trivial⟩
        · simp only [hq, decide_false, Bool.false_eq_true, if_false]
          obtain ⟨e6, e7⟩ := cell_num (a := x.getD i 0) (b := y.getD j 0) (t := at3 T i j k) (s := s.getD k 0) ⟨by omega, a1⟩ ⟨by omega, b1⟩ ⟨by omega, t1⟩ ⟨s0, s1⟩ hq
          rw [e6]
          have hks' : k < (s.set k (s.getD k 0 + x.getD i 0 * y.getD j 0 * at3 T i j k)).length := by simpa using hks
          simp only [idx_getD _ 0 hks', getD_set_eq _ _ _ hks, Option.bind_some]
          by_cases hv : s.getD k 0 + x.getD i 0 * y.getD j 0 * at3 T i j k > 1000000000000
          · simp only [hv, decide_true, if_true]; exact .inl ⟨trivial, trivial⟩
          · simp only [hv, decide_false, Bool.false_eq_true, if_false]
            exact .inr ⟨_, hs.set e7 (by omega), rfl, rfl⟩) (fun s hs => by
      have hc : decide ((T.length : Int) < (s.length : Int)) = false := by rw [hs.1]; simp
      simp only [p_spec_l15Times_L3, hc, Bool.false_eq_true, if_false, Option.bind_some]) s hs
    rcases this with ⟨e, e'⟩ | ⟨s', hs', e, e'⟩
    · exact .inl ⟨e, e'⟩
    · exact .inr ⟨s', _, hs', e, e'⟩
theorem times_rel (h : Cube T) (hx : LimOK T.length x) (hy : FacOK T.length y) :
    (p_spec_l15Times T x y = some ([], false) ∧ p_impl_Ring_limitedProduct T x y = some []) ∨ ∃ v, LimOK T.length v ∧ p_spec_l15Times T x y = some (v, true) ∧ p_impl_Ring_limitedProduct T x y = some v := by
  have hn := h.1
  unfold p_spec_l15Times p_impl_Ring_limitedProduct
  rw [hx.1, mkL_some' 0 (by omega)]
  simp only [Option.bind_some]
  have h0 : LimOK T.length (List.replicate T.length 0) := ⟨by simp, fun k hk => by simp [List.getD, List.getElem?_replicate, hk]⟩
  have := forN_rel (b := fun k s => p_spec_l15Times_L1 x y T k s) (b' := fun k s => p_impl_Ring_limitedProduct_L1 x y T k s) (I := fun _ s => LimOK T.length s) (r := ([], false)) (r' := []) T.length 0 (List.replicate T.length 0) h0 (fun i s _ hi hs => by
    have hi : i < T.length := by omega
    simp only [p_spec_l15Times_L1, p_impl_Ring_limitedProduct_L1, idx_getD x 0 (show i < x.length by rw [hx.1]; exact hi), Option.bind_some, hy.1]
    have := forN_rel (b := fun k s => p_spec_l15Times_L2 x i y T k s) (b' := fun k s => p_impl_Ring_limitedProduct_L2 y T i (x.getD i 0) k s) (I := fun _ s => LimOK T.length s) (r := ([], false)) (r' := []) T.length 0 s hs (fun j s _ hj hs => by
      have hj : j < T.length := by omega
      simp only [p_spec_l15Times_L2, p_impl_Ring_limitedProduct_L2, idx_getD y 0 (show j < y.length by rw [hy.1]; exact hj), h.i1 hi, h.i2 hi hj, Option.bind_some, h.row hi hj]
      rcases cell_rel h hx hy hi hj s hs with ⟨e, e'⟩ | ⟨s', q, hs', e, e'⟩
      · rw [e, e']; exact .inl ⟨rfl, rfl⟩
      · rw [e, e']; exact .inr ⟨s', hs', rfl, rfl⟩)
    rcases this with ⟨e, e'⟩ | ⟨s', hs', e, e'⟩
    · rw [e, e']; exact .inl ⟨rfl, rfl⟩
    · rw [e, e']; exact .inr ⟨s', hs', rfl, rfl⟩)
  rcases this with ⟨e, e'⟩ | ⟨s', hs', e, e'⟩
  · rw [e, e']; exact .inl ⟨rfl, rfl⟩
  · rw [e, e']
    refine .inr ⟨s', by simpa using hs', rfl, ?_⟩
    have hl : s'.isEmpty = false := by
      have := hs'.1
      cases s' with
      | nil => simp at this; omega
      | cons _ _ => rfl
    simp only [Option.bind_some, onRes, hl, Bool.false_eq_true, if_false]
theorem one_ok {n i : Nat} (hi : i < n) (hn : n ≤ 16) : (mkL (n : Int) (0 : Int)).bind (fun x => (idx x (i : Int)).bind fun _ => some (x.set (i : Int).toNat (1 : Int))) = some ((List.replicate n 0).set i 1) ∧ FacOK n ((List.replicate n 0).set i 1) := by
  rw [mkL_some' 0 (by omega)]
  refine ⟨?_, by simp, fun k hk => ?_⟩
  · simp only [Option.bind_some, idx_getD (List.replicate n (0 : Int)) 0 (show i < (List.replicate n (0 : Int)).length by simpa using hi), Int.toNat_natCast]
  · by_cases e : i = k
    · subst e; rw [getD_set_eq _ _ _ (by simpa using hi)]; omega
    · rw [getD_set_ne _ _ _ e]; simp [List.getD, List.getElem?_replicate, hk]
theorem specOne {i : Nat} (h : Cube T) (hi : i < T.length) : p_spec_l03One T (i : Int) = some ((List.replicate T.length 0).set i 1) := (one_ok hi h.1.2).1
theorem implOne {i : Nat} (h : Cube T) (hi : i < T.length) : p_impl_Ring_vectorOf T (i : Int) = some ((List.replicate T.length 0).set i 1) := by
  have hn := h.1
  unfold p_impl_Ring_vectorOf
  rw [mkL_some' 0 (by omega)]
  simp only [Option.bind_some, idx_getD (List.replicate T.length (0 : Int)) 0 (show i < (List.replicate T.length (0 : Int)).length by simpa using hi), Int.toNat_natCast]
  have hl : ((List.replicate T.length (0 : Int)).set i 1).isEmpty = false := by
    cases hq : (List.replicate T.length (0 : Int)).set i 1 with
    | nil => have := congrArg List.length hq; rw [List.length_set, List.length_replicate, List.length_nil] at this; omega
    | cons _ _ => rfl
  simp only [hl, Bool.false_eq_true, if_false]
theorem FacOK.lim {n : Nat} {v : List Int} (h : FacOK n v) : LimOK n v := ⟨h.1, fun k hk => by have := h.2 k hk; omega⟩
theorem hdl_ok (h : RingOK T) : FacOK T.length (vecG (hdl T T.length) T.length) := by
  have hn := h.cube.1
  refine ⟨vecG_len, fun k hk => ?_⟩
  rw [vecG_getD hk]
  have key : ∀ m, m ≤ T.length → 0 ≤ hdl T m k ∧ hdl T m k ≤ 1000 * m := by
    intro m
    induction m with
    | zero => intro _; simp [hdl, sumW]
    | succ m ih =>
      intro hm
      obtain ⟨i1, i2⟩ := ih (by omega)
      obtain ⟨r1, r2⟩ := h.cube.rng (i := m) (j := (du T m).toNat) (k := k) (by omega) (h.duN (by omega)) hk
      show 0 ≤ w64 (hdl T m k + at3 T m (du T m).toNat k) ∧ w64 (hdl T m k + at3 T m (du T m).toNat k) ≤ _
      rw [w64_small (by omega) (by omega)]
      omega
  have := key T.length (Nat.le_refl _)
  omega
/-- The number of a surface, or none: the same. -/
theorem number_rel (h : RingOK T) {g : Nat} {labels : List Int} (hl : LabOK T.length labels) (hg : g ≤ 20) :
    (p_spec_l15Number T (g : Int) labels = some (0, false) ∧ p_impl_Ring_surface T (g : Int) labels = some (-1)) ∨ ∃ v : Int, 0 ≤ v ∧ p_spec_l15Number T (g : Int) labels = some (v, true) ∧ p_impl_Ring_surface T (g : Int) labels = some v := by
  have hn := h.cube.1
  unfold p_spec_l15Number p_impl_Ring_surface
  rw [show (0 : Int) = ((0 : Nat) : Int) from rfl, specOne h.cube (show 0 < T.length by omega), implOne h.cube (show 0 < T.length by omega), specHandle h]
  simp only [Option.bind_some, Int.toNat_natCast]
  have hfo : ∀ i, i < T.length → FacOK T.length ((List.replicate T.length 0).set i 1) := fun i hi => (one_ok hi hn.2).2
  have r1 := forN_rel (b := fun k s => p_spec_l15Number_L1 labels T k s) (b' := fun k s => p_impl_Ring_surface_L1 labels T k s) (I := fun _ s => LimOK T.length s) (r := ((0 : Int), false)) (r' := (-1 : Int)) labels.length 0 _ (hfo 0 (by omega)).lim (fun j s _ hj hs => by
    have hj : j < labels.length := by omega
    obtain ⟨l0, l1⟩ := hl j hj
    obtain ⟨q, hq⟩ : ∃ q : Nat, labels.getD j 0 = (q : Int) := ⟨(labels.getD j 0).toNat, by omega⟩
    have hqn : q < T.length := by omega
    simp only [p_spec_l15Number_L1, p_impl_Ring_surface_L1, idx_getD labels 0 hj, hq, specOne h.cube hqn, implOne h.cube hqn, Option.bind_some]
    rcases times_rel h.cube hs (hfo q hqn) with ⟨e, e'⟩ | ⟨v, hv, e, e'⟩
    · rw [e, e']; exact .inl ⟨rfl, rfl⟩
    · rw [e, e']
      have hne : v.isEmpty = false := by
        have := hv.1
        cases v with
        | nil => simp at this; omega
        | cons _ _ => rfl
      refine .inr ⟨v, hv, by simp, by simp only [Option.bind_some, hne, Bool.false_eq_true, if_false]⟩)
  rcases r1 with ⟨e, e'⟩ | ⟨s, hs, e, e'⟩
  · rw [e, e']; exact .inl ⟨rfl, rfl⟩
  rw [e, e']
  simp only [Option.bind_some, onRes]
  have r2 := whileC_down (R := Int × Bool) (R' := Int) (step := fun s => p_spec_l15Number_L2 T (vecG (hdl T T.length) T.length) s.1 s.2) (b' := fun k s => p_impl_Ring_surface_L2 T k s) (I := fun s => LimOK T.length s) (N := g) (r := ((0 : Int), false)) (r' := (-1 : Int)) (fun j c s hc hs => by
    have ed : decide (((c + 1 : Nat) : Int) > 0) = true := by simp
    have ew : w64 (((c + 1 : Nat) : Int) - 1) = (c : Int) := by rw [w64_small (by omega) (by omega)]; omega
    simp only [p_spec_l15Number_L2, p_impl_Ring_surface_L2, ed, if_true, implHandle h, Option.bind_some, ew]
    rcases times_rel h.cube hs (hdl_ok h) with ⟨e, e'⟩ | ⟨v, hv, e, e'⟩
    · rw [e, e']; exact .inl ⟨rfl, rfl⟩
    · rw [e, e']
      have hne : v.isEmpty = false := by
        have := hv.1
        cases v with
        | nil => simp at this; omega
        | cons _ _ => rfl
      refine .inr ⟨v, hv, by simp, by simp only [Option.bind_some, hne, Bool.false_eq_true, if_false]⟩) (fun s _ => by simp [p_spec_l15Number_L2]) s (by simpa using hs)
  rcases r2 with ⟨e, e'⟩ | ⟨s, hs, e, e'⟩
  · rw [e, e']; exact .inl ⟨rfl, rfl⟩
  rw [e, e']
  simp only [Option.bind_some, onRes]
  have e0 : idx s ((0 : Nat) : Int) = some (s.getD 0 0) := idx_getD s 0 (by rw [hs.1]; omega)
  rw [e0]
  exact .inr ⟨s.getD 0 0, (hs.2 0 (by omega)).1, rfl, rfl⟩
end
end Go.VG
