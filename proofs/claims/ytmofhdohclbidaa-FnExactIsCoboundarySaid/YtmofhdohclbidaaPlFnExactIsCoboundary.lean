/- The plain law of FnExactIsCoboundary. No condition but the readings'. -/
import Derived.Test.YtmofhdohclbidaaPlCob
set_option linter.all false
namespace Go.VG
theorem forN_two {S R R' : Type} {b : Nat → S → Option (Ctl S R)} {b' : Nat → S → Option (Ctl S R')} {I : Nat → S → Prop} : ∀ (c k : Nat) (s : S), I k s →
    (∀ j s, k ≤ j → j < k + c → I j s → ∃ s', I (j + 1) s' ∧ b j s = some (.next s') ∧ b' j s = some (.next s')) → ∃ s', I (k + c) s' ∧ forN b c k s = some (.fin s') ∧ forN b' c k s = some (.fin s')
  | 0, k, s, h, _ => ⟨s, h, rfl, rfl⟩
  | c + 1, k, s, h, hb => by
    obtain ⟨s', hs, e, e'⟩ := hb k s (Nat.le_refl _) (by omega) h
    rw [forN_next1 e, forN_next1 e']
    have := forN_two (I := I) c (k + 1) s' hs (fun j s h1 h2 => hb j s (by omega) (by omega))
    rwa [show k + 1 + c = k + (c + 1) from by omega] at this
section
variable {o : List Int} {m : Int} {n : Nat} {V : List (List (List Int))}
def oneP (n x y : Nat) : List (List Int) := grid (up2 (fun _ _ => (0 : Int)) (1 + x) (1 + y) 1) n n
theorem oneP_at {x y i j : Nat} (hi : i < n) (hj : j < n) : at2 (oneP n x y) i j = if i = 1 + x ∧ j = 1 + y then 1 else 0 := by
  unfold at2 oneP
  rw [grid_getD hi, show rowG (up2 (fun _ _ => (0 : Int)) (1 + x) (1 + y) 1) n i = vecG (fun j => up2 (fun _ _ => (0 : Int)) (1 + x) (1 + y) 1 i j) n from rfl, vecG_getD hj]
  rfl
theorem oneP_ok (hm : 2 ≤ m) {x y : Nat} : PairOK n m (oneP n x y) := by
  refine ⟨⟨grid_len, fun i hi => ⟨by unfold oneP; rw [grid_getD hi]; exact rowG_len, fun j hj => ?_⟩⟩, fun i hi => ?_⟩
  · rw [oneP_at hi hj]; split <;> omega
  · have h0 : 0 < n := by omega
    rw [oneP_at h0 hi, oneP_at hi h0, if_neg (by omega), if_neg (by omega)]
    exact ⟨rfl, rfl⟩
def cobV (o : List Int) (m : Int) (n x y : Nat) : List (List (List Int)) := cubeG (fun i j k => cobN o (oneP n x y) i j k % m) n n n
theorem round_eq (h : CocOK o m V) (hl : V.length = n) (ho : (o.length : Int) ≤ 1048576) (hm : 2 ≤ m) {x y : Nat} (hx : 1 + x < n) (hy : 1 + y < n) (S : List (List Int)) :
    p_spec_l17Bounds_L2 (n : Int) x o m y S = ((appL S [flatV (cobV o m n x y)]).bind fun z => some (.next z)) ∧ p_impl_coboundaries_L2 (n : Int) x o m y S = ((appL S [flatV (cobV o m n x y)]).bind fun z => some (.next z)) := by
  have hn8 : n ≤ 8 := by have := h.small; omega
  have hp := oneP_ok (n := n) hm (x := x) (y := y)
  have hk : CocOK o m (cobV o m n x y) := cob_ok h hl (cobN o (oneP n x y))
  have hcube := hk.cube (n := n) (by unfold cobV; exact cubeG_len)
  have ex : (1 : Int) + (x : Int) = ((1 + x : Nat) : Int) := by omega
  have ey : (1 : Int) + (y : Int) = ((1 + y : Nat) : Int) := by omega
  have eg : (grid (fun _ _ => (0 : Int)) n n).set (1 + x) ((rowG (fun _ _ => (0 : Int)) n (1 + x)).set (1 + y) 1) = oneP n x y := grid_set hx hy
  have i1 : idx (grid (fun _ _ => (0 : Int)) n n) ((1 + x : Nat) : Int) = some (rowG (fun _ _ => (0 : Int)) n (1 + x)) := grid_idx hx
  have i2 : idx (rowG (fun _ _ => (0 : Int)) n (1 + x)) ((1 + y : Nat) : Int) = some 0 := rowG_idx (f := fun _ _ => (0 : Int)) hy
  have z1 : forN (R := Unit) (fun k s => p_spec_l17Bounds_L3 (n : Int) k s) n 0 [] = some (.fin (grid (fun _ _ => (0 : Int)) n n)) := zeros_eq (by omega) (by omega) (fun _ _ => rfl)
  have c1 : p_spec_l17Coboundary o m (oneP n x y) = some (o, m, cobV o m n x y) := specCob h hl hp ho
  have c2 : p_impl_coboundary o m (oneP n x y) = some (o, m, cobV o m n x y) := implCob h hl hp ho
  constructor
  · simp only [p_spec_l17Bounds_L2, Int.toNat_natCast, z1, Option.bind_some, onRes, ex, ey, i1, i2, eg, c1, specFlat hcube hn8]
  · simp only [p_impl_coboundaries_L2, Int.toNat_natCast, zeros_grid hn8, Option.bind_some, ex, ey, i1, i2, eg, c2, implFlat hcube hn8]
theorem bounds_eq (h : CocOK o m V) (hl : V.length = n) (ho : (o.length : Int) ≤ 1048576) (hm : 2 ≤ m) : ∃ L, p_spec_l17Bounds o m = some L ∧ p_impl_coboundaries o m = some L ∧ L.length ≤ 64 ∧ ∀ j, j < L.length → Row m (n * (n * n)) (L.getD j []) := by
  have hn8 : n ≤ 8 := by have := h.small; omega
  have hn1 : 1 ≤ n := by have := h.n1; omega
  have e1 : p_spec_l17Size o = some (n : Int) := by
    obtain ⟨s, e, hs⟩ := specSize h.pos
    have := h.size
    have : s = (n : Int) := by omega
    rw [e, this]
  have e2 : p_impl_groupSize o = some (n : Int) := by rw [groupSize_eq h, hl]
  have en : ((n : Int) - 1).toNat = n - 1 := by omega
  unfold p_spec_l17Bounds p_impl_coboundaries
  rw [e1, e2]
  simp only [Option.bind_some, en]
  obtain ⟨L, ⟨hL1, hL2⟩, f1, f2⟩ := forN_two (R := Unit) (R' := Unit) (b := fun k s => p_spec_l17Bounds_L1 (n : Int) o m k s) (b' := fun k s => p_impl_coboundaries_L1 (n : Int) o m k s) (I := fun k S => S.length = k * (n - 1) ∧ ∀ j, j < S.length → Row m (n * (n * n)) (S.getD j [])) (n - 1) 0 ([] : List (List Int))
    ⟨by simp, fun j hj => by simp at hj⟩ (fun x S _ hx ⟨g1, g2⟩ => by
      obtain ⟨S', ⟨q1, q2⟩, f1, f2⟩ := forN_two (R := Unit) (R' := Unit) (b := fun k s => p_spec_l17Bounds_L2 (n : Int) x o m k s) (b' := fun k s => p_impl_coboundaries_L2 (n : Int) x o m k s) (I := fun k T => T.length = S.length + k ∧ ∀ j, j < T.length → Row m (n * (n * n)) (T.getD j [])) (n - 1) 0 S
        ⟨rfl, g2⟩ (fun y T _ hy ⟨p1, p2⟩ => by
          obtain ⟨r1, r2⟩ := round_eq h hl ho hm (x := x) (y := y) (by omega) (by omega) T
          have hxn : x * (n - 1) ≤ 7 * 7 := Nat.mul_le_mul (by omega) (by omega)
          have ha : appL T [flatV (cobV o m n x y)] = some (T ++ [flatV (cobV o m n x y)]) := by
            unfold appL
            rw [if_pos (by simp only [List.length_cons, List.length_nil]; omega)]
          rw [ha] at r1 r2
          refine ⟨T ++ [flatV (cobV o m n x y)], ⟨by rw [List.length_append, p1]; simp only [List.length_cons, List.length_nil]; omega, fun j hj => ?_⟩, r1, r2⟩
          by_cases hjT : j < T.length
          · rw [getD_app_lt _ _ _ hjT]; exact p2 j hjT
          · have : j = T.length := by rw [List.length_append] at hj; simp only [List.length_cons, List.length_nil] at hj; omega
            rw [this, getD_app_eq]
            exact ((cob_ok h hl (cobN o (oneP n x y))).cube (n := n) cubeG_len).row)
      simp only [Nat.zero_add] at q1
      refine ⟨S', ⟨by rw [q1, g1, Nat.succ_mul], q2⟩, ?_, ?_⟩
      · simp only [p_spec_l17Bounds_L1, en, f1, Option.bind_some, onRes]
      · simp only [p_impl_coboundaries_L1, en, f2, Option.bind_some, onRes])
  simp only [Nat.zero_add] at hL1
  have hb : (n - 1) * (n - 1) ≤ 7 * 7 := Nat.mul_le_mul (by omega) (by omega)
  exact ⟨L, by rw [f1]; rfl, by rw [f2]; rfl, by omega, hL2⟩
theorem isCob_eq (ho : (o.length : Int) ≤ 1048576) : ∃ r, p_spec_IsCoboundary o m V = some r ∧ p_impl_IsCoboundary o m V = some r := by
  unfold p_spec_IsCoboundary p_impl_IsCoboundary
  obtain ⟨b, e1, e2, hb⟩ := is_eq (o := o) (m := m) (V := V) ho
  rw [e1, e2]
  simp only [Option.bind_some]
  cases b
  · exact ⟨(false, 1), rfl, rfl⟩
  have h := hb rfl
  simp only [Bool.not_true, Bool.false_eq_true, if_false, p_spec_l17Prime, p_impl_isSmallPrime, Option.bind_some]
  by_cases hp : P4 m
  · have ep : ((((m == (2 : Int)) || (m == (3 : Int))) || (m == (5 : Int))) || (m == (7 : Int))) = true := by
      rcases hp with rfl | rfl | rfl | rfl <;> rfl
    simp only [ep, Bool.not_true, Bool.false_eq_true, if_false]
    have hm2 : 2 ≤ m := by unfold P4 at hp; omega
    have hn8 := h.small
    have h512 := cube8 hn8
    obtain ⟨L, b1, b2, l1, l2⟩ := bounds_eq h rfl ho hm2
    have hc := h.cube (n := V.length) rfl
    have a0 : appL ([] : List (List Int)) L = some L := by
      unfold appL
      rw [if_pos (by simp only [List.length_nil]; omega), List.nil_append]
    have a1 : appL L [flatV V] = some (L ++ [flatV V]) := by
      unfold appL
      rw [if_pos (by simp only [List.length_cons, List.length_nil]; omega)]
    have l3 : ∀ j, j < (L ++ [flatV V]).length → Row m (V.length * (V.length * V.length)) ((L ++ [flatV V]).getD j []) := fun j hj => by
      by_cases hjT : j < L.length
      · rw [getD_app_lt _ _ _ hjT]; exact l2 j hjT
      · have : j = L.length := by rw [List.length_append] at hj; simp only [List.length_cons, List.length_nil] at hj; omega
        rw [this, getD_app_eq]; exact hc.row
    have hl4 : (L ++ [flatV V]).length ≤ 1048576 := by rw [List.length_append]; simp only [List.length_cons, List.length_nil]; omega
    obtain ⟨r1, _, _, s1, s2⟩ := specRank hp (by omega) (by omega) l2
    obtain ⟨r1', _, _, t1, t2⟩ := codeRank hp (by omega) (by omega) l2
    obtain ⟨r2, _, _, s3, s4⟩ := specRank hp (by omega) hl4 l3
    obtain ⟨r2', _, _, t3, t4⟩ := codeRank hp (by omega) hl4 l3
    have q1 := ech_eq (pr_of hp) s2 t2
    have q2 := ech_eq (pr_of hp) s4 t4
    subst q1
    subst q2
    simp only [b1, b2, a0, a1, Option.bind_some, specFlat hc hn8, implFlat hc hn8, s1, t1, s3, t3]
    exact ⟨_, rfl, rfl⟩
  · have ep : ((((m == (2 : Int)) || (m == (3 : Int))) || (m == (5 : Int))) || (m == (7 : Int))) = false := by
      simp only [Bool.or_eq_false_iff, beq_eq_false_iff_ne, ne_eq]
      unfold P4 at hp
      omega
    simp only [ep, Bool.not_false, if_true]
    exact ⟨(false, 5), rfl, rfl⟩
theorem szCocycle_spec (left : Int) (hl : 0 ≤ left ∧ left ≤ 1048576) (h0 : Good1 .i64 o) (h2 : Good3 .i64 V) : ∃ r, p_laws_szCocycle o m V left = some r ∧ r ≤ left ∧
    (0 ≤ r → p_laws_toCocycle o m V = some (o, m, V) ∧ (o.length : Int) ≤ 1048576 ∧ ((V.length : Int) ≤ 1048576 ∧ ∀ x ∈ V, (x.length : Int) ≤ 1048576 ∧ ∀ y ∈ x, (y.length : Int) ≤ 1048576)) := by
  unfold p_laws_szCocycle
  obtain ⟨r1, e1, l1, s1, s1'⟩ := szInt64S_spec o left hl.1 hl.2 h0.1
  rw [e1]
  simp only [Option.bind_some]
  by_cases n1 : r1 < 0
  · simp only [n1, decide_true, if_true]
    exact ⟨-1, rfl, by omega, by omega⟩
  simp only [n1, decide_false, Bool.false_eq_true, if_false]
  obtain ⟨r2, e2, l2, s2, s2'⟩ := szInt64SSS_spec V r1 (by omega) (by omega) h2.1 (fun x hx => ⟨(h2.2 x hx).1, fun y hy => ((h2.2 x hx).2 y hy).1⟩)
  rw [e2]
  simp only [Option.bind_some]
  by_cases n2 : r2 < 0
  · simp only [n2, decide_true, if_true]
    exact ⟨-1, rfl, by omega, by omega⟩
  simp only [n2, decide_false, Bool.false_eq_true, if_false]
  refine ⟨r2, rfl, by omega, fun _ => ?_⟩
  have g1 := s1' (by omega)
  obtain ⟨g2, g3⟩ := s2' (by omega)
  have v1 : (V.length : Int) ≤ 1048576 ∧ ∀ x ∈ V, (x.length : Int) ≤ 1048576 ∧ ∀ y ∈ x, (y.length : Int) ≤ 1048576 := ⟨by omega, fun x hx => ⟨by have := (g3 x hx).1; omega, fun y hy => by have := (g3 x hx).2 y hy; omega⟩⟩
  refine ⟨?_, by omega, v1⟩
  simp only [p_laws_toCocycle, toInt64S_eq o (by omega), toInt64SSS_eq V v1.1 v1.2, Option.bind_some]
theorem eqCocycle_self : p_laws_eqCocycle o m V o m V = some true := by
  simp [p_laws_eqCocycle, eqS_self, eqSSS_self]
end
theorem plain_FnExactIsCoboundary (aC_Orders : (List Int)) (aC_Modulus : Int) (aC_Values : (List (List (List Int)))) (h0 : Good1 .i64 aC_Orders) (h1 : InR .i64 aC_Modulus) (h2 : Good3 .i64 aC_Values) : p_laws_FnExactIsCoboundary aC_Orders aC_Modulus aC_Values = some true := by
  unfold p_laws_FnExactIsCoboundary
  obtain ⟨r, e, _, hr⟩ := szCocycle_spec (m := aC_Modulus) 1048576 (by decide) h0 h2
  rw [e]
  simp only [Option.bind_some]
  by_cases hr0 : r < 0
  · simp [hr0]
  · obtain ⟨et, ho, hV⟩ := hr (by omega)
    obtain ⟨x, g1, g2⟩ := isCob_eq (o := aC_Orders) (m := aC_Modulus) (V := aC_Values) ho
    simp only [hr0, decide_false, Bool.false_eq_true, if_false, et, Option.bind_some, g1, g2, eqCocycle_self]
    simp
end Go.VG
