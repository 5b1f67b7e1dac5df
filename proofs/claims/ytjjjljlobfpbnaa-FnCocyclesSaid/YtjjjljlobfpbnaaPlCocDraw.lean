/- What is drawn: the draws never stop; their orders are short. Plain. -/
import Derived.Test.YtjjjljlobfpbnaaPlSrc
import Derived.Test.YtjjjljlobfpbnaaPlCocCyc
set_option linter.all false
namespace Go.VG
theorem intN {x : Int} (h : 0 ≤ x) : ∃ n : Nat, x = (n : Int) := ⟨x.toNat, by omega⟩
section
variable {o : List Int} {m : Int} {f : List (List Int)} {n : Nat} {V : List (List (List Int))}
theorem Pai.ok (h : Pai n m f) (hm : 1 ≤ m) : PairOK n m f := ⟨h.len, fun i hi => ⟨h.row i hi, fun j hj => by
  have := h.rng i hi j hj
  have e : (if m > 1 then m else (1 : Int)) = m := by split <;> omega
  rw [e] at this
  omega⟩⟩
theorem cob_made (G : Grp o n) (hm : 1 ≤ m ∧ m ≤ 1000) (hp : Pai n m f) (ho : (o.length : Int) ≤ 1048576) : ∃ W, p_spec_l17Coboundary o m f = some (o, m, W) ∧ CocOK o m W ∧ W.length = n := by
  have h := zeroC (m := m) G hm
  refine ⟨_, specCob h cubeG_len (hp.ok hm.1) ho, G.coc hm fun i _ j _ k _ => ?_, cubeG_len⟩
  have := Int.emod_nonneg (cobN o f i j k) (show m ≠ 0 by omega)
  have := Int.emod_lt_of_pos (cobN o f i j k) (show 0 < m by omega)
  omega
theorem sum_made {W : List (List (List Int))} (h : CocOK o m V) (h' : CocOK o m W) (hn : W.length = V.length) (ho : (o.length : Int) ≤ 1048576) : ∃ U, p_spec_l17Sum o m V o m W = some (o, m, U) ∧ CocOK o m U := by
  have hm := h.mod
  refine ⟨_, specSum h h' hn ho, (Grp.of h).coc hm fun i _ j _ k _ => ?_⟩
  unfold addC
  have := Int.emod_nonneg (c3 V i j k + c3 W i j k) (show m ≠ 0 by omega)
  have := Int.emod_lt_of_pos (c3 V i j k + c3 W i j k) (show 0 < m by omega)
  omega
/-- The state behind the draw's first part: it is walked to the end. -/
noncomputable def drawTail (c : List Int) (s : Int × Int × (List Int) × Int × (List (List (List Int)))) : Option ((List Int) × Int × (List (List (List Int))) × Int × Int) :=
  (p_spec_l01Next c s.1 s.2.1 (2 : Int)).bind fun x =>
  (if (x.1 == (0 : Int)) = true then
    (p_spec_l17DrawPairing c x.2.1 x.2.2 ((s.2.2.2.2).length : Int) s.2.2.2.1).bind fun y =>
    (p_spec_l17Coboundary s.2.2.1 s.2.2.2.1 y.1).bind fun z =>
    (p_spec_l17Sum s.2.2.1 s.2.2.2.1 s.2.2.2.2 z.1 z.2.1 z.2.2).bind fun u =>
    some (y.2.1, y.2.2, u.1, u.2.1, u.2.2)
  else
    some (x.2.1, x.2.2, s.2.2.1, s.2.2.2.1, s.2.2.2.2)).bind fun v =>
  some (v.2.2.1, v.2.2.2.1, v.2.2.2.2, v.1, v.2.1)
def Drawn (r : Option ((List Int) × Int × (List (List (List Int))) × Int × Int)) : Prop := ∃ o m V a h, r = some (o, m, V, a, h) ∧ CocOK o m V ∧ o.length ≤ 4 ∧ 0 ≤ a
theorem tail_ok {c : List Int} (hc : Bytes c) {a h : Int} (ha : 0 ≤ a) (hV : CocOK o m V) (ho : o.length ≤ 4) : Drawn (drawTail c (a, h, o, m, V)) := by
  unfold drawTail
  obtain ⟨r, a1, h1, e, n1, n2, n3, n4⟩ := next_ok hc ha h 2
  simp only [e, Option.bind_some]
  by_cases hr : (r == (0 : Int)) = true
  · rw [if_pos hr]
    obtain ⟨f, a2, h2, e2, hp, n5⟩ := pairing_ok hc (n := V.length) hV.small m n1 h1
    obtain ⟨W, e3, h3, h4⟩ := cob_made (Grp.of hV) hV.mod hp (by omega)
    obtain ⟨U, e5, h5⟩ := sum_made hV h3 h4 (by omega)
    simp only [e2, e3, e5, Option.bind_some]
    exact ⟨_, _, _, _, _, rfl, h5, ho, n5⟩
  · rw [if_neg hr]
    exact ⟨_, _, _, _, _, rfl, hV, ho, n1⟩
theorem draw_ok {c : List Int} (hc : Bytes c) {a : Int} (ha : 0 ≤ a) (h : Int) : Drawn (p_spec_l17Draw c a h) := by
  unfold p_spec_l17Draw
  obtain ⟨r, a1, h1, e, n1, n2, n3, n4⟩ := next_ok hc ha h 5
  simp only [e, Option.bind_some]
  have hb : (if (r == (0 : Int)) = true then some (r == (0 : Int)) else some (r == (1 : Int))) = some (decide (r = 0 ∨ r = 1)) := by
    by_cases q0 : r = 0
    · subst q0; rfl
    · by_cases q1 : r = 1
      · subst q1; rfl
      · have c0 : (r == (0 : Int)) = false := by simpa using q0
        have c1 : (r == (1 : Int)) = false := by simpa using q1
        simp [q0, q1]
  rw [hb]
  simp only [Option.bind_some]
  by_cases hr : r = 0 ∨ r = 1
  · rw [if_pos (decide_eq_true hr)]
    obtain ⟨r2, a2, h2, e2, p1, p2, p3, p4⟩ := next_ok hc n1 h1 8
    have p5 := p3 (by omega)
    obtain ⟨N, hN⟩ := intN (show 0 ≤ 1 + r2 by omega)
    have hw : w64 (1 + r2) = (N : Int) := by rw [w64_small (by omega) (by omega)]; exact hN
    obtain ⟨r3, a3, h3, e3, q1, q2, q3, q4⟩ := next_ok hc p1 h2 (N : Int)
    have q5 := q3 (by omega)
    obtain ⟨K, rfl⟩ := intN q2
    simp only [e2, hw, e3, Option.bind_some, specCyclic (n := N) (k := K) (by omega) (by omega)]
    exact tail_ok hc q1 ((grp1 (n := N) (by omega)).coc (by omega) fun i _ j _ l _ => by
      have := Nat.mod_lt (cycN N K i j l) (show 0 < N by omega)
      unfold cycF; omega) (by simp)
  · rw [if_neg (by simpa using hr)]
    by_cases hr2 : (r == (2 : Int)) = true
    · rw [if_pos hr2]
      obtain ⟨r2, a2, h2, e2, p1, p2, p3, p4⟩ := next_ok hc n1 h1 4
      have p5 := p3 (by omega)
      obtain ⟨N, hN⟩ := intN (show 0 ≤ 1 + r2 by omega)
      have hw : w64 (1 + r2) = (N : Int) := by rw [w64_small (by omega) (by omega)]; exact hN
      have hq : quoI .i64 (8 : Int) (N : Int) = some ((8 / N : Nat) : Int) := quoN (k := 8) (by omega) (by omega)
      have hq1 : 1 ≤ 8 / N := (Nat.le_div_iff_mul_le (by omega)).2 (by omega)
      have hq8 : 8 / N ≤ 8 := Nat.div_le_self _ _
      obtain ⟨r3, a3, h3, e3, q1, q2, q3, q4⟩ := next_ok hc p1 h2 ((8 / N : Nat) : Int)
      have q5 := q3 (by omega)
      obtain ⟨M, hM⟩ := intN (show 0 ≤ 1 + r3 by omega)
      have hw2 : w64 (1 + r3) = (M : Int) := by rw [w64_small (by omega) (by omega)]; exact hM
      have hMN : N * M ≤ 8 := by
        have := Nat.mul_le_mul_left N (show M ≤ 8 / N by omega)
        have := Nat.mul_div_le 8 N
        omega
      obtain ⟨r4, a4, h4, e4, s1, s2, s3, s4⟩ := next_ok hc q1 h3 4
      have s5 := s3 (by omega)
      obtain ⟨K, rfl⟩ := intN s2
      simp only [e2, hw, hq, e3, hw2, e4, Option.bind_some, specMixed (n := N) (m := M) (k := K) (by omega) (by omega) hMN (by omega)]
      have hg := gcd8 (n := N) (m := M) (by omega)
      exact tail_ok hc s1 ((grp2 (n := N) (m := M) (by omega) (by omega) hMN).coc (by omega) fun i _ j _ l _ => by
        have := Nat.mod_lt (mixN M K i j l) (show 0 < Nat.gcd N M by omega)
        unfold mixF; omega) (by simp)
    · rw [if_neg hr2]
      by_cases hr3 : (r == (3 : Int)) = true
      · rw [if_pos hr3]
        simp only [specTriple, Option.bind_some]
        exact tail_ok hc n1 (grp3.coc (by decide) fun i _ j _ l _ => by
          have := Nat.mod_lt (triN i j l) (show 0 < 2 by decide)
          unfold triF; omega) (by decide)
      · rw [if_neg hr3]
        obtain ⟨o, a2, h2, e2, hO, p1⟩ := orders_ok hc n1 h1
        have hpp := prodL_pos hO.pos
        obtain ⟨N, hN⟩ := intN (show 0 ≤ prodL o by omega)
        have hO8 := hO.prod
        have G : Grp o N := ⟨hO.ne, hO.pos, hN, by omega⟩
        obtain ⟨s, e3, hs⟩ := specSize (o := o) hO.pos
        have hs' : s = (N : Int) := by omega
        subst hs'
        have hlen := hO.len
        obtain ⟨M, a4, h4, e4, hM, q1⟩ := pick_ok hc p1 h2 (l := [(1 : Int), 2, 3, 4, 5, 7, 12]) (by simp)
        have hM' : 1 ≤ M ∧ M ≤ 1000 := by simp at hM; omega
        obtain ⟨f, a5, h5, e5, hp, s1⟩ := pairing_ok hc (n := N) (by omega) M q1 h4
        obtain ⟨W, e6, h6, h7⟩ := cob_made G hM' hp (by omega)
        simp only [e2, e3, e4, e5, e6, Option.bind_some]
        exact ⟨_, _, _, _, _, rfl, h6, by omega, s1⟩
def DrawnAny (r : Option ((List Int) × Int × (List (List (List Int))) × Int × Int)) : Prop := ∃ o m V a h, r = some (o, m, V, a, h) ∧ o.length ≤ 5 ∧ 0 ≤ a
theorem any_ok {c : List Int} (hc : Bytes c) {a : Int} (ha : 0 ≤ a) (h : Int) : DrawnAny (p_spec_l17DrawAny c a h) := by
  unfold p_spec_l17DrawAny
  obtain ⟨o, m, V, a1, h1, e, hV, ho, n1⟩ := draw_ok hc ha h
  have hs := hV.small
  have hV1 := hV.n1
  have hm := hV.mod
  obtain ⟨r, a2, h2, e2, p1, p2, p3, p4⟩ := next_ok hc n1 h1 16
  simp only [e, e2, Option.bind_some]
  by_cases r0 : (r == (0 : Int)) = true
  · rw [if_pos r0]
    obtain ⟨i, a3, h3, e3, q1, q2, q3, q4⟩ := next_ok hc p1 h2 (V.length : Int)
    have q5 := q3 (by omega)
    obtain ⟨i, rfl⟩ := intN q2
    obtain ⟨j, a4, h4, e4, q1, q2, q3, q4⟩ := next_ok hc q1 h3 (V.length : Int)
    have q6 := q3 (by omega)
    obtain ⟨j, rfl⟩ := intN q2
    obtain ⟨k, a5, h5, e5, q1, q2, q3, q4⟩ := next_ok hc q1 h4 (V.length : Int)
    have q7 := q3 (by omega)
    obtain ⟨k, rfl⟩ := intN q2
    obtain ⟨x, a6, h6, e6, q1, q2, q3, q4⟩ := next_ok hc q1 h5 (w64 (m + 1))
    simp only [e3, hV.i1 (i := i) (by omega), e4, hV.i2 (i := i) (j := j) (by omega) (by omega), e5, e6, hV.i3 (i := i) (j := j) (k := k) (by omega) (by omega) (by omega), Option.bind_some]
    exact ⟨_, _, _, _, _, rfl, by omega, q1⟩
  · rw [if_neg r0]
    by_cases r1 : (r == (1 : Int)) = true
    · rw [if_pos r1]
      obtain ⟨x, a3, h3, e3, hx, q1⟩ := pick_ok hc p1 h2 (l := [(0 : Int), 1001, 2]) (by simp)
      simp only [e3, Option.bind_some]
      exact ⟨_, _, _, _, _, rfl, by omega, q1⟩
    · rw [if_neg r1]
      by_cases r2 : (r == (2 : Int)) = true
      · rw [if_pos r2]
        obtain ⟨x, a3, h3, e3, hx, q1⟩ := pick_ok hc p1 h2 (l := [(0 : Int), 2]) (by simp)
        have hap : appL o [x] = some (o ++ [x]) := by simp [appL]; omega
        simp only [e3, hap, Option.bind_some]
        exact ⟨_, _, _, _, _, rfl, by simp; omega, q1⟩
      · rw [if_neg r2]
        exact ⟨_, _, _, _, _, rfl, by show o.length ≤ 5; omega, p1⟩
theorem drawFault_ok {c : List Int} (hc : Bytes c) : ∃ o m V, p_spec_DrawCocycleFault c = some (o, m, V) ∧ (o.length : Int) ≤ 1048576 := by
  unfold p_spec_DrawCocycleFault
  obtain ⟨h, e⟩ := from_ok hc
  obtain ⟨o, m, V, a1, h1, e1, ho, n1⟩ := any_ok hc (a := 0) (Int.le_refl _) h
  obtain ⟨b, e2, hb⟩ := specShape (o := o) (m := m) (V := V)
  simp only [e, e1, e2, Option.bind_some]
  by_cases hgo : (b && (decide (((V).length : Int) > (1 : Int)))) = true
  · rw [if_pos hgo]
    rw [Bool.and_eq_true] at hgo
    have hV := hb.1 hgo.1
    have hV2 : 1 < (V.length : Int) := of_decide_eq_true hgo.2
    have hs := hV.small
    have hw : w64 ((V.length : Int) - 1) = (V.length : Int) - 1 := w64_small (by omega) (by omega)
    obtain ⟨r, a2, h2, e3, p1, p2, p3, p4⟩ := next_ok hc n1 h1 2
    simp only [e3, Option.bind_some]
    by_cases hr : (r == (0 : Int)) = true
    · rw [if_pos hr]
      obtain ⟨i, a3, h3, e4, q1, q2, q3, q4⟩ := next_ok hc p1 h2 ((V.length : Int) - 1)
      have q5 := q3 (by omega)
      obtain ⟨I, hI⟩ := intN (show 0 ≤ 1 + i by omega)
      have wI : w64 (1 + i) = (I : Int) := by rw [w64_small (by omega) (by omega)]; exact hI
      obtain ⟨j, a4, h4, e5, q1, q2, q3, q4⟩ := next_ok hc q1 h3 ((V.length : Int) - 1)
      have q6 := q3 (by omega)
      obtain ⟨J, hJ⟩ := intN (show 0 ≤ 1 + j by omega)
      have wJ : w64 (1 + j) = (J : Int) := by rw [w64_small (by omega) (by omega)]; exact hJ
      obtain ⟨k, a5, h5, e6, q1, q2, q3, q4⟩ := next_ok hc q1 h4 ((V.length : Int) - 1)
      have q7 := q3 (by omega)
      obtain ⟨K, hK⟩ := intN (show 0 ≤ 1 + k by omega)
      have wK : w64 (1 + k) = (K : Int) := by rw [w64_small (by omega) (by omega)]; exact hK
      obtain ⟨x, a6, h6, e7, q1, q2, q3, q4⟩ := next_ok hc q1 h5 m
      simp only [hw, e4, wI, hV.i1 (i := I) (by omega), e5, wJ, hV.i2 (i := I) (j := J) (by omega) (by omega), e6, wK, e7, hV.i3 (i := I) (j := J) (k := K) (by omega) (by omega) (by omega), Option.bind_some]
      exact ⟨_, _, _, rfl, by omega⟩
    · rw [if_neg hr]
      exact ⟨_, _, _, rfl, by omega⟩
  · rw [if_neg hgo]
    exact ⟨_, _, _, rfl, by omega⟩
theorem drawAdd_ok {c : List Int} (hc : Bytes c) : ∃ o m V o' m' W, p_spec_DrawAddCocycles c = some (o, m, V, o', m', W) ∧ (o.length : Int) ≤ 1048576 ∧ (o'.length : Int) ≤ 1048576 := by
  unfold p_spec_DrawAddCocycles
  obtain ⟨h, e⟩ := from_ok hc
  obtain ⟨o, m, V, a1, h1, e1, ho, n1⟩ := any_ok hc (a := 0) (Int.le_refl _) h
  obtain ⟨b, e2, _, hb⟩ := is_eq (o := o) (m := m) (V := V) (by omega)
  simp only [e, e1, e2, Option.bind_some]
  have other : ∀ a h, 0 ≤ a → ∃ o2 m2 V2 o' m' W, ((p_spec_l17DrawAny c a h).bind fun x98 => some (o, m, V, x98.1, x98.2.1, x98.2.2.1)) = some (o2, m2, V2, o', m', W) ∧ (o2.length : Int) ≤ 1048576 ∧ (o'.length : Int) ≤ 1048576 := fun a h ha => by
    obtain ⟨o', m', V', a2, h2, e3, ho', _⟩ := any_ok hc ha h
    rw [e3]
    exact ⟨_, _, _, _, _, _, rfl, by omega, by show (o'.length : Int) ≤ _; omega⟩
  cases b
  · simp only [Bool.false_eq_true, if_false, Option.bind_some]
    exact other a1 h1 n1
  · obtain ⟨r, a2, h2, e3, p1, p2, p3, p4⟩ := next_ok hc n1 h1 6
    simp only [if_true, e3, Option.bind_some]
    by_cases hr : r > 0
    · have hV := hb rfl
      obtain ⟨f, a5, h5, e5, hp, s1⟩ := pairing_ok hc (n := V.length) hV.small m p1 h2
      obtain ⟨W, e6, h6, h7⟩ := cob_made (Grp.of hV) hV.mod hp (by omega)
      simp only [hr, decide_true, if_true, e5, e6, Option.bind_some]
      exact ⟨_, _, _, _, _, _, rfl, by omega, by omega⟩
    · simp only [hr, decide_false, Bool.false_eq_true, if_false]
      exact other a2 h2 p1
theorem drawCyc_ok {c : List Int} (hc : Bytes c) : ∃ n k, p_spec_DrawCyclicCocycle c = some (n, k) := by
  unfold p_spec_DrawCyclicCocycle
  obtain ⟨h, e⟩ := from_ok hc
  obtain ⟨r, a2, h2, e2, p1, _⟩ := next_ok hc (a := 0) (Int.le_refl _) h 10
  obtain ⟨r3, a3, h3, e3, _⟩ := next_ok hc p1 h2 (w64 (r + 1))
  simp only [e, e2, e3, Option.bind_some]
  exact ⟨_, _, rfl⟩
theorem drawMix_ok {c : List Int} (hc : Bytes c) : ∃ n m k, p_spec_DrawMixedCocycle c = some (n, m, k) := by
  unfold p_spec_DrawMixedCocycle
  obtain ⟨h, e⟩ := from_ok hc
  obtain ⟨r, a2, h2, e2, p1, _⟩ := next_ok hc (a := 0) (Int.le_refl _) h 4
  obtain ⟨r3, a3, h3, e3, p3, _⟩ := next_ok hc p1 h2 5
  obtain ⟨r4, a4, h4, e4, p4, _⟩ := next_ok hc p3 h3 16
  obtain ⟨r5, a5, h5, e5, p5, _⟩ := next_ok hc p4 h4 9
  simp only [e, e2, e3, e4, e5, Option.bind_some]
  exact ⟨_, _, _, rfl⟩
end
end Go.VG
