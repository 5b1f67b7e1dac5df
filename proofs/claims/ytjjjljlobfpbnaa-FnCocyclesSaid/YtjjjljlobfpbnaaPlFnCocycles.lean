/- The plain law of Cocycles. No condition but the reading's. -/
import Derived.Test.YtjjjljlobfpbnaaPlCocDraw
import Derived.Test.YtjjjljlobfpbnaaPlCocInv
set_option linter.all false
namespace Go.VG
/-! ### Comparisons with oneself -/
theorem like_self (a : List Int) : p_laws_likeInts a a = some true := by
  unfold p_laws_likeInts
  rw [if_neg (by simp)]
  have := (Chk.says (forN_chk (N := a.length) (body := fun k s => p_laws_likeInts_L1 a a k) (P := fun _ => True) fun j hj _ => by
    simp only [p_laws_likeInts_L1, idx_getD a 0 hj, Option.bind_some]
    exact ChkC.congr (ChkC.ite rfl) (by simp)))
  obtain ⟨b, h1, h2⟩ := this
  rw [h1, h2.2 fun _ _ => trivial]
theorem same_self (a : List (List Int)) : p_laws_same9 a a = some true := by
  unfold p_laws_same9
  rw [if_neg (by simp)]
  have := (Chk.says (forN_chk (N := a.length) (body := fun k s => p_laws_same9_L1 a a k) (P := fun _ => True) fun j hj _ => by
    simp only [p_laws_same9_L1, idx_getD a [] hj, Option.bind_some, like_self]
    exact ChkC.congr (ChkC.ite rfl) (by simp)))
  obtain ⟨b, h1, h2⟩ := this
  rw [h1, h2.2 fun _ _ => trivial]
theorem coc_self (o : List Int) (m : Int) (V : List (List (List Int))) : p_laws_cocycle9 o m V o m V = some true := by
  unfold p_laws_cocycle9
  rw [like_self]
  simp only [Option.bind_some]
  rw [if_neg (by simp)]
  have := (Chk.says (forN_chk (N := V.length) (body := fun k s => p_laws_cocycle9_L1 V V k) (P := fun _ => True) fun j hj _ => by
    simp only [p_laws_cocycle9_L1, idx_getD V [] hj, Option.bind_some, same_self]
    exact ChkC.congr (ChkC.ite rfl) (by simp)))
  obtain ⟨b, h1, h2⟩ := this
  rw [h1, h2.2 fun _ _ => trivial]
/-! ### Sums -/
theorem equal_says (a b : List Int) : Says (p_slices_Equal_Lint64_int64 a b) (a = b) := by
  unfold p_slices_Equal_Lint64_int64
  by_cases hl : a.length = b.length
  · have : ((a.length : Int) != (b.length : Int)) = false := by simp [hl]
    rw [this]
    simp only [Bool.false_eq_true, if_false]
    refine (Chk.says (forN_chk (P := fun j => a.getD j 0 = b.getD j 0) fun j hj _ => ?_)).congr ?_
    · simp only [p_slices_Equal_Lint64_int64_L1, idx_getD a 0 hj, idx_getD b 0 (by omega : j < b.length), Option.bind_some]
      exact ChkC.congr (ChkC.ite rfl) (by simp)
    · exact (eq_iff_getD 0 hl).symm
  · have : ((a.length : Int) != (b.length : Int)) = true := by simp; omega
    rw [this]
    exact ⟨false, by simp, by simp; intro h; exact hl (by rw [h])⟩
theorem add_law {o o' : List Int} {m m' : Int} {V W : List (List (List Int))} (ho : (o.length : Int) ≤ 1048576) (ho' : (o'.length : Int) ≤ 1048576) : ∃ r, p_impl_AddCocycles o m V o' m' W = some r ∧ p_spec_AddCocycles o m V o' m' W = some r ∧
    ((r.2.2.2 == (0 : Int)) = true → o' = o ∧ m' = m ∧ IsC o m V ∧ IsC o m W ∧ W.length = V.length ∧ r = (o, m, cubeG (addC V W m) V.length V.length V.length, 0)) := by
  unfold p_spec_AddCocycles p_impl_AddCocycles
  obtain ⟨_, b, _, _, e1, e2', _, hb⟩ := fault_law (o := o) (m := m) (V := V) ho
  obtain ⟨_, b', _, _, f1, f2', _, hb'⟩ := fault_law (o := o') (m := m') (V := W) ho'
  have e2 : p_spec_l17Is o m V = some b := by rw [← e2']; unfold p_spec_IsCocycle; cases p_spec_l17Is o m V <;> rfl
  have f2 : p_spec_l17Is o' m' W = some b' := by rw [← f2']; unfold p_spec_IsCocycle; cases p_spec_l17Is o' m' W <;> rfl
  rw [e1, e2]
  simp only [Option.bind_some]
  cases b
  · exact ⟨([], 0, [], 1), rfl, rfl, fun h => absurd (show ((1 : Int) == 0) = true from h) (by decide)⟩
  simp only [Bool.not_true, Bool.false_eq_true, if_false, f1, f2, Option.bind_some]
  cases b'
  · exact ⟨([], 0, [], 1), rfl, rfl, fun h => absurd (show ((1 : Int) == 0) = true from h) (by decide)⟩
  have h := hb.1 rfl
  have h' := hb'.1 rfl
  simp only [Bool.not_true, Bool.false_eq_true, if_false]
  unfold p_impl_sameKind
  obtain ⟨d, g2, k2⟩ := equal_says o o'
  have g1 : p_spec_l01Same o o' = some d := g2
  rw [g1, g2]
  simp only [Option.bind_some]
  cases d
  · simp only [Bool.not_false, Bool.true_or, if_true, Bool.false_and]
    exact ⟨([], 0, [], 2), rfl, rfl, fun h => absurd (show ((2 : Int) == 0) = true from h) (by decide)⟩
  have eo := k2.1 rfl
  subst eo
  by_cases hmm : m = m'
  · subst hmm
    have hn : W.length = V.length := by have := h.ok.size; have := h'.ok.size; omega
    simp only [Bool.not_true, Bool.false_or, bne_self_eq_false, Bool.false_eq_true, if_false, Bool.true_and, beq_self_eq_true, specSum h.ok h'.ok hn ho, implSum h.ok h'.ok hn ho, Option.bind_some]
    exact ⟨_, rfl, rfl, fun _ => ⟨trivial, trivial, h, h', hn, rfl⟩⟩
  · have c1 : (m != m') = true := by simpa using hmm
    have c2 : (m == m') = false := by simpa using hmm
    simp only [c1, c2, Bool.not_true, Bool.false_or, if_true, Bool.and_false, Bool.not_false]
    exact ⟨([], 0, [], 2), rfl, rfl, fun h => absurd (show ((2 : Int) == 0) = true from h) (by decide)⟩
/-! ### Cyclic and mixed -/
theorem within_some (n a b : Int) : p_impl_within n a b = some (decide (n ≥ a) && decide (n ≤ b)) := rfl
theorem in_some (n a b : Int) : p_spec_l01In n a b = some (decide (n ≥ a) && decide (n ≤ b)) := rfl
theorem wi_t {n a b : Int} (h : a ≤ n ∧ n ≤ b) : (decide (n ≥ a) && decide (n ≤ b)) = true := by rw [Bool.and_eq_true]; exact ⟨decide_eq_true h.1, decide_eq_true h.2⟩
theorem wi_f {n a b : Int} (h : ¬ (a ≤ n ∧ n ≤ b)) : (decide (n ≥ a) && decide (n ≤ b)) = false := by
  rw [← Bool.not_eq_true, Bool.and_eq_true]; exact fun hh => h ⟨of_decide_eq_true hh.1, of_decide_eq_true hh.2⟩
theorem cyc_law (n k : Int) : ∃ r, p_impl_CyclicCocycle n k = some r ∧ p_spec_CyclicCocycle n k = some r ∧
    ((r.2.2.2 == (0 : Int)) = true → ∃ N K : Nat, n = (N : Int) ∧ k = (K : Int) ∧ (1 ≤ N ∧ N ≤ 8) ∧ K < N ∧ r = ([(N : Int)], (N : Int), cubeG (cycF N K) N N N, 0)) := by
  unfold p_impl_CyclicCocycle p_spec_CyclicCocycle
  simp only [within_some, in_some, Option.bind_some]
  by_cases hn : 1 ≤ n ∧ n ≤ 8
  · simp only [wi_t hn, Bool.not_true, Bool.false_eq_true, if_false, Option.bind_some]
    rw [w64_small (by omega) (by omega)]
    by_cases hk : 0 ≤ k ∧ k ≤ n - 1
    · obtain ⟨N, rfl⟩ := intN (show 0 ≤ n by omega)
      obtain ⟨K, rfl⟩ := intN hk.1
      simp only [wi_t hk, Bool.not_true, Bool.false_eq_true, if_false, implCyclic (n := N) (k := K) (by omega) (by omega), specCyclic (n := N) (k := K) (by omega) (by omega), Option.bind_some]
      exact ⟨_, rfl, rfl, fun _ => ⟨N, K, rfl, rfl, by omega, by omega, rfl⟩⟩
    · simp only [wi_f hk, Bool.not_false, if_true]
      exact ⟨([], 0, [], 2), rfl, rfl, fun h => absurd (show ((2 : Int) == 0) = true from h) (by decide)⟩
  · simp only [wi_f hn, Bool.not_false, if_true, Option.bind_some]
    exact ⟨([], 0, [], 2), rfl, rfl, fun h => absurd (show ((2 : Int) == 0) = true from h) (by decide)⟩
theorem mix_law (n m k : Int) : ∃ r, p_impl_MixedCocycle n m k = some r ∧ p_spec_MixedCocycle n m k = some r ∧ ((r.2.2.2 == (0 : Int)) = true → p_impl_IsCocycle r.1 r.2.1 r.2.2.1 = some true) := by
  unfold p_impl_MixedCocycle p_spec_MixedCocycle
  simp only [within_some, in_some, Option.bind_some]
  by_cases hn : 1 ≤ n ∧ n ≤ 8
  · by_cases hm : 1 ≤ m ∧ m ≤ 8
    · by_cases hk : 0 ≤ k ∧ k ≤ 7
      · obtain ⟨N, rfl⟩ := intN (show 0 ≤ n by omega)
        obtain ⟨M, rfl⟩ := intN (show 0 ≤ m by omega)
        obtain ⟨K, rfl⟩ := intN hk.1
        have hNM := mulLe (show N ≤ 8 by omega) (show M ≤ 8 by omega)
        simp only [wi_t hn, wi_t hm, wi_t hk, Bool.not_true, Bool.false_eq_true, if_false, Option.bind_some, ← Int.natCast_mul, w64N (show N * M ≤ 1000000 by omega)]
        by_cases h8 : N * M ≤ 8
        · have hd : decide (((N * M : Nat) : Int) > 8) = false := decide_eq_false (by omega)
          simp only [hd, Bool.false_eq_true, if_false, implGcd (n := N) (m := M) (by omega), Option.bind_some, implMixed (n := N) (m := M) (k := K) (by omega) (by omega) h8 (by omega), specMixed (n := N) (m := M) (k := K) (by omega) (by omega) h8 (by omega)]
          exact ⟨_, rfl, rfl, fun _ => (mixIs (by omega) (by omega) h8).is (by simp)⟩
        · have hd : decide (((N * M : Nat) : Int) > 8) = true := decide_eq_true (by omega)
          simp only [hd, if_true]
          exact ⟨([], 0, [], 3), rfl, rfl, fun h => absurd (show ((3 : Int) == 0) = true from h) (by decide)⟩
      · simp only [wi_t hn, wi_t hm, wi_f hk, Bool.not_true, Bool.not_false, Bool.false_eq_true, if_false, if_true, Option.bind_some]
        exact ⟨([], 0, [], 2), rfl, rfl, fun h => absurd (show ((2 : Int) == 0) = true from h) (by decide)⟩
    · simp only [wi_t hn, wi_f hm, Bool.not_true, Bool.not_false, Bool.false_eq_true, if_false, if_true, Option.bind_some]
      exact ⟨([], 0, [], 2), rfl, rfl, fun h => absurd (show ((2 : Int) == 0) = true from h) (by decide)⟩
  · simp only [wi_f hn, Bool.not_false, if_true, Option.bind_some]
    exact ⟨([], 0, [], 2), rfl, rfl, fun h => absurd (show ((2 : Int) == 0) = true from h) (by decide)⟩
theorem bindFin {S R β : Type} {x : Option (Res S R)} {s : S} {f : R → Option β} {g : S → Option β} {r : Option β} (h : x = some (.fin s)) (hg : g s = r) : (x.bind fun res => onRes res f g) = r := by
  subst h; exact hg
theorem neq_self (x : Int) : (x != x) = false := by simp
theorem plain_FnCocycles (code : (List Int)) (h0 : Good1 .u8 code) : p_laws_FnCocycles code = some true := by
  unfold p_laws_FnCocycles p_laws_big
  simp only [Option.bind_some]
  by_cases hbig : (code.length : Int) > 4096
  · rw [if_pos (decide_eq_true hbig)]
  rw [if_neg (by simpa using hbig)]
  have hc : Bytes code := ⟨fun x hx => h0.2 x hx, by omega⟩
  obtain ⟨o, m, V, e1, ho⟩ := drawFault_ok hc
  obtain ⟨r, b, e2, e3, e4, e5, e6, _⟩ := fault_law (o := o) (m := m) (V := V) ho
  simp only [e1, e2, e3, e4, e5, Option.bind_some, neq_self, Bool.false_eq_true, if_false, like_self, Bool.not_true, bne_self_eq_false, ← e6]
  obtain ⟨xo, xm, xV, yo, ym, yV, d1, hx, hy⟩ := drawAdd_ok hc
  obtain ⟨s, d2, d3, d4⟩ := add_law (o := xo) (m := xm) (V := xV) (o' := yo) (m' := ym) (W := yV) hx hy
  simp only [d1, d2, d3, Option.bind_some, neq_self, Bool.false_eq_true, if_false, coc_self, Bool.not_true]
  refine bindFin (s := ()) ?_ ?_
  · by_cases hs : (s.2.2.2 == (0 : Int)) = true
    · rw [if_pos hs]
      obtain ⟨rfl, rfl, h, h', hn, rfl⟩ := d4 hs
      obtain ⟨hh, f1⟩ := roll_ok code 4021
      obtain ⟨e, a2, h2, f2, p1, p2, p3, p4⟩ := below_ok hc (a := 0) (Int.le_refl _) hh (xV.length : Int)
      have hn1 := h.ok.n1
      have p5 := p3 (by omega)
      obtain ⟨e, rfl⟩ := intN p2
      obtain ⟨a, b', g1, g2, g3, a0, a1, b0, b1⟩ := inv_sum h h' hn hx (e := e) (by omega)
      have hm := h.ok.mod
      have hne : ym ≠ 0 := by omega
      simp only [f1, f2, g1, g2, g3, (sumIs h h' hn).is hx, Option.bind_some, neq_self, Bool.or_self, Bool.false_eq_true, if_false, Bool.not_true, remI, ne_eq, hne, not_false_eq_true, if_true]
      rw [w64_small (by omega) (by omega), Int.tmod_eq_emod_of_nonneg (by omega)]
      simp only [neq_self, Bool.false_eq_true, if_false]
    · rw [if_neg hs]
  obtain ⟨n, k, c1⟩ := drawCyc_ok hc
  obtain ⟨t, c2, c3, c4⟩ := cyc_law n k
  simp only [c1, c2, c3, Option.bind_some, neq_self, Bool.false_eq_true, if_false, coc_self, Bool.not_true]
  refine bindFin (s := ()) ?_ ?_
  · by_cases hs : ((t.2.2.2 == (0 : Int)) && decide (n > 1)) = true
    · rw [if_pos hs]
      rw [Bool.and_eq_true] at hs
      obtain ⟨N, K, rfl, rfl, hN, hK, rfl⟩ := c4 hs.1
      have hN1 : (N : Int) > 1 := of_decide_eq_true hs.2
      simp only [cyc_inv (n := N) (k := K) (by omega) hK, (cycIs (n := N) (k := K) hN).is (by simp), Option.bind_some, neq_self, Bool.or_self, Bool.false_eq_true, if_false, Bool.not_true]
    · rw [if_neg hs]
  obtain ⟨n2, m2, k2, q1⟩ := drawMix_ok hc
  obtain ⟨u, q2, q3, q4⟩ := mix_law n2 m2 k2
  simp only [q1, q2, q3, Option.bind_some, neq_self, Bool.false_eq_true, if_false, coc_self, Bool.not_true]
  have hmix : (if (u.2.2.2 == (0 : Int)) = true then (p_impl_IsCocycle u.1 u.2.1 u.2.2.1).bind fun x => some (!x) else some false) = some false := by
    by_cases hs : (u.2.2.2 == (0 : Int)) = true
    · rw [if_pos hs, q4 hs]; rfl
    · rw [if_neg hs]
  rw [hmix]
  simp only [Option.bind_some, Bool.false_eq_true, if_false, implTriple, specTriple, triIs.is (by decide), if_true, coc_self]
end Go.VG
