/- The plain law of FnExactAddCocycles. No condition but the readings'. -/
import Derived.Test.YtajalkfoblcaaaaPlCocLaw
import Derived.Test.YtajalkfoblcaaaaPlOwn
import Derived.Test.YtajalkfoblcaaaaPlCube
import Derived.Test.YtajalkfoblcaaaaPlHeld3
set_option linter.all false
namespace Go.VG
section
variable {o : List Int} {m : Int} {V W : List (List (List Int))}
theorem CocOK.asCube (h : CocOK o m V) : V = cubeG (c3 V) V.length V.length V.length := by
  have e : (List.range V.length).map (fun i => V.getD i []) = V := map_range_getD V []
  conv => lhs; rw [← e]
  refine List.map_congr_left fun i hi => ?_
  have hi' : i < V.length := by simpa using hi
  exact eq_grid (h.rows i hi').1 (fun j hj => ((h.rows i hi').2 j hj).1)
def addC (V W : List (List (List Int))) (m : Int) (i j k : Nat) : Int := (c3 V i j k + c3 W i j k) % m
theorem specSum (h : CocOK o m V) (h' : CocOK o m W) (hn : W.length = V.length) (ho : (o.length : Int) ≤ 1048576) : p_spec_l17Sum o m V o m W = some (o, m, cubeG (addC V W m) V.length V.length V.length) := by
  have hs := h.small
  have hm := h.mod
  unfold p_spec_l17Sum
  rw [own1_eq o (by omega), own3_eq V (by omega) (fun x hx => by
    obtain ⟨i, hi, rfl⟩ := mem_getD [] hx
    refine ⟨by rw [(h.rows i hi).1]; omega, fun y hy => ?_⟩
    obtain ⟨j, hj, rfl⟩ := mem_getD [] hy
    rw [(h.rows i hi).1] at hj
    rw [((h.rows i hi).2 j hj).1]; omega)]
  simp only [Option.bind_some]
  have e0 := h.asCube
  conv => lhs; rw [show (fun s : List (List (List Int)) × Int => p_spec_l17Sum_L1 V W m s.1 s.2) = (fun s => p_spec_l17Sum_L1 V W m s.1 s.2) from rfl]
  have big := whileC_det (R := Unit) (step := fun s => p_spec_l17Sum_L1 V W m s.1 s.2) V.length (fun q => (cubeG (fun i j k => if i < q then addC V W m i j k else c3 V i j k) V.length V.length V.length, (q : Int))) (s' := (cubeG (addC V W m) V.length V.length V.length, (V.length : Int))) (fun i hi => by
    have hc : decide ((i : Int) < ((cubeG (fun a b c => if a < i then addC V W m a b c else c3 V a b c) V.length V.length V.length).length : Int)) = true := by rw [cubeG_len]; exact decide_eq_true (by omega)
    have ewi : w64 ((i : Int) + 1) = ((i + 1 : Nat) : Int) := by rw [w64_small (by omega) (by omega)]; omega
    simp only [p_spec_l17Sum_L1, hc, if_true, ewi]
    have mid := whileC_det (R := Unit) (step := fun s => p_spec_l17Sum_L2 (i : Int) V W m s.1 s.2) V.length (fun q => (cubeG (fun a b c => if a < i ∨ (a = i ∧ b < q) then addC V W m a b c else c3 V a b c) V.length V.length V.length, (q : Int))) (s' := (cubeG (fun a b c => if a < i + 1 then addC V W m a b c else c3 V a b c) V.length V.length V.length, (V.length : Int))) (fun j hj => by
      have hc2 : decide ((j : Int) < ((cubeG (fun a b c => if a < i ∨ (a = i ∧ b < j) then addC V W m a b c else c3 V a b c) V.length V.length V.length).length : Int)) = true := by rw [cubeG_len]; exact decide_eq_true (by omega)
      have ewj : w64 ((j : Int) + 1) = ((j + 1 : Nat) : Int) := by rw [w64_small (by omega) (by omega)]; omega
      simp only [p_spec_l17Sum_L2, hc2, if_true, ewj]
      rw [cubeG_len]
      rw [fill3row hi hj _ (fun k => addC V W m i j k) (fun k hk g hg => by
        have r1 := h.rng hi hj hk
        have r2 := h'.rng (i := i) (j := j) (k := k) (by omega) (by omega) (by omega)
        simp only [p_spec_l17Sum_L3, cubeG_idx hi, grid_idx hj, h.i1 hi, h.i2 hi hj, h.i3 hi hj hk, h'.i1 (i := i) (by omega), h'.i2 (i := i) (j := j) (by omega) (by omega), h'.i3 (i := i) (j := j) (k := k) (by omega) (by omega) (by omega), rowG_idx hk, Option.bind_some, Int.toNat_natCast]
        rw [w64_small (x := c3 V i j k + c3 W i j k) (by omega) (by omega)]
        have hne : m ≠ 0 := by omega
        simp only [remI, ne_eq, hne, not_false_eq_true, if_true, Option.bind_some]
        rw [Int.tmod_eq_emod_of_nonneg (by omega), cubeG_set hi hj hk]
        rfl)]
      simp only [Option.bind_some, onRes]
      congr 3
      refine cubeG_congr fun a ha b hb c hcc => ?_
      by_cases hab : a = i ∧ b = j
      · obtain ⟨rfl, rfl⟩ := hab; simp
      · have : (a < i ∨ (a = i ∧ b < j + 1)) ↔ (a < i ∨ (a = i ∧ b < j)) := by omega
        simp only [hab, if_false, this]) (by
      have hc2 : decide ((V.length : Int) < ((cubeG (fun a b c => if a < i ∨ (a = i ∧ b < V.length) then addC V W m a b c else c3 V a b c) V.length V.length V.length).length : Int)) = false := by rw [cubeG_len]; simp
      simp only [p_spec_l17Sum_L2, hc2, Bool.false_eq_true, if_false]
      congr 3
      refine cubeG_congr fun a ha b hb c hcc => ?_
      have : (a < i ∨ (a = i ∧ b < V.length)) ↔ a < i + 1 := by omega
      simp only [this])
    simp only [Nat.not_lt_zero, and_false, or_false] at mid
    rw [show ((0 : Nat) : Int) = 0 from rfl] at mid
    rw [mid]
    rfl) (by
    have hc : decide ((V.length : Int) < ((cubeG (fun a b c => if a < V.length then addC V W m a b c else c3 V a b c) V.length V.length V.length).length : Int)) = false := by rw [cubeG_len]; simp
    simp only [p_spec_l17Sum_L1, hc, Bool.false_eq_true, if_false]
    congr 3
    exact cubeG_congr fun a ha b hb c hcc => by simp [ha])
  simp only [Nat.not_lt_zero, if_false] at big
  rw [show ((0 : Nat) : Int) = 0 from rfl] at big
  rw [← e0] at big
  rw [big]
  rfl
theorem zeros_grid {n : Nat} (h : n ≤ 8) : p_impl_zeros (n : Int) (n : Int) = some (grid (fun _ _ => 0) n n) := by
  unfold p_impl_zeros
  simp only [Int.toNat_natCast]
  rw [zeros_eq (body := fun k s => p_impl_zeros_L1 (n : Int) k s) (by omega) (by omega) (fun k x => rfl)]
  rfl
theorem groupSize_eq (h : CocOK o m V) : p_impl_groupSize o = some (V.length : Int) := by
  obtain ⟨s, e, h1, h2⟩ := implSize (o := o)
  have hs := h.small
  have := h1.2 ⟨h.ne, h.pos, by rw [h.size]; omega⟩
  rw [e, h2 this, h.size]
/-- A cocycle told by a function of three elements. -/
theorem cocycleBy_eq (h : CocOK o m V) (ho : (o.length : Int) ≤ 1048576) {number : Int → Int → Int → Option Int} {F : Nat → Nat → Nat → Int} (hF : ∀ i j k, i < V.length → j < V.length → k < V.length → number (i : Int) (j : Int) (k : Int) = some (F i j k) ∧ -1000000 ≤ F i j k ∧ F i j k ≤ 1000000) :
    p_impl_cocycleBy o m number = some (o, m, cubeG (fun i j k => F i j k % m) V.length V.length V.length) := by
  have hs := h.small
  have hm := h.mod
  unfold p_impl_cocycleBy
  rw [clone1_eq o (by omega), groupSize_eq h]
  simp only [Option.bind_some, Int.toNat_natCast]
  rw [forN_app (R := Unit) (fun i => grid (fun j k => F i j k % m) V.length V.length) (fun i hi => by
    simp only [p_impl_cocycleBy_L1, zeros_grid hs, Option.bind_some, Int.toNat_natCast]
    rw [fill2 (inner := fun j k s => p_impl_cocycleBy_L3 j number i o m ((List.range i).map fun i => grid (fun j k => F i j k % m) V.length V.length) k s) _ (fun j k => F i j k % m) (fun j hj k hk g hg => by
      obtain ⟨f1, f2, f3⟩ := hF i j k hi hj hk
      simp only [p_impl_cocycleBy_L3, grid_idx hj, f1, Option.bind_some, rowG_idx hk, Int.toNat_natCast]
      rw [rest_eq hm ⟨f2, f3⟩]
      simp only [Option.bind_some]
      rw [grid_set hj hk]) (fun j hj g => by simp only [p_impl_cocycleBy_L2, Int.toNat_natCast])]
    simp only [Option.bind_some, onRes]
    rw [appL_range (fun i => grid (fun j k => F i j k % m) V.length V.length) (by omega)]
    rfl)]
  rfl
theorem implSum (h : CocOK o m V) (h' : CocOK o m W) (hn : W.length = V.length) (ho : (o.length : Int) ≤ 1048576) : p_impl_addCocycles o m V o m W = some (o, m, cubeG (addC V W m) V.length V.length V.length) := by
  unfold p_impl_addCocycles
  rw [cocycleBy_eq h ho (F := fun i j k => c3 V i j k + c3 W i j k) (fun i j k hi hj hk => by
    have r1 := h.rng hi hj hk
    have r2 := h'.rng (i := i) (j := j) (k := k) (by omega) (by omega) (by omega)
    simp only [p_impl_addCocycles_c1, h.i1 hi, h.i2 hi hj, h.i3 hi hj hk, h'.i1 (i := i) (by omega), h'.i2 (i := i) (j := j) (by omega) (by omega), h'.i3 (i := i) (j := j) (k := k) (by omega) (by omega) (by omega), Option.bind_some]
    rw [w64_small (by omega) (by omega)]
    exact ⟨rfl, by omega, by omega⟩)]
  rfl
end
theorem addCoc_eq {o o' : List Int} {m m' : Int} {V W : List (List (List Int))} (ho : (o.length : Int) ≤ 1048576) (ho' : (o'.length : Int) ≤ 1048576) : ∃ r, p_spec_AddCocycles o m V o' m' W = some r ∧ p_impl_AddCocycles o m V o' m' W = some r ∧ (r.1.length : Int) ≤ 1048576 ∧ r.2.2.1.length ≤ 8 ∧ ∀ x ∈ r.2.2.1, x.length ≤ 8 ∧ ∀ y ∈ x, y.length ≤ 8 := by
  unfold p_spec_AddCocycles p_impl_AddCocycles
  obtain ⟨b, e1, e2, hb⟩ := is_eq (o := o) (m := m) (V := V) ho
  obtain ⟨b', e1', e2', hb'⟩ := is_eq (o := o') (m := m') (V := W) ho'
  rw [e1, e2]
  simp only [Option.bind_some]
  cases b
  · exact ⟨([], 0, [], 1), rfl, rfl, by simp, by simp, by simp⟩
  simp only [Bool.not_true, Bool.false_eq_true, if_false, e1', e2', Option.bind_some]
  cases b'
  · exact ⟨([], 0, [], 1), rfl, rfl, by simp, by simp, by simp⟩
  have h := hb rfl
  have h' := hb' rfl
  simp only [Bool.not_true, Bool.false_eq_true, if_false]
  unfold p_impl_sameKind
  obtain ⟨d, f1, f2⟩ := eqS_says o o'
  have g1 : p_spec_l01Same o o' = some d := f1
  have g2 : p_slices_Equal_Lint64_int64 o o' = some d := f1
  rw [g1, g2]
  simp only [Option.bind_some]
  cases d
  · simp only [Bool.not_false, Bool.true_or, if_true, Bool.false_and]
    exact ⟨([], 0, [], 2), rfl, rfl, by simp, by simp, by simp⟩
  have eo := f2.1 rfl
  subst eo
  by_cases hmm : m = m'
  · subst hmm
    have hn : W.length = V.length := by have := h.size; have := h'.size; omega
    have hs := h.small
    simp only [Bool.not_true, Bool.false_or, bne_self_eq_false, Bool.false_eq_true, if_false, Bool.true_and, beq_self_eq_true, specSum h h' hn ho, implSum h h' hn ho, Option.bind_some]
    refine ⟨_, rfl, rfl, ho, by simp only [cubeG_len]; omega, fun x hx => ?_⟩
    simp only [cubeG, List.mem_map] at hx
    obtain ⟨i, _, rfl⟩ := hx
    refine ⟨by rw [grid_len]; omega, fun y hy => ?_⟩
    simp only [grid, List.mem_map] at hy
    obtain ⟨j, _, rfl⟩ := hy
    rw [rowG_len]; omega
  · have c1 : (m != m') = true := by simpa using hmm
    have c2 : (m == m') = false := by simpa using hmm
    simp only [c1, c2, Bool.not_true, Bool.false_or, if_true, Bool.and_false, Bool.not_false]
    exact ⟨([], 0, [], 2), rfl, rfl, by simp, by simp, by simp⟩
theorem markCocycle_held (o : List Int) (m m2 : Int) (V : List (List (List Int))) (ho : (o.length : Int) ≤ 1048576) (hV : V.length ≤ 8 ∧ ∀ x ∈ V, x.length ≤ 8 ∧ ∀ y ∈ x, y.length ≤ 8) :
    ∃ q, p_laws_markCocycle o m V 1 = some q ∧ 0 ≤ q.1 ∧ p_laws_heldCocycle q.2.1 m2 q.2.2 1 = some q.1 := by
  unfold p_laws_markCocycle p_laws_heldCocycle
  obtain ⟨l1, e1, _, h1⟩ := markS_held o 1 (by decide) (by omega)
  obtain ⟨r2, l2, e2, h2, h3, h4⟩ := markSSS_held V (1 + o.length) (by omega) (by omega) (fun x hx => ⟨by have := (hV.2 x hx).1; omega, fun y hy => by have := (hV.2 x hx).2 y hy; omega⟩) (by omega)
  rw [e1]
  simp only [Option.bind_some, e2]
  refine ⟨_, rfl, by omega, ?_⟩
  have n1 : ¬ (1 + (o.length : Int)) < 0 := by omega
  have n2 : ¬ r2 < 0 := by omega
  simp only [h1, Option.bind_some, n1, decide_false, Bool.false_eq_true, if_false, h4, n2]
theorem markCocycle_pos {o : List Int} {m : Int} {V : List (List (List Int))} (ho : (o.length : Int) ≤ 1048576) (hV : (V.length : Int) ≤ 1048576 ∧ ∀ x ∈ V, (x.length : Int) ≤ 1048576 ∧ ∀ y ∈ x, (y.length : Int) ≤ 1048576) :
    ∃ q, p_laws_markCocycle o m V 1 = some q ∧ 1 ≤ q.1 ∧ q.1 ≤ 2000000000000000000 := by
  unfold p_laws_markCocycle
  obtain ⟨l1, e1, _, _⟩ := markS_held o 1 (by omega) (by omega)
  rw [e1]
  simp only [Option.bind_some]
  obtain ⟨l2, r2, e2, h2, h3⟩ := markSSS_ok 1048576 (Nat.le_refl _) V (1 + o.length) (by omega) (by omega) (fun x hx => ⟨by have := (hV.2 x hx).1; omega, fun y hy => by have := (hV.2 x hx).2 y hy; omega⟩) (by omega)
  rw [e2]
  exact ⟨_, rfl, by omega, by omega⟩
theorem plain_FnExactAddCocycles (aC_Orders : (List Int)) (aC_Modulus : Int) (aC_Values : (List (List (List Int)))) (aD_Orders : (List Int)) (aD_Modulus : Int) (aD_Values : (List (List (List Int)))) (h0 : Good1 .i64 aC_Orders) (h1 : InR .i64 aC_Modulus) (h2 : Good3 .i64 aC_Values) (h3 : Good1 .i64 aD_Orders) (h4 : InR .i64 aD_Modulus) (h5 : Good3 .i64 aD_Values) : p_laws_FnExactAddCocycles aC_Orders aC_Modulus aC_Values aD_Orders aD_Modulus aD_Values = some true := by
  unfold p_laws_FnExactAddCocycles
  obtain ⟨r, e, hrl, hr⟩ := szCocycle_spec (m := aC_Modulus) 1048576 (by decide) h0 h2
  rw [e]
  simp only [Option.bind_some]
  by_cases hr0 : r < 0
  · simp [hr0]
  simp only [hr0, decide_false, Bool.false_eq_true, if_false]
  obtain ⟨et, ho, hV⟩ := hr (by omega)
  obtain ⟨r2, e2, hrl2, hr2⟩ := szCocycle_spec (m := aD_Modulus) r ⟨by omega, hrl⟩ h3 h5
  rw [e2]
  simp only [Option.bind_some]
  by_cases hr3 : r2 < 0
  · simp [hr3]
  simp only [hr3, decide_false, Bool.false_eq_true, if_false]
  obtain ⟨et2, ho2, hV2⟩ := hr2 (by omega)
  obtain ⟨x, g1, g2, g3, g4⟩ := addCoc_eq (o := aC_Orders) (m := aC_Modulus) (V := aC_Values) (o' := aD_Orders) (m' := aD_Modulus) (W := aD_Values) ho ho2
  obtain ⟨qa, n1, n2, n3⟩ := markCocycle_pos (m := aC_Modulus) ho hV
  obtain ⟨qb, k1, k2, _⟩ := markCocycle_ok (m := aD_Modulus) ho2 hV2 qa.1 ⟨n2, n3⟩
  obtain ⟨qc, w1, w2, w3⟩ := markCocycle_held x.1 x.2.1 x.2.1 x.2.2.1 g3 g4
  have hq : ¬ qb.1 < 0 := by omega
  have hp : ¬ qc.1 < 0 := by omega
  simp only [et, et2, Option.bind_some, g1, g2, eqCocycle_self, n1, k1, w1, w3]
  simp [hq, hp]
end Go.VG
