/- What has no fault is a cocycle: the equation of cocycles. No condition. -/
import Derived.Test.YtjjjljlobfpbnaaPlCocG
set_option linter.all false
namespace Go.VG
def CocEq (o : List Int) (m : Int) (V : List (List (List Int))) : Prop := ∀ i, i < V.length → ∀ j, j < V.length → ∀ k, k < V.length → ∀ l, l < V.length →
  (c3 V j k l - c3 V (gn o i j) k l + c3 V i (gn o j k) l - c3 V i j (gn o k l) + c3 V i j k) % m = 0
structure IsC (o : List Int) (m : Int) (V : List (List (List Int))) : Prop where
  ok : CocOK o m V
  norm : NormOK V
  eq : CocEq o m V
section
variable {o : List Int} {m : Int} {V : List (List (List Int))}
theorem implFault (h : CocOK o m V) : ∃ r, p_impl_Cocycle_fault o m V = some r ∧ (r.isEmpty = true ↔ CocEq o m V) := by
  have hm := h.mod
  have G := Grp.of h
  have := forN_chk (N := V.length) (R := List Int) (Bad := fun r => r.isEmpty = false) (body := fun k s => p_impl_Cocycle_fault_L1 V o m k) (P := fun i => ∀ j, j < V.length → ∀ k, k < V.length → ∀ l, l < V.length →
      (c3 V j k l - c3 V (gn o i j) k l + c3 V i (gn o j k) l - c3 V i j (gn o k l) + c3 V i j k) % m = 0) fun i hi _ => by
    simp only [p_impl_Cocycle_fault_L1]
    refine ChkC.loop (forN_chk fun j hj _ => ?_)
    simp only [p_impl_Cocycle_fault_L2]
    refine ChkC.loop (forN_chk fun k hk _ => ?_)
    simp only [p_impl_Cocycle_fault_L3]
    refine ChkC.loop (forN_chk fun l hl _ => ?_)
    obtain ⟨a1, b1, _⟩ := G.gadd hi hj
    obtain ⟨a2, b2, _⟩ := G.gadd hj hk
    obtain ⟨a3, b3, _⟩ := G.gadd hk hl
    have r1 := h.rng hj hk hl
    have r2 := h.rng b1 hk hl
    have r3 := h.rng hi b2 hl
    have r4 := h.rng hi hj b3
    have r5 := h.rng hi hj hk
    simp only [p_impl_Cocycle_fault_L4, p_impl_Cocycle_plus, implAdd h.pos, a1, a2, a3, Option.bind_some, h.i1 hj, h.i2 hj hk, h.i3 hj hk hl, h.i1 b1, h.i2 b1 hk, h.i3 b1 hk hl, h.i1 hi, h.i2 hi b2, h.i3 hi b2 hl, h.i2 hi hj, h.i3 hi hj b3, h.i3 hi hj hk]
    generalize c3 V j k l = q1 at *
    generalize c3 V (gn o i j) k l = q2 at *
    generalize c3 V i (gn o j k) l = q3 at *
    generalize c3 V i j (gn o k l) = q4 at *
    generalize c3 V i j k = q5 at *
    rw [w64_small (x := q1 - q2) (by omega) (by omega), w64_small (x := q1 - q2 + q3) (by omega) (by omega), w64_small (x := q1 - q2 + q3 - q4) (by omega) (by omega), w64_small (x := q1 - q2 + q3 - q4 + q5) (by omega) (by omega), rest_eq hm (by omega)]
    simp only [Option.bind_some]
    exact ChkC.congr (ChkC.ite rfl) (by simp)
  unfold p_impl_Cocycle_fault
  rcases this with ⟨h1, h2⟩ | ⟨h1, r, h2, h3⟩
  · rw [h2]; exact ⟨[], rfl, fun _ => h1, fun _ => rfl⟩
  · rw [h2]; exact ⟨r, rfl, fun h => (by rw [h3] at h; cases h), fun h => absurd h h1⟩
/-- The error and the fault, the same in the program and in the specification; whether it is a cocycle, too. -/
theorem fault_law (ho : (o.length : Int) ≤ 1048576) : ∃ r b, p_impl_CocycleFault o m V = some r ∧ p_spec_CocycleFault o m V = some r ∧ p_impl_IsCocycle o m V = some b ∧ p_spec_IsCocycle o m V = some b ∧ b = (r.2 == (4 : Int)) ∧ (b = true ↔ IsC o m V) := by
  obtain ⟨b1, e1, hb1⟩ := specShape (o := o) (m := m) (V := V)
  have e2 : p_impl_isCochain o m V = some b1 := by rw [← e1]; exact (implShape.eq specShape)
  unfold p_impl_CocycleFault p_spec_CocycleFault p_impl_IsCocycle p_spec_IsCocycle p_spec_l17Is
  rw [e1, e2]
  simp only [Option.bind_some]
  cases b1
  · exact ⟨([], 1), false, rfl, rfl, rfl, rfl, by decide, by simp; exact fun h => absurd (hb1.2 h.ok) (by simp)⟩
  have hc := hb1.1 rfl
  obtain ⟨b2, e3, hb3⟩ := specNormal hc
  have e4 : p_impl_Cocycle_isNormalised o m V = some b2 := by rw [← e3]; exact ((implNormal hc).eq (specNormal hc))
  simp only [Bool.not_true, Bool.false_eq_true, if_false, if_true, e3, e4, Option.bind_some]
  cases b2
  · exact ⟨([], 5), false, rfl, rfl, rfl, rfl, by decide, by simp; exact fun h => absurd (hb3.2 h.norm) (by simp)⟩
  have hn := hb3.1 rfl
  obtain ⟨r, e5, e6⟩ := fault_eq hc ho
  obtain ⟨r', e7, hr⟩ := implFault hc
  obtain rfl : r = r' := Option.some.inj (e6.symm.trans e7)
  simp only [Bool.not_true, Bool.false_eq_true, if_false, if_true, e5, e6, Option.bind_some]
  have el : ((r.length : Int) == 0) = r.isEmpty := by cases r <;> simp; omega
  rw [el]
  cases hE : r.isEmpty
  · refine ⟨(r, 0), false, rfl, rfl, rfl, rfl, rfl, ?_⟩
    rw [hE] at hr
    simp only [Bool.false_eq_true, false_iff] at hr ⊢
    exact fun h => hr h.eq
  · refine ⟨([], 4), true, rfl, rfl, rfl, rfl, by decide, ?_⟩
    rw [hE] at hr
    simp only [true_iff] at hr ⊢
    exact ⟨hc, hn, hr⟩
theorem IsC.is (h : IsC o m V) (ho : (o.length : Int) ≤ 1048576) : p_impl_IsCocycle o m V = some true := by
  obtain ⟨r, b, _, _, e, _, _, hb⟩ := fault_law (m := m) (V := V) ho
  rw [e, hb.2 h]
theorem Grp.coc {n : Nat} (G : Grp o n) (hm : 1 ≤ m ∧ m ≤ 1000) {F : Nat → Nat → Nat → Int} (hF : ∀ i, i < n → ∀ j, j < n → ∀ k, k < n → 0 ≤ F i j k ∧ F i j k ≤ m - 1) : CocOK o m (cubeG F n n n) := by
  refine ⟨G.ne, G.pos, by rw [cubeG_len]; exact G.size, by rw [cubeG_len]; exact G.small, hm, fun i hi => ?_⟩
  rw [cubeG_len] at hi ⊢
  rw [cubeG_getD hi]
  refine ⟨grid_len, fun j hj => ?_⟩
  rw [grid_getD hj]
  refine ⟨rowG_len, fun k hk => ?_⟩
  have e : at2 (grid (F i) n n) j k = F i j k := by unfold at2; rw [grid_getD hj]; exact vecG_getD hk
  rw [e]; exact hF i hi j hj k hk
theorem c3_cube {F : Nat → Nat → Nat → Int} {n i j k : Nat} (hi : i < n) (hj : j < n) (hk : k < n) : c3 (cubeG F n n n) i j k = F i j k := by
  unfold c3; rw [cubeG_getD hi, grid_getD hj]; exact vecG_getD hk
/-- A cochain told by a function of three elements is a cocycle. -/
theorem Grp.isC {n : Nat} (G : Grp o n) (hm : 1 ≤ m ∧ m ≤ 1000) {F : Nat → Nat → Nat → Int} (hF : ∀ i, i < n → ∀ j, j < n → ∀ k, k < n → 0 ≤ F i j k ∧ F i j k ≤ m - 1)
    (hN : ∀ i, i < n → ∀ j, j < n → F 0 i j = 0 ∧ F i 0 j = 0 ∧ F i j 0 = 0)
    (hE : ∀ i, i < n → ∀ j, j < n → ∀ k, k < n → ∀ l, l < n → (F j k l - F (gn o i j) k l + F i (gn o j k) l - F i j (gn o k l) + F i j k) % m = 0) : IsC o m (cubeG F n n n) := by
  have n1 := G.n1
  refine ⟨G.coc hm hF, fun i hi j hj => ?_, fun i hi j hj k hk l hl => ?_⟩
  · rw [cubeG_len] at hi hj
    rw [c3_cube (by omega) hi hj, c3_cube hi (by omega) hj, c3_cube hi hj (by omega)]
    exact hN i hi j hj
  · rw [cubeG_len] at hi hj hk hl
    rw [c3_cube hj hk hl, c3_cube (G.gadd hi hj).2.1 hk hl, c3_cube hi (G.gadd hj hk).2.1 hl, c3_cube hi hj (G.gadd hk hl).2.1, c3_cube hi hj hk]
    exact hE i hi j hj k hk l hl
end
end Go.VG
