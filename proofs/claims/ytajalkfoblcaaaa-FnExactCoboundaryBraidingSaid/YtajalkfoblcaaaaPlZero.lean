/- The cocycle that is zero everywhere. No condition. -/
import Derived.Test.YtajalkfoblcaaaaPlBraidBy
import Derived.Test.YtajalkfoblcaaaaPlBraid
set_option linter.all false
namespace Go.VG
def zeroC (n : Nat) : List (List (List Int)) := cubeG (fun _ _ _ => (0 : Int)) n n n
theorem zeroC_len {n : Nat} : (zeroC n).length = n := cubeG_len
theorem zeroC_at {n i j k : Nat} (hi : i < n) (hj : j < n) (hk : k < n) : c3 (zeroC n) i j k = 0 := by
  unfold c3 zeroC
  rw [cubeG_getD hi, grid_getD hj, show rowG (fun _ _ => (0 : Int)) n j = vecG (fun _ => 0) n from rfl, vecG_getD hk]
section
variable {o : List Int} {m : Int} {n : Nat}
theorem zero_ok (h1 : 1 ≤ o.length) (h2 : ∀ x ∈ o, 1 ≤ x) (h3 : prodL o = n) (h4 : n ≤ 8) (hm : 1 ≤ m ∧ m ≤ 1000) : CocOK o m (zeroC n) := by
  refine ⟨h1, h2, by rw [zeroC_len]; exact h3, by rw [zeroC_len]; exact h4, hm, fun i hi => ?_⟩
  rw [zeroC_len] at hi ⊢
  have e : (zeroC n).getD i [] = grid (fun _ _ => (0 : Int)) n n := by unfold zeroC; rw [cubeG_getD hi]
  rw [e]
  refine ⟨grid_len, fun j hj => ?_⟩
  rw [grid_getD hj]
  refine ⟨rowG_len, fun k hk => ?_⟩
  have : at2 (grid (fun _ _ => (0 : Int)) n n) j k = 0 := by
    unfold at2
    rw [grid_getD hj, show rowG (fun _ _ => (0 : Int)) n j = vecG (fun _ => 0) n from rfl, vecG_getD hk]
  rw [this]; omega
theorem all_next {R : Type} {b : Nat → Unit → Option (Ctl Unit R)} {N : Nat} (h : ∀ j, j < N → b j () = some (.next ())) : forN b N 0 () = some (.fin ()) :=
  forN_det (body := b) (N := N) (fun _ => ()) (fun j hj => h j hj)
theorem zero_is (h : CocOK o m (zeroC n)) (hl : (o.length : Int) ≤ 1048576) : p_spec_l17Is o m (zeroC n) = some true := by
  have hln : (zeroC n).length = n := zeroC_len
  have hm := h.mod
  unfold p_spec_l17Is
  have s1 : p_spec_l17Shape o m (zeroC n) = some true := by
    obtain ⟨b, e, hb⟩ := specShape (o := o) (m := m) (V := zeroC n)
    rw [e, hb.2 h]
  have s2 : p_spec_l17Normal o m (zeroC n) = some true := by
    obtain ⟨b, e, hb⟩ := specNormal h
    rw [e, hb.2 (fun i hi j hj => by
      rw [hln] at hi hj
      have h0 : 0 < n := by omega
      exact ⟨zeroC_at h0 hi hj, zeroC_at hi h0 hj, zeroC_at hi hj h0⟩)]
  have s3 : p_spec_l17Fault o m (zeroC n) = some [] := by
    unfold p_spec_l17Fault
    simp only [Int.toNat_natCast, hln]
    rw [all_next (fun i hi => by
      simp only [p_spec_l17Fault_L1, Int.toNat_natCast, hln]
      rw [all_next (fun j hj => by
        simp only [p_spec_l17Fault_L2, Int.toNat_natCast, hln]
        rw [all_next (fun k hk => by
          simp only [p_spec_l17Fault_L3, Int.toNat_natCast, hln]
          rw [all_next (fun l hll => by
            have hi' : i < (zeroC n).length := by omega
            have hj' : j < (zeroC n).length := by omega
            have hk' : k < (zeroC n).length := by omega
            have hl' : l < (zeroC n).length := by omega
            obtain ⟨ij, a1, b1⟩ := h.add hi' hj'
            obtain ⟨jk, a2, b2⟩ := h.add hj' hk'
            obtain ⟨kl, a3, b3⟩ := h.add hk' hl'
            have d1 : ij < n := by omega
            have d2 : jk < n := by omega
            have d3 : kl < n := by omega
            simp only [p_spec_l17Fault_L4, specAdd h.pos hl, a1, a2, a3, Option.bind_some, h.i1 hj', h.i2 hj' hk', h.i3 hj' hk' hl', h.i1 b1, h.i2 b1 hk', h.i3 b1 hk' hl', h.i1 hi', h.i2 hi' b2, h.i3 hi' b2 hl', h.i2 hi' hj', h.i3 hi' hj' b3, h.i3 hi' hj' hk', zeroC_at hj hk hll, zeroC_at d1 hk hll, zeroC_at hi d2 hll, zeroC_at hi hj d3, zeroC_at hi hj hk]
            have hne : m ≠ 0 := by omega
            have w0 : w64 0 = 0 := w64_small (by decide) (by decide)
            simp only [Int.sub_zero, Int.add_zero, w0, remI, ne_eq, hne, not_false_eq_true, if_true, Option.bind_some, Int.zero_tmod, bne_self_eq_false, Bool.false_eq_true, if_false])]
          rfl)]
        rfl)]
      rfl)]
    rfl
  simp only [s1, s2, s3, Option.bind_some, if_true]
  rfl
theorem zeroBy (h : CocOK o m (zeroC n)) (hl : (o.length : Int) ≤ 1048576) {number : Int → Int → Int → Option Int} (hF : ∀ i j k : Nat, number (i : Int) (j : Int) (k : Int) = some 0) : p_impl_cocycleBy o m number = some (o, m, zeroC n) := by
  rw [cocycleBy_eq h hl (F := fun _ _ _ => 0) (fun i j k _ _ _ => ⟨hF i j k, by decide, by decide⟩)]
  rw [zeroC_len]
  simp only [Int.zero_emod]
  rfl
end
end Go.VG
