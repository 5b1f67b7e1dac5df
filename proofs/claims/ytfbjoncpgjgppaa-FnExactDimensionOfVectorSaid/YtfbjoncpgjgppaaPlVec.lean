/- Vectors: the test for them; the least element. No condition. -/
import Derived.Test.YtfbjoncpgjgppaaPlRing2
set_option linter.all false
namespace Go.VG

def VecOK (n : Nat) (x : List Int) : Prop := x.length = n ∧ ∀ k, k < x.length → 0 ≤ x.getD k 0 ∧ x.getD k 0 ≤ 1000000
section
variable {T : List (List (List Int))} {d : List Int}
theorem specVector : Says (p_spec_l03Vector T d) (VecOK T.length d) := by
  unfold p_spec_l03Vector
  have := forN_chk (N := d.length) (R := Bool) (Bad := fun r => r = false) (body := fun k s => p_spec_l03Vector_L1 d k) (P := fun k => 0 ≤ d.getD k 0 ∧ d.getD k 0 ≤ 1000000) fun k hk _ => by
    simp only [p_spec_l03Vector_L1, p_spec_l01In, idx_getD d 0 hk, Option.bind_some]
    exact ChkC.congr (ChkC.ite rfl) (by simp)
  rcases this with ⟨h1, e⟩ | ⟨h1, r, e, rfl⟩ <;> rw [e] <;> simp only [Option.bind_some, onRes]
  · exact ⟨_, rfl, by simp only [beq_iff_eq]; exact ⟨fun h => ⟨by omega, h1⟩, fun h => by have := h.1; omega⟩⟩
  · exact ⟨false, rfl, by simp; exact fun h => h1 h.2⟩
theorem implVector : Says (p_impl_Ring_isVector T d) (VecOK T.length d) := by
  unfold p_impl_Ring_isVector
  refine Says.congr (Says.id (Says.and fun _ => Says.id (allWithin_says d 0 1000000))) ?_
  simp only [beq_iff_eq]
  exact ⟨fun h => ⟨by have := h.1; omega, h.2⟩, fun h => ⟨by have := h.1; omega, h.2⟩⟩

theorem min_spec {x : List Int} (h : 1 ≤ x.length) : ∃ m, p_slices_Min_Lint64_int64 x = some m ∧ (∀ k, k < x.length → m ≤ x.getD k 0) ∧ ∃ k, k < x.length ∧ x.getD k 0 = m := by
  unfold p_slices_Min_Lint64_int64
  have e : decide ((x.length : Int) < 1) = false := by simp; omega
  simp only [e, Bool.false_eq_true, if_false, Option.bind_some, idx_zero x 0 (by omega : 0 < x.length)]
  have e2 : ((x.length : Int) - 1).toNat = x.length - 1 := by omega
  rw [e2]
  obtain ⟨s, h1, h2, h3⟩ := forN_inv (R := Unit) (body := fun k s => p_slices_Min_Lint64_int64_L1 x k s) (N := x.length - 1) (s := x.getD 0 0) (fun j s => (∀ k, k < j + 1 → s ≤ x.getD k 0) ∧ ∃ k, k < x.length ∧ x.getD k 0 = s)
    ⟨fun k hk => by have : k = 0 := by omega
                    subst this; exact Int.le_refl _, 0, by omega, rfl⟩ (fun j s hj hs => by
      have ei : (1 : Int) + (j : Int) = ((j + 1 : Nat) : Int) := by omega
      simp only [p_slices_Min_Lint64_int64_L1, ei, idx_getD x 0 (by omega : j + 1 < x.length), Option.bind_some]
      refine ⟨_, rfl, fun k hk => ?_, ?_⟩
      · have := hs.1 k
        by_cases hkj : k = j + 1
        · subst hkj; split <;> omega
        · have := this (by omega)
          split <;> omega
      · split
        · exact ⟨j + 1, by omega, rfl⟩
        · exact hs.2)
  rw [h1]
  exact ⟨s, rfl, fun k hk => h2 k (by omega), h3⟩
end
end Go.VG
