/- The plain law of FnExactIsDimension: the code's answer is the model's. No condition but the readings'. -/
import Derived.Test.YtppnedfpdobgiaaPlVec
set_option linter.all false
namespace Go.VG

def dimS (T : List (List (List Int))) (d : List Int) (i j : Nat) (k : Nat) : Int := w64 (at3 T i j k * d.getD k 0)
def DimOK (T : List (List (List Int))) (d : List Int) : Prop := ∀ i, i < d.length → ∀ j, j < d.length → 1 ≤ d.getD i 0 ∧ sumW (dimS T d i j) d.length = w64 (d.getD i 0 * d.getD j 0)

section
variable {T : List (List (List Int))} {d : List Int}
theorem specDim (h : Cube T) (hd : d.length = T.length) : Says (p_spec_l04Is T d) (DimOK T d) := by
  unfold p_spec_l04Is
  refine Chk.says (forN_chk fun i hi _ => ?_)
  have hi' : i < T.length := by omega
  simp only [p_spec_l04Is_L1]
  refine ChkC.loop (forN_chk fun j hj _ => ?_)
  have hj' : j < T.length := by omega
  simp only [p_spec_l04Is_L2]
  have e : forN (fun k s => p_spec_l04Is_L3 T i j d k s) d.length 0 (0 : Int) = some (.fin (sumW (dimS T d i j) d.length)) := forN_det (R := Unit) (fun k => sumW (dimS T d i j) k) (fun k hk => by
    simp only [p_spec_l04Is_L3, h.i1 hi', h.i2 hi' hj', h.i3 hi' hj' (by omega : k < T.length), idx_getD d 0 hk, Option.bind_some, sumW, dimS])
  rw [e]
  simp only [Option.bind_some, onRes, idx_getD d 0 hi, idx_getD d 0 hj]
  refine ChkC.congr (ChkC.bindB (Says.or fun _ => ⟨_, rfl, Iff.rfl⟩) rfl) ?_
  simp [not_or]
theorem implDim (h : Cube T) (hd : d.length = T.length) : Says (p_impl_Ring_isDimension T d) (DimOK T d) := by
  unfold p_impl_Ring_isDimension
  have hn := h.1.1
  obtain ⟨m, hm, hmin, k0, hk0, hmk⟩ := min_spec (x := d) (by omega)
  have := forN_chk (N := T.length) (R := Bool) (Bad := fun r => r = false) (body := fun k s => p_impl_Ring_isDimension_L1 T d k) (P := fun i => ∀ j, j < d.length → sumW (dimS T d i j) d.length = w64 (d.getD i 0 * d.getD j 0)) fun i hi _ => by
    simp only [p_impl_Ring_isDimension_L1, h.i1 hi, Option.bind_some]
    rw [h.mat hi]
    refine ChkC.congr (ChkC.loop (forN_chk (P := fun j => sumW (dimS T d i j) d.length = w64 (d.getD i 0 * d.getD j 0)) fun j hj _ => ?_)) (by rw [hd])
    simp only [p_impl_Ring_isDimension_L2, h.i2 hi hj, Option.bind_some]
    rw [h.row hi hj]
    have e : forN (fun k s => p_impl_Ring_isDimension_L3 ((T.getD i []).getD j []) d k s) T.length 0 (0 : Int) = some (.fin (sumW (dimS T d i j) T.length)) := forN_det (R := Unit) (fun k => sumW (dimS T d i j) k) (fun k hk => by
      simp only [p_impl_Ring_isDimension_L3, h.i3 hi hj hk, idx_getD d 0 (by omega : k < d.length), Option.bind_some, sumW, dimS])
    rw [e]
    simp only [Option.bind_some, onRes, idx_getD d 0 (by omega : i < d.length), idx_getD d 0 (by omega : j < d.length)]
    exact ChkC.congr (ChkC.ite rfl) (by simp [hd])
  rcases this with ⟨h1, e⟩ | ⟨h1, r, e, rfl⟩ <;> rw [e] <;> simp only [Option.bind_some, onRes]
  · rw [hm]
    refine ⟨_, rfl, ?_⟩
    simp only [decide_eq_true_eq]
    constructor
    · intro hp i hi j hj
      exact ⟨by have := hmin i hi; omega, h1 i (by omega) j hj⟩
    · intro hh
      have := (hh k0 hk0 k0 hk0).1
      omega
  · exact ⟨false, rfl, by simp; exact fun hh => h1 fun i hi j hj => (hh i (by omega) j hj).2⟩

theorem isDimension_eq : ∃ r, p_spec_IsDimension T d = some r ∧ p_impl_IsDimension T d = some r := by
  unfold p_spec_IsDimension p_impl_IsDimension
  obtain ⟨b, e1, hb⟩ := specIs (T := T)
  have e2 : p_impl_IsRing T = some b := by rw [← e1]; exact (implIs.eq specIs)
  rw [e1, e2]
  cases b
  · exact ⟨_, rfl, rfl⟩
  · have hr := hb.1 rfl
    obtain ⟨b, e1, hb⟩ := specVector (T := T) (d := d)
    have e2 : p_impl_Ring_isVector T d = some b := by rw [← e1]; exact (implVector.eq specVector)
    simp only [Option.bind_some, Bool.not_true, Bool.false_eq_true, if_false, e1, e2]
    cases b
    · exact ⟨_, rfl, rfl⟩
    · have hv := hb.1 rfl
      simp only [Bool.not_true, Bool.false_eq_true, if_false]
      obtain ⟨b, e1, _⟩ := specDim hr.cube hv.1
      have e2 : p_impl_Ring_isDimension T d = some b := by rw [← e1]; exact ((implDim hr.cube hv.1).eq (specDim hr.cube hv.1))
      rw [e1, e2]
      exact ⟨_, rfl, rfl⟩
end

theorem plain_FnExactIsDimension (aR_Table : (List (List (List Int)))) (aD : (List Int)) (h0 : Good3 .i64 aR_Table) (h1 : Good1 .i64 aD) : p_laws_FnExactIsDimension aR_Table aD = some true := by
  unfold p_laws_FnExactIsDimension
  by_cases hl : (aD.length : Int) > 1048576
  · simp [hl]
  · simp only [hl, decide_false, Bool.false_eq_true, if_false]
    obtain ⟨r, e, hr, hs⟩ := szRing_spec aR_Table 1048576 (by decide) (by decide) h0
    rw [e]
    simp only [Option.bind_some]
    by_cases hr0 : r < 0
    · simp [hr0]
    · simp only [hr0, decide_false, Bool.false_eq_true, if_false]
      obtain ⟨x, e1, e2⟩ := isDimension_eq (T := aR_Table) (d := aD)
      simp only [toRing_eq aR_Table hs (by omega), toInt64S_eq aD (by omega), Option.bind_some, e1, e2, eqRing_self, eqS_self]
      simp
end Go.VG
