/- Characters: sums of products by the modulus; the test. No condition. -/
import Derived.Test.YtoobahemnnhkbaaPlComm0
set_option linter.all false
namespace Go.VG
def NumOK (x : List Int) : Prop := ∀ k, k < x.length → 0 ≤ x.getD k 0 ∧ x.getD k 0 ≤ 55440
def dotM (r x : List Int) : Int := sumN (fun k => r.getD k 0 * x.getD k 0) r.length % 55441

theorem tmod_eq {a : Int} (h : 0 ≤ a) : a.tmod 55441 = a % 55441 := Int.tmod_eq_emod_of_nonneg h
theorem add_emod (a b m : Int) : (a % m + b) % m = (a + b) % m := by rw [Int.emod_add_emod]
theorem prod_small {a b A B : Int} (ha : 0 ≤ a ∧ a ≤ A) (hb : 0 ≤ b ∧ b ≤ B) (hA : A * B ≤ 4000000000) : 0 ≤ a * b ∧ a * b ≤ 4000000000 ∧ w64 (a * b) = a * b := by
  have h1 := Int.mul_nonneg ha.1 hb.1
  have h2 : a * b ≤ A * B := Int.mul_le_mul ha.2 hb.2 hb.1 (by omega)
  exact ⟨h1, by omega, w64_small (by omega) (by omega)⟩

theorem specDot {r x : List Int} (hl : r.length = x.length) (h : ∀ k, k < r.length → 0 ≤ r.getD k 0 * x.getD k 0 ∧ r.getD k 0 * x.getD k 0 ≤ 4000000000) : p_spec_l01Dot r x = some (dotM r x) := by
  unfold p_spec_l01Dot
  have e : forN (fun k s => p_spec_l01Dot_L1 r x k s) r.length 0 (0 : Int) = some (.fin (sumN (fun k => r.getD k 0 * x.getD k 0) r.length % 55441)) := forN_det (R := Unit) (fun k => sumN (fun k => r.getD k 0 * x.getD k 0) k % 55441) (fun k hk => by
    have hp := h k hk
    simp only [p_spec_l01Dot_L1, idx_getD r 0 hk, idx_getD x 0 (by omega : k < x.length), Option.bind_some, sumN]
    rw [w64_small (x := r.getD k 0 * x.getD k 0) (by omega) (by omega)]
    have h1 := Int.emod_nonneg (sumN (fun k => r.getD k 0 * x.getD k 0) k) (b := 55441) (by decide)
    have h2 := Int.emod_lt_of_pos (sumN (fun k => r.getD k 0 * x.getD k 0) k) (b := 55441) (by decide)
    rw [w64_small (by omega) (by omega), tmod_eq (by omega), add_emod])
  rw [e]; rfl
theorem implDot {r x : List Int} (hl : r.length = x.length) (hn : r.length ≤ 1048576) (h : ∀ k, k < r.length → 0 ≤ r.getD k 0 * x.getD k 0 ∧ r.getD k 0 * x.getD k 0 ≤ 4000000000) : p_impl_dot r x = some (dotM r x) := by
  unfold p_impl_dot
  have hb : ∀ k, k ≤ r.length → 0 ≤ sumN (fun k => r.getD k 0 * x.getD k 0 % 55441) k ∧ sumN (fun k => r.getD k 0 * x.getD k 0 % 55441) k ≤ k * 55440 := by
    intro k hk
    have := sumN_bd (f := fun k => r.getD k 0 * x.getD k 0 % 55441) (a := 0) (b := 55440) (n := k) (fun j hj => by
      have h1 := Int.emod_nonneg (r.getD j 0 * x.getD j 0) (b := 55441) (by decide)
      have h2 := Int.emod_lt_of_pos (r.getD j 0 * x.getD j 0) (b := 55441) (by decide)
      omega)
    simpa using this
  have e : forN (fun k s => p_impl_dot_L1 r x k s) r.length 0 (0 : Int) = some (.fin (sumN (fun k => r.getD k 0 * x.getD k 0 % 55441) r.length)) := forN_det (R := Unit) (fun k => sumN (fun k => r.getD k 0 * x.getD k 0 % 55441) k) (fun k hk => by
    have hp := h k hk
    simp only [p_impl_dot_L1, idx_getD r 0 hk, idx_getD x 0 (by omega : k < x.length), Option.bind_some, sumN]
    rw [w64_small (x := r.getD k 0 * x.getD k 0) (by omega) (by omega), tmod_eq hp.1]
    have h1 := Int.emod_nonneg (r.getD k 0 * x.getD k 0) (b := 55441) (by decide)
    have h2 := Int.emod_lt_of_pos (r.getD k 0 * x.getD k 0) (b := 55441) (by decide)
    have := hb k (by omega)
    rw [w64_small (by omega) (by omega)])
  rw [e]
  simp only [Option.bind_some, onRes]
  rw [tmod_eq (hb _ (Nat.le_refl _)).1]
  have key : ∀ n, sumN (fun k => r.getD k 0 * x.getD k 0 % 55441) n % 55441 = sumN (fun k => r.getD k 0 * x.getD k 0) n % 55441 := by
    intro n
    induction n with
    | zero => rfl
    | succ n ih => simp only [sumN]; rw [← add_emod, ih, add_emod, Int.add_emod_emod]
  rw [key]; rfl

theorem specNums (x : List Int) : Says (p_spec_l01Numbers x) (NumOK x) := by
  unfold p_spec_l01Numbers
  refine Chk.says (forN_chk fun k hk _ => ?_)
  simp only [p_spec_l01Numbers_L1, p_spec_l01Number, p_spec_l01In, idx_getD x 0 hk, Option.bind_some]
  exact ChkC.congr (ChkC.ite rfl) (by simp)
theorem implNums (x : List Int) : Says (p_impl_areNumbers x) (NumOK x) := Says.id (allWithin_says x 0 55440)

def ChrOK (T : List (List (List Int))) (x : List Int) : Prop := x.getD 0 0 = 1 ∧ ∀ i, i < T.length → ∀ j, j < T.length → (x.getD i 0 * x.getD j 0) % 55441 = dotM (rowOf T i j) x
section
variable {T : List (List (List Int))} {x : List Int}
theorem row_prod (h : Cube T) (hl : x.length = T.length) (hx : NumOK x) {i j : Nat} (hi : i < T.length) (hj : j < T.length) : ∀ k, k < (rowOf T i j).length → 0 ≤ (rowOf T i j).getD k 0 * x.getD k 0 ∧ (rowOf T i j).getD k 0 * x.getD k 0 ≤ 4000000000 := by
  intro k hk
  have hk' : k < T.length := by rw [← h.row hi hj]; exact hk
  have := prod_small (h.rng hi hj hk') (hx k (by omega)) (by decide)
  exact ⟨this.1, this.2.1⟩
theorem specChr (h : Cube T) (hl : x.length = T.length) (hx : NumOK x) : Says (p_spec_l08Is T x) (ChrOK T x) := by
  have hn := h.1
  unfold p_spec_l08Is
  have e1 : ((x.length : Int) != (T.length : Int)) = false := (bne_len _ _).2 hl
  obtain ⟨b, e2, hb⟩ := specNums x
  rw [hb.2 hx] at e2
  simp only [e1, Bool.false_eq_true, if_false, e2, Option.bind_some, Bool.not_true, idx_zero x 0 (by omega : 0 < x.length)]
  by_cases h1 : x.getD 0 0 = 1
  · have e3 : (x.getD 0 0 != 1) = false := by simpa using h1
    simp only [e3, Bool.false_eq_true, if_false]
    refine Says.congr (Chk.says (forN_chk fun i hi _ => ?_)) (⟨fun hh => ⟨h1, hh⟩, fun hh => hh.2⟩ : (∀ i, i < T.length → ∀ j, j < T.length → (x.getD i 0 * x.getD j 0) % 55441 = dotM (rowOf T i j) x) ↔ ChrOK T x)
    simp only [p_spec_l08Is_L1]
    refine ChkC.loop (forN_chk fun j hj _ => ?_)
    have hp := prod_small (hx i (by omega)) (hx j (by omega)) (by decide)
    have ed := specDot (r := rowOf T i j) (x := x) (by rw [hl]; exact h.row hi hj) (row_prod h hl hx hi hj)
    simp only [p_spec_l08Is_L2, idx_getD x 0 (by omega : i < x.length), idx_getD x 0 (by omega : j < x.length), h.i1 hi, h.i2 hi hj, Option.bind_some]
    rw [show (T.getD i []).getD j [] = rowOf T i j from rfl, ed]
    simp only [Option.bind_some]
    rw [hp.2.2, tmod_eq hp.1]
    exact ChkC.congr (ChkC.ite rfl) (by simp)
  · have e3 : (x.getD 0 0 != 1) = true := by simpa using h1
    simp only [e3, if_true]
    exact ⟨false, rfl, by simp; exact fun hh => h1 hh.1⟩
theorem implChr (h : Cube T) (hl : x.length = T.length) (hx : NumOK x) : Says (p_impl_Ring_isCharacter T x) (ChrOK T x) := by
  have hn := h.1
  unfold p_impl_Ring_isCharacter
  have := forN_chk (N := T.length) (R := Bool) (Bad := fun r => r = false) (body := fun k s => p_impl_Ring_isCharacter_L1 T x k) (P := fun i => ∀ j, j < T.length → (x.getD i 0 * x.getD j 0) % 55441 = dotM (rowOf T i j) x) fun i hi _ => by
    simp only [p_impl_Ring_isCharacter_L1, h.i1 hi, Option.bind_some]
    rw [h.mat hi]
    refine ChkC.loop (forN_chk fun j hj _ => ?_)
    have hp := prod_small (hx i (by omega)) (hx j (by omega)) (by decide)
    have ed := implDot (r := rowOf T i j) (x := x) (by rw [hl]; exact h.row hi hj) (by rw [show (rowOf T i j).length = T.length from h.row hi hj]; omega) (row_prod h hl hx hi hj)
    simp only [p_impl_Ring_isCharacter_L2, idx_getD x 0 (by omega : i < x.length), idx_getD x 0 (by omega : j < x.length), h.i2 hi hj, Option.bind_some]
    rw [show (T.getD i []).getD j [] = rowOf T i j from rfl, ed]
    simp only [Option.bind_some]
    rw [hp.2.2, tmod_eq hp.1]
    exact ChkC.congr (ChkC.ite rfl) (by simp; exact eq_comm)
  rcases this with ⟨h1, e⟩ | ⟨h1, r, e, rfl⟩ <;> rw [e] <;> simp only [Option.bind_some, onRes]
  · rw [idx_zero x 0 (by omega)]
    exact ⟨_, rfl, by simp only [beq_iff_eq]; exact ⟨fun hh => ⟨hh, h1⟩, fun hh => hh.1⟩⟩
  · exact ⟨false, rfl, by simp; exact fun hh => h1 hh.2⟩
end
end Go.VG
