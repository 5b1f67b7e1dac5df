/- Whether a beginning fits: the code's question is the model's. Plain. -/
import Derived.Test.YtopabdbonlnijaaPlIsoRef
set_option linter.all false
namespace Go.VG
theorem whileChk {R : Type} {step : Int → Option (Ctl Int R)} {P : Nat → Prop} {Bad : R → Prop} {N : Nat}
    (hs : ∀ j, j < N → (P j ∧ step (j : Int) = some (.next ((j + 1 : Nat) : Int))) ∨ (¬ P j ∧ ∃ r, step (j : Int) = some (.ret r) ∧ Bad r)) (hN : step (N : Int) = some (.brk (N : Int))) :
    ((∀ j, j < N → P j) ∧ whileC step (0 : Int) = some (.fin (N : Int))) ∨ (¬ (∀ j, j < N → P j) ∧ ∃ r, whileC step (0 : Int) = some (.ret r) ∧ Bad r) := by
  have key : ∀ m i, N - i = m → i ≤ N → ((∀ j, i ≤ j → j < N → P j) ∧ ∃ n, iterW step n (i : Int) = some (.fin (N : Int))) ∨ (¬ (∀ j, i ≤ j → j < N → P j) ∧ ∃ r n, iterW step n (i : Int) = some (.ret r) ∧ Bad r) := by
    intro m
    induction m with
    | zero =>
      intro i h1 h2
      obtain rfl : i = N := by omega
      exact .inl ⟨fun j h3 h4 => by omega, 1, iterW_brk hN⟩
    | succ m ih =>
      intro i h1 h2
      rcases hs i (by omega) with ⟨hp, h3⟩ | ⟨hp, r, h3, hb⟩
      · rcases ih (i + 1) (by omega) (by omega) with ⟨h4, n, h5⟩ | ⟨h4, r, n, h5, hb⟩
        · exact .inl ⟨fun j h6 h7 => by
            by_cases e : i = j
            · subst e; exact hp
            · exact h4 j (by omega) h7, n + 1, iterW_next h3 h5⟩
        · exact .inr ⟨fun h => h4 fun j h6 h7 => h j (by omega) h7, r, n + 1, iterW_next h3 h5, hb⟩
      · exact .inr ⟨fun h => hp (h i (Nat.le_refl _) (by omega)), r, 1, iterW_ret h3, hb⟩
  rcases key N 0 (by omega) (Nat.zero_le _) with ⟨h1, n, h2⟩ | ⟨h1, r, n, h2, hb⟩
  · exact .inl ⟨fun j hj => h1 j (Nat.zero_le _) hj, whileC_of h2⟩
  · exact .inr ⟨fun h => h1 fun j _ hj => h j hj, r, whileC_of h2, hb⟩
theorem castL_len (p : List Nat) : (castL p).length = p.length := by simp [castL]
theorem castL_idx {p : List Nat} {i : Nat} (h : i < p.length) : idx (castL p) (i : Int) = some ((p.getD i 0 : Nat) : Int) := by
  rw [idx_getD _ 0 (by rw [castL_len]; exact h)]
  simp [castL, List.getD, List.getElem?_eq_getElem h]
theorem castL_app (p : List Nat) (x : Nat) : castL (p ++ [x]) = castL p ++ [(x : Int)] := by simp [castL]
section
variable {T S : List (List (List Int))}
def FitAt (T S : List (List (List Int))) (p : List Nat) (x y z : Nat) : Prop := x + 1 = p.length ∨ y + 1 = p.length ∨ z + 1 = p.length → at3 T x y z = at3 S (p.getD x 0) (p.getD y 0) (p.getD z 0)
def Fit (T S : List (List (List Int))) (p : List Nat) : Prop := ∀ x, x < p.length → ∀ y, y < p.length → ∀ z, z < p.length → FitAt T S p x y z
structure Beg (T S : List (List (List Int))) (p : List Nat) : Prop where
  pos : 1 ≤ p.length
  le : p.length ≤ T.length
  lt : ∀ i, i < p.length → p.getD i 0 < S.length
variable (hT : Cube T) (hS : Cube S) {p : List Nat} (hp : Beg T S p)
include hT hS hp
theorem fits_last : w64 (((castL p).length : Int) - 1) = ((p.length - 1 : Nat) : Int) := by
  have h1 := hT.1; have h2 := hp.pos; have h3 := hp.le
  rw [castL_len, w64_small (by omega) (by omega)]; omega
theorem specFits3 {x y z : Nat} (hx : x < p.length) (hy : y < p.length) (hz : z < p.length) :
    (FitAt T S p x y z ∧ p_spec_l03Fits_L3 (castL p) (x : Int) T (y : Int) S (z : Int) = some (.next ((z + 1 : Nat) : Int))) ∨ (¬ FitAt T S p x y z ∧ ∃ r, p_spec_l03Fits_L3 (castL p) (x : Int) T (y : Int) S (z : Int) = some (.ret r) ∧ r = false) := by
  have h1 := hT.1; have h2 := hp.pos; have h3 := hp.le
  have hl := fits_last hT hS hp
  have hx' : x < T.length := by omega
  have hy' : y < T.length := by omega
  have hz' : z < T.length := by omega
  have hw : w64 ((z : Int) + 1) = ((z + 1 : Nat) : Int) := by rw [w64_small (by omega) (by omega)]; rfl
  have hle : (z : Int) ≤ ((p.length - 1 : Nat) : Int) := by omega
  have hval : ((idx T (x : Int)).bind fun x256 => (idx x256 (y : Int)).bind fun x307 => (idx x307 (z : Int)).bind fun x358 => (idx (castL p) (x : Int)).bind fun x431 => (idx S x431).bind fun x471 => (idx (castL p) (y : Int)).bind fun x533 => (idx x471 x533).bind fun x573 => (idx (castL p) (z : Int)).bind fun x635 => (idx x573 x635).bind fun x675 => some (x358 != x675)) = some (at3 T x y z != at3 S (p.getD x 0) (p.getD y 0) (p.getD z 0)) := by
    simp only [hT.i1 hx', hT.i2 hx' hy', hT.i3 hx' hy' hz', castL_idx hx, castL_idx hy, castL_idx hz, hS.i1 (hp.lt x hx), hS.i2 (hp.lt x hx) (hp.lt y hy), hS.i3 (hp.lt x hx) (hp.lt y hy) (hp.lt z hz), Option.bind_some]
  have hbool : ∀ b : Bool, (b = true ↔ ¬ FitAt T S p x y z) → (FitAt T S p x y z ∧ (if b = true then some (Ctl.ret false) else some (Ctl.next (w64 ((z : Int) + 1)))) = some (Ctl.next ((z + 1 : Nat) : Int))) ∨ (¬ FitAt T S p x y z ∧ ∃ r, (if b = true then some (Ctl.ret false) else some (Ctl.next (w64 ((z : Int) + 1)))) = some (.ret r) ∧ r = false) := fun b hb => by
    cases b with
    | true => exact .inr ⟨hb.1 rfl, false, rfl, rfl⟩
    | false => exact .inl ⟨(Classical.byContradiction fun h => Bool.noConfusion (hb.2 h)), (by rw [if_neg (by simp), hw])⟩
  have hne : (at3 T x y z != at3 S (p.getD x 0) (p.getD y 0) (p.getD z 0)) = true ↔ ¬ (at3 T x y z = at3 S (p.getD x 0) (p.getD y 0) (p.getD z 0)) := by simp
  unfold p_spec_l03Fits_L3
  simp only [hl, hle, decide_true, if_true]
  by_cases ex : x + 1 = p.length
  · have hbx : ((x : Int) == ((p.length - 1 : Nat) : Int)) = true := by simp; omega
    simp only [hbx, if_true, hval, Option.bind_some]
    exact hbool _ (by rw [hne]; unfold FitAt; simp [ex])
  · have hbx : ((x : Int) == ((p.length - 1 : Nat) : Int)) = false := by simp; omega
    simp only [hbx, Bool.false_eq_true, if_false]
    by_cases ey : y + 1 = p.length
    · have hby : ((y : Int) == ((p.length - 1 : Nat) : Int)) = true := by simp; omega
      simp only [hby, if_true, hval, Option.bind_some]
      exact hbool _ (by rw [hne]; unfold FitAt; simp [ey])
    · have hby : ((y : Int) == ((p.length - 1 : Nat) : Int)) = false := by simp; omega
      simp only [hby, Bool.false_eq_true, if_false]
      by_cases ez : z + 1 = p.length
      · have hbz : ((z : Int) == ((p.length - 1 : Nat) : Int)) = true := by simp; omega
        simp only [hbz, if_true, hval, Option.bind_some]
        exact hbool _ (by rw [hne]; unfold FitAt; simp [ez])
      · have hbz : ((z : Int) == ((p.length - 1 : Nat) : Int)) = false := by simp; omega
        simp only [hbz, Bool.false_eq_true, if_false, Option.bind_some]
        refine .inl ⟨fun h => ?_, by rw [hw]⟩
        rcases h with h | h | h
        · exact absurd h ex
        · exact absurd h ey
        · exact absurd h ez
theorem specFits2 {x y : Nat} (hx : x < p.length) (hy : y < p.length) :
    ((∀ z, z < p.length → FitAt T S p x y z) ∧ p_spec_l03Fits_L2 (castL p) (x : Int) T S (y : Int) = some (.next ((y + 1 : Nat) : Int))) ∨ (¬ (∀ z, z < p.length → FitAt T S p x y z) ∧ ∃ r, p_spec_l03Fits_L2 (castL p) (x : Int) T S (y : Int) = some (.ret r) ∧ r = false) := by
  have h1 := hT.1; have h2 := hp.pos; have h3 := hp.le
  have hl := fits_last hT hS hp
  have hw : w64 ((y : Int) + 1) = ((y + 1 : Nat) : Int) := by rw [w64_small (by omega) (by omega)]; rfl
  have hle : (y : Int) ≤ ((p.length - 1 : Nat) : Int) := by omega
  have hend : p_spec_l03Fits_L3 (castL p) (x : Int) T (y : Int) S (p.length : Int) = some (.brk (p.length : Int)) := by
    unfold p_spec_l03Fits_L3
    have : ¬ (p.length : Int) ≤ ((p.length - 1 : Nat) : Int) := by omega
    simp only [hl, this, decide_false, Bool.false_eq_true, if_false]
  unfold p_spec_l03Fits_L2
  simp only [hl, hle, decide_true, if_true]
  rcases whileChk (step := fun s => p_spec_l03Fits_L3 (castL p) (x : Int) T (y : Int) S s) (P := fun z => FitAt T S p x y z) (Bad := fun r => r = false) (N := p.length) (fun z hz => specFits3 hT hS hp hx hy hz) hend with ⟨h, e⟩ | ⟨h, r, e, hr⟩
  · refine .inl ⟨h, ?_⟩
    rw [e]
    simp only [Option.bind_some, onRes, hw]
  · refine .inr ⟨h, r, ?_, hr⟩
    rw [e]; rfl
theorem specFits1 {x : Nat} (hx : x < p.length) :
    ((∀ y, y < p.length → ∀ z, z < p.length → FitAt T S p x y z) ∧ p_spec_l03Fits_L1 (castL p) T S (x : Int) = some (.next ((x + 1 : Nat) : Int))) ∨ (¬ (∀ y, y < p.length → ∀ z, z < p.length → FitAt T S p x y z) ∧ ∃ r, p_spec_l03Fits_L1 (castL p) T S (x : Int) = some (.ret r) ∧ r = false) := by
  have h1 := hT.1; have h2 := hp.pos; have h3 := hp.le
  have hl := fits_last hT hS hp
  have hw : w64 ((x : Int) + 1) = ((x + 1 : Nat) : Int) := by rw [w64_small (by omega) (by omega)]; rfl
  have hle : (x : Int) ≤ ((p.length - 1 : Nat) : Int) := by omega
  have hend : p_spec_l03Fits_L2 (castL p) (x : Int) T S (p.length : Int) = some (.brk (p.length : Int)) := by
    unfold p_spec_l03Fits_L2
    have : ¬ (p.length : Int) ≤ ((p.length - 1 : Nat) : Int) := by omega
    simp only [hl, this, decide_false, Bool.false_eq_true, if_false]
  unfold p_spec_l03Fits_L1
  simp only [hl, hle, decide_true, if_true]
  rcases whileChk (step := fun s => p_spec_l03Fits_L2 (castL p) (x : Int) T S s) (P := fun y => ∀ z, z < p.length → FitAt T S p x y z) (Bad := fun r => r = false) (N := p.length) (fun y hy => specFits2 hT hS hp hx hy) hend with ⟨h, e⟩ | ⟨h, r, e, hr⟩
  · refine .inl ⟨h, ?_⟩
    rw [e]
    simp only [Option.bind_some, onRes, hw]
  · refine .inr ⟨h, r, ?_, hr⟩
    rw [e]; rfl
theorem specFits : Says (p_spec_l03Fits T S (castL p)) (Fit T S p) := by
  have h1 := hT.1; have h2 := hp.pos; have h3 := hp.le
  have hl := fits_last hT hS hp
  have hend : p_spec_l03Fits_L1 (castL p) T S (p.length : Int) = some (.brk (p.length : Int)) := by
    unfold p_spec_l03Fits_L1
    have : ¬ (p.length : Int) ≤ ((p.length - 1 : Nat) : Int) := by omega
    simp only [hl, this, decide_false, Bool.false_eq_true, if_false]
  unfold p_spec_l03Fits
  rcases whileChk (step := fun s => p_spec_l03Fits_L1 (castL p) T S s) (P := fun x => ∀ y, y < p.length → ∀ z, z < p.length → FitAt T S p x y z) (Bad := fun r => r = false) (N := p.length) (fun x hx => specFits1 hT hS hp hx) hend with ⟨h, e⟩ | ⟨h, r, e, rfl⟩
  · rw [e]; exact ⟨true, rfl, by simp; exact h⟩
  · rw [e]; exact ⟨false, rfl, by simp; exact h⟩
theorem implFits : Says (p_impl_fitsNext T S (castL p)) (Fit T S p) := by
  have h1 := hT.1; have h2 := hp.pos; have h3 := hp.le
  have hl := fits_last hT hS hp
  unfold p_impl_fitsNext
  rw [castL_len]
  refine Chk.says (forN_chk (P := fun x => ∀ y, y < p.length → ∀ z, z < p.length → FitAt T S p x y z) fun x hx _ => ?_)
  have hx' : x < T.length := by omega
  unfold p_impl_fitsNext_L1
  simp only [castL_idx hx, Option.bind_some, castL_len]
  refine ChkC.loop (forN_chk (P := fun y => ∀ z, z < p.length → FitAt T S p x y z) fun y hy _ => ?_)
  have hy' : y < T.length := by omega
  unfold p_impl_fitsNext_L2
  simp only [castL_idx hy, Option.bind_some, castL_len]
  refine ChkC.loop (forN_chk (P := fun z => FitAt T S p x y z) fun z hz _ => ?_)
  have hz' : z < T.length := by omega
  unfold p_impl_fitsNext_L3
  simp only [castL_idx hz, Option.bind_some, hl]
  have hm : ((if (z : Int) > (if (y : Int) > (x : Int) then (y : Int) else (x : Int)) then (z : Int) else (if (y : Int) > (x : Int) then (y : Int) else (x : Int))) == ((p.length - 1 : Nat) : Int)) = true ↔ (x + 1 = p.length ∨ y + 1 = p.length ∨ z + 1 = p.length) := by
    rw [beq_iff_eq]
    split <;> split <;> omega
  by_cases hc : x + 1 = p.length ∨ y + 1 = p.length ∨ z + 1 = p.length
  · rw [if_pos (hm.2 hc)]
    simp only [hT.i1 hx', hT.i2 hx' hy', hT.i3 hx' hy' hz', hS.i1 (hp.lt x hx), hS.i2 (hp.lt x hx) (hp.lt y hy), hS.i3 (hp.lt x hx) (hp.lt y hy) (hp.lt z hz), Option.bind_some]
    refine ChkC.congr (ChkC.ite (b := at3 T x y z != at3 S (p.getD x 0) (p.getD y 0) (p.getD z 0)) rfl) ?_
    unfold FitAt
    constructor
    · intro h _; exact by simpa using h
    · intro h; simpa using h hc
  · rw [if_neg (fun h => hc (hm.1 h)), Option.bind_some]
    refine ChkC.congr (ChkC.ite (b := false) rfl) ?_
    simp only [true_iff]
    exact fun h => absurd h hc
end
end Go.VG
