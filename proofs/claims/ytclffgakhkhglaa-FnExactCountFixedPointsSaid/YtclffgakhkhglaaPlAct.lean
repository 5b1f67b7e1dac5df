/- Actions: families of matrices, their laws: the model's and the code's tests say the same. No condition. -/
import Derived.Test.YtclffgakhkhglaaPlTurn
import Derived.Test.YtclffgakhkhglaaPlFill
set_option linter.all false
namespace Go.VG
theorem sameSS_says (a b : List (List Int)) : Says (p_spec_l01Same2 a b) (a = b) := eqSS_says a b
theorem equalRows_says (a b : List (List Int)) : Says (p_impl_equalRows a b) (a = b) := Says.id (eqFunc2 fun x y => equal_says x y)
theorem specDualsA {T : List (List (List Int))} (h : Cube T) : p_spec_l03Duals T = some (duL T) := by
  unfold p_spec_l03Duals
  rw [forN_app (R := Unit) (du T) (fun j hj => by
    simp only [p_spec_l03Duals_L1, (dual_spec h hj).1, Option.bind_some, app_range (du T) (by have := h.1.2; omega : j ≤ 1048576)])]
  rfl

def ptsA (A : List (List (List Int))) : Nat := (A.getD 0 []).length
def FamOK (T A : List (List (List Int))) : Prop := A.length = T.length ∧ (1 ≤ ptsA A ∧ ptsA A ≤ 16) ∧ ∀ i, i < A.length → MatOK (ptsA A) (A.getD i [])
def unitM (m : Nat) : List (List Int) := grid (fun i j => if i = j then 1 else 0) m m
def ProdOK (T A : List (List (List Int))) (i j : Nat) : Prop := ∀ x, x < ptsA A → ∀ y, y < ptsA A → sumW (fun z => w64 (at3 A i x z * at3 A j z y)) (ptsA A) = sumW (fun k => w64 (at3 T i j k * at3 A k x y)) T.length
def ActOK (T A : List (List (List Int))) : Prop := A.getD 0 [] = unitM (ptsA A) ∧ (∀ i, i < T.length → ∀ j, j < T.length → ProdOK T A i j) ∧ ∀ i, i < T.length → A.getD (du T i).toNat [] = turnM (ptsA A) (A.getD i [])

section
variable {T A : List (List (List Int))}
theorem FamOK.mat (h : FamOK T A) {i : Nat} (hi : i < T.length) : Sq (ptsA A) (A.getD i []) := ⟨(h.2.2 i (by rw [h.1]; exact hi)).1, fun j hj => ((h.2.2 i (by rw [h.1]; exact hi)).2 j hj).1⟩
theorem FamOK.i1 (h : FamOK T A) {i : Nat} (hi : i < T.length) : idx A (i : Int) = some (A.getD i []) := idx_getD _ _ (by rw [h.1]; exact hi)
theorem FamOK.i3 (h : FamOK T A) {i x y : Nat} (hi : i < T.length) (hx : x < ptsA A) (hy : y < ptsA A) : idx ((A.getD i []).getD x []) (y : Int) = some (at3 A i x y) := (h.mat hi).i2 hx hy

theorem specFam (hT : 1 ≤ T.length) : Says (p_spec_l09Family T A) (FamOK T A) := by
  unfold p_spec_l09Family
  by_cases hl : A.length = T.length
  · have e1 : (((A.length : Int) != (T.length : Int)) || ((A.length : Int) == 0)) = false := Bool.or_eq_false_iff.2 ⟨(bne_len _ _).2 hl, by simp only [beq_eq_false_iff_ne, ne_eq]; omega⟩
    rw [e1]
    simp only [Bool.false_eq_true, if_false, idx_zero A [] (by omega : 0 < A.length), Option.bind_some]
    by_cases hm : 1 ≤ ptsA A ∧ ptsA A ≤ 16
    · have e2 : (decide (((A.getD 0 []).length : Int) < 1) || decide (((A.getD 0 []).length : Int) > 16)) = false := by
        have : (A.getD 0 []).length = ptsA A := rfl
        rw [this]; simp; omega
      rw [e2]
      simp only [Bool.false_eq_true, if_false]
      refine Says.congr (Chk.says (forN_chk (P := fun i => MatOK (ptsA A) (A.getD i [])) fun i hi _ => ?_)) ⟨fun h => ⟨hl, hm, h⟩, fun h => h.2.2⟩
      simp only [p_spec_l09Family_L1, idx_getD A [] hi, Option.bind_some]
      refine ChkC.congr (ChkC.iteAnd rfl fun hl => ChkC.loop (forN_chk (P := fun j => RowOK (ptsA A) ((A.getD i []).getD j [])) fun j hj _ => ?_)) ?_
      · have hl' := (bne_len _ _).1 hl
        simp only [p_spec_l09Family_L2, idx_getD (A.getD i []) [] (by omega : j < (A.getD i []).length), Option.bind_some]
        refine ChkC.congr (ChkC.iteAnd rfl fun hl2 => ChkC.loop (forN_chk (P := fun k => 0 ≤ ((A.getD i []).getD j []).getD k 0 ∧ ((A.getD i []).getD j []).getD k 0 ≤ 1000) fun k hk _ => ?_)) ?_
        · have hl2' := (bne_len _ _).1 hl2
          simp only [p_spec_l09Family_L3, p_spec_l01In, idx_getD ((A.getD i []).getD j []) 0 (by omega : k < ((A.getD i []).getD j []).length), Option.bind_some]
          exact ChkC.congr (ChkC.ite rfl) (by simp)
        · rw [bne_len]; rfl
      · rw [bne_len]; rfl
    · have e2 : (decide (((A.getD 0 []).length : Int) < 1) || decide (((A.getD 0 []).length : Int) > 16)) = true := by
        have : (A.getD 0 []).length = ptsA A := rfl
        rw [this]; simp; omega
      rw [e2]
      exact ⟨false, rfl, by simp; intro h; exact hm h.2.1⟩
  · have e1 : (((A.length : Int) != (T.length : Int)) || ((A.length : Int) == 0)) = true := by simp; left; omega
    rw [e1]
    exact ⟨false, rfl, by simp; intro h; exact hl h.1⟩
theorem implFam (hT : 1 ≤ T.length) : Says (p_impl_isFamily T A) (FamOK T A) := by
  unfold p_impl_isFamily
  by_cases hl : A.length = T.length
  · have e1 : ((A.length : Int) != (T.length : Int)) = false := (bne_len _ _).2 hl
    rw [e1]
    simp only [Bool.false_eq_true, if_false, idx_zero A [] (by omega : 0 < A.length), Option.bind_some]
    have := forN_chk (N := A.length) (R := Bool) (Bad := fun r => r = false) (body := fun k s => p_impl_isFamily_L1 A (A.getD 0 []) k) (P := fun i => MatOK (ptsA A) (A.getD i [])) fun i hi _ => by
      simp only [p_impl_isFamily_L1, idx_getD A [] hi, Option.bind_some]
      refine ChkC.congr (ChkC.bindB (Says.or fun hl => Says.id (indexFunc_l (Q := fun j => ¬ RowOK (ptsA A) ((A.getD i []).getD j [])) fun j hj => ?_)) rfl) ?_
      · simp only [p_impl_isFamily_c1]
        refine Says.congr (Says.id (Says.or fun hl2 => Says.not (allWithin_says _ 0 1000))) ?_
        rw [← Bool.not_eq_false, bne_len]
        constructor
        · rintro (h | h) hr
          · exact h hr.1
          · exact h (fun k hk => hr.2 k (by rw [← hr.1]; exact hk))
        · intro h
          by_cases hl : ((A.getD i []).getD j []).length = (A.getD 0 []).length
          · exact .inr fun hh => h ⟨hl, fun k hk => hh k (by rw [hl]; exact hk)⟩
          · exact .inl hl
      · rw [← Bool.not_eq_false, bne_len]
        constructor
        · intro h
          have hl : (A.getD i []).length = ptsA A := Decidable.byContradiction fun hc => h (.inl hc)
          exact ⟨hl, fun j hj => Classical.byContradiction fun hc => h (.inr ⟨j, by omega, hc⟩)⟩
        · rintro hm (h | ⟨j, hj, h⟩)
          · exact h hm.1
          · exact h (hm.2 j (by rw [← hm.1]; exact hj))
    rcases this with ⟨h1, h2⟩ | ⟨h1, r, h2, rfl⟩
    · rw [h2]
      refine ⟨_, rfl, ?_⟩
      have e : (A.getD 0 []).length = ptsA A := rfl
      simp only [Bool.and_eq_true, decide_eq_true_eq, e]
      exact ⟨fun h => ⟨hl, ⟨by omega, by omega⟩, h1⟩, fun h => ⟨by have := h.2.1; omega, by have := h.2.1; omega⟩⟩
    · rw [h2]
      exact ⟨false, rfl, by simp; exact fun h => h1 h.2.2⟩
  · have e1 : ((A.length : Int) != (T.length : Int)) = true := by simp; omega
    rw [e1]
    exact ⟨false, by simp, by simp; intro h; exact hl h.1⟩

/-! ### The unit matrix -/

theorem specUnit {m : Nat} (hm : m ≤ 1048576) : p_spec_l02Unit (m : Int) = some (unitM m) := by
  unfold p_spec_l02Unit
  rw [Int.toNat_natCast, forN_app (R := Unit) (rowG (fun i j => if i = j then 1 else 0) m) (fun k hk => by
    simp only [p_spec_l02Unit_L1, mkL_some' _ (by omega : (m : Int) ≤ 1048576), Option.bind_some, idx_getD (List.replicate m (0 : Int)) 0 (by simpa using hk), Int.toNat_natCast]
    have e : (List.replicate m (0 : Int)).set k 1 = rowG (fun i j => if i = j then 1 else 0) m k := by
      rw [show List.replicate m (0 : Int) = vecG (fun _ => 0) m from by simp only [vecG]; apply List.ext_getElem <;> simp, vecG_set hk]
      exact vecG_congr fun j _ => by simp only [up1]; split <;> split <;> first | rfl | omega
    rw [e, appL_range (rowG (fun i j => if i = j then 1 else 0) m) (by omega)]
    rfl)]
  rfl
theorem implUnit {m : Nat} (hm : m ≤ 1048576) : p_impl_unitMatrix (m : Int) 1 = some (unitM m) := by
  unfold p_impl_unitMatrix
  rw [zerosN hm hm]
  simp only [Option.bind_some, Int.toNat_natCast]
  have e : forN (fun k s => p_impl_unitMatrix_L1 1 k s) m 0 (grid (fun _ _ => 0) m m) = some (.fin (unitM m)) := by
    have := forN_det (R := Unit) (N := m) (body := fun k s => p_impl_unitMatrix_L1 1 k s) (fun q => grid (fun i j => if i = j ∧ i < q then 1 else 0) m m) (fun q hq => by
      simp only [p_impl_unitMatrix_L1, grid_idx hq, rowG_idx hq, Option.bind_some, Int.toNat_natCast]
      rw [grid_set hq hq]
      congr 2
      refine grid_congr fun a ha b hb => ?_
      simp only [up2]
      by_cases hab : a = q ∧ b = q
      · obtain ⟨rfl, rfl⟩ := hab; simp
      · simp only [hab, if_false]
        have : (a = b ∧ a < q + 1) ↔ (a = b ∧ a < q) := by omega
        simp only [this])
    simp only [Nat.not_lt_zero, and_false, if_false] at this
    rw [this]
    congr 2
    exact grid_congr fun a ha b hb => by simp [ha]
  rw [e]; rfl

/-! ### Products -/

theorem specProd (hT : Cube T) (h : FamOK T A) {i j : Nat} (hi : i < T.length) (hj : j < T.length) : Says (p_spec_l09Product T A (i : Int) (j : Int)) (ProdOK T A i j) := by
  have h0 : 0 < T.length := by have := hT.1.1; omega
  unfold p_spec_l09Product
  rw [idx_zero A [] (by rw [h.1]; exact h0)]
  simp only [Option.bind_some]
  refine Chk.says (forN_chk fun x hx _ => ?_)
  have hx' : x < ptsA A := hx
  simp only [p_spec_l09Product_L1]
  refine ChkC.loop (forN_chk fun y hy _ => ?_)
  have hy' : y < ptsA A := hy
  simp only [p_spec_l09Product_L2]
  have eL : forN (fun k s => p_spec_l09Product_L3 A (i : Int) x (j : Int) y k s) (A.getD 0 []).length 0 (0 : Int) = some (.fin (sumW (fun z => w64 (at3 A i x z * at3 A j z y)) (ptsA A))) := forN_det (R := Unit) (fun e => sumW (fun z => w64 (at3 A i x z * at3 A j z y)) e) (fun z hz => by
    have hz' : z < ptsA A := hz
    simp only [p_spec_l09Product_L3, h.i1 hi, (h.mat hi).i1 hx', h.i3 hi hx' hz', h.i1 hj, (h.mat hj).i1 hz', h.i3 hj hz' hy', Option.bind_some, sumW])
  have eR : forN (fun k s => p_spec_l09Product_L4 T (i : Int) (j : Int) A x y k s) T.length 0 (0 : Int) = some (.fin (sumW (fun k => w64 (at3 T i j k * at3 A k x y)) T.length)) := forN_det (R := Unit) (fun e => sumW (fun k => w64 (at3 T i j k * at3 A k x y)) e) (fun k hk => by
    simp only [p_spec_l09Product_L4, hT.i1 hi, hT.i2 hi hj, hT.i3 hi hj hk, h.i1 hk, (h.mat hk).i1 hx', h.i3 hk hx' hy', Option.bind_some, sumW])
  rw [eL, eR]
  simp only [Option.bind_some, onRes]
  exact ChkC.congr (ChkC.ite rfl) (by simp)
theorem implWhole (hT : Cube T) (h : FamOK T A) {i j : Nat} (hi : i < T.length) (hj : j < T.length) : p_impl_whole (A.getD i []) (A.getD j []) = some (grid (fun x y => sumW (fun z => w64 (at3 A i x z * at3 A j z y)) (ptsA A)) (ptsA A) (ptsA A)) := by
  have hm := h.2.1
  have si := h.mat hi; have sj := h.mat hj
  unfold p_impl_whole
  rw [idx_zero (A.getD j []) [] (by rw [sj.1]; omega)]
  simp only [Option.bind_some]
  rw [si.1, sj.2 0 (by omega), zerosN (by omega) (by omega)]
  simp only [Option.bind_some]
  have e : forN (fun k s => p_impl_whole_L1 (A.getD i []) (A.getD j []) k s) (ptsA A) 0 (grid (fun _ _ => 0) (ptsA A) (ptsA A)) = some (.fin (grid (fun x y => sumW (fun z => w64 (at3 A i x z * at3 A j z y)) (ptsA A)) (ptsA A) (ptsA A))) := by
    have := forN_det (R := Unit) (N := ptsA A) (body := fun k s => p_impl_whole_L1 (A.getD i []) (A.getD j []) k s) (fun q => grid (fun x y => if x < q then sumW (fun z => w64 (at3 A i x z * at3 A j z y)) (ptsA A) else 0) (ptsA A) (ptsA A)) (fun x hx => by
      simp only [p_impl_whole_L1, si.i1 hx, Option.bind_some]
      rw [si.2 x hx]
      have ei : forN (fun k s => p_impl_whole_L2 ((A.getD i []).getD x []) (A.getD j []) x k s) (ptsA A) 0 (grid (fun a b => if a < x then sumW (fun z => w64 (at3 A i a z * at3 A j z b)) (ptsA A) else 0) (ptsA A) (ptsA A)) =
          some (.fin (grid (fun a b => if a = x then sumW (fun z => w64 (at3 A i x z * at3 A j z b)) (ptsA A) else if a < x then sumW (fun z => w64 (at3 A i a z * at3 A j z b)) (ptsA A) else 0) (ptsA A) (ptsA A))) := by
        have := forN_det (R := Unit) (N := ptsA A) (body := fun k s => p_impl_whole_L2 ((A.getD i []).getD x []) (A.getD j []) x k s) (fun q => grid (fun a b => if a = x then sumW (fun z => w64 (at3 A i x z * at3 A j z b)) q else if a < x then sumW (fun z => w64 (at3 A i a z * at3 A j z b)) (ptsA A) else 0) (ptsA A) (ptsA A)) (fun z hz => by
          simp only [p_impl_whole_L2, si.i2 hx hz, sj.i1 hz, Option.bind_some]
          rw [sj.2 z hz]
          rw [fillrow hx _ (fun b => sumW (fun z => w64 (at3 A i x z * at3 A j z b)) (z + 1)) (fun y hy g hg => by
            simp only [p_impl_whole_L3, sj.i2 hz hy, grid_idx hx, rowG_idx hy, Option.bind_some, Int.toNat_natCast]
            rw [grid_set hx hy, hg]
            simp only [if_true, sumW]
            rfl)]
          simp only [Option.bind_some, onRes]
          congr 2
          refine grid_congr fun a ha b hb => ?_
          by_cases hax : a = x <;> simp [hax])
        rw [← this]
        congr 1
        refine grid_congr fun a ha b hb => ?_
        by_cases hax : a = x
        · subst hax; simp [sumW]
        · simp [hax]
      rw [ei]
      simp only [Option.bind_some, onRes]
      congr 2
      refine grid_congr fun a ha b hb => ?_
      by_cases hax : a = x
      · subst hax; simp
      · have : a < x + 1 ↔ a < x := by omega
        simp only [hax, if_false, this])
    simp only [Nat.not_lt_zero, if_false] at this
    rw [this]
    congr 2
    exact grid_congr fun a ha b hb => by simp [ha]
  rw [e]; rfl
theorem implSum (hT : Cube T) (h : FamOK T A) {i j : Nat} (hi : i < T.length) (hj : j < T.length) :
    forN (fun k s => p_impl_actionFault_L3 ((T.getD i []).getD j []) A k s) T.length 0 (grid (fun _ _ => 0) (ptsA A) (ptsA A)) = some (.fin (grid (fun x y => sumW (fun k => w64 (at3 T i j k * at3 A k x y)) T.length) (ptsA A) (ptsA A))) := by
  refine forN_det (R := Unit) (fun q => grid (fun x y => sumW (fun k => w64 (at3 T i j k * at3 A k x y)) q) (ptsA A) (ptsA A)) (fun k hk => ?_)
  have sk := h.mat hk
  simp only [p_impl_actionFault_L3, hT.i3 hi hj hk, h.i1 hk, Option.bind_some]
  rw [sk.1]
  rw [fill2 (inner := fun x y s => p_impl_actionFault_L5 ((A.getD k []).getD x []) x (at3 T i j k) y s) _ (fun x y => sumW (fun k => w64 (at3 T i j k * at3 A k x y)) (k + 1)) (fun x hx y hy g hg => by
    simp only [p_impl_actionFault_L5, h.i3 hk hx hy, grid_idx hx, rowG_idx hy, Option.bind_some, Int.toNat_natCast]
    rw [grid_set hx hy, hg]
    simp only [sumW]) (fun x hx M => by
    simp only [p_impl_actionFault_L4, sk.i1 hx, Option.bind_some]
    rw [sk.2 x hx])]
  rfl
theorem implProd (hT : Cube T) (h : FamOK T A) {i j : Nat} (hi : i < T.length) (hj : j < T.length) : ChkC (p_impl_actionFault_L2 A (A.getD 0 []) T i (A.getD i []) j) (ProdOK T A i j) (fun l => l ≠ []) := by
  have hm := h.2.1
  have e0 : (A.getD 0 []).length = ptsA A := rfl
  simp only [p_impl_actionFault_L2, h.i1 hj, Option.bind_some, e0]
  rw [zerosN (by omega) (by omega)]
  simp only [Option.bind_some, hT.i1 hi, hT.i2 hi hj]
  rw [hT.row hi hj, implSum hT h hi hj]
  simp only [Option.bind_some, onRes, implWhole hT h hi hj]
  refine ChkC.congr (ChkC.bindNot (equalRows_says _ _) (by simp)) ?_
  rw [grid_inj]
  exact ⟨fun hh x hx y hy => (hh x hx y hy).symm, fun hh x hx y hy => (hh x hx y hy).symm⟩

/-! ### The whole test -/

theorem ptsA_def : (A.getD 0 []).length = ptsA A := rfl
theorem specActF (hR : RingOK T) (h : FamOK T A) : Faults (p_spec_l09Fault T A) (ActOK T A) := by
  have hT := hR.cube
  have hm := h.2.1
  have h0 : 0 < T.length := by have := hT.1.1; omega
  unfold p_spec_l09Fault
  rw [idx_zero A [] (by rw [h.1]; exact h0)]
  simp only [Option.bind_some, ptsA_def]
  rw [specUnit (by omega)]
  simp only [Option.bind_some]
  obtain ⟨b, e1, hb⟩ := sameSS_says (A.getD 0 []) (unitM (ptsA A))
  rw [e1]
  simp only [Option.bind_some]
  cases b
  · exact ⟨_, rfl, ⟨fun e => (by cases e), fun hh => absurd (hb.2 hh.1) (by simp)⟩⟩
  · have hu := hb.1 rfl
    simp only [Bool.not_true, Bool.false_eq_true, if_false]
    have c1 : Chk (forN (fun k s => p_spec_l09Fault_L1 T A k) T.length 0 ()) (∀ i, i < T.length → ∀ j, j < T.length → ProdOK T A i j) (fun l => l ≠ []) := by
      refine forN_chk fun i hi _ => ?_
      simp only [p_spec_l09Fault_L1]
      refine ChkC.loop (forN_chk fun j hj _ => ?_)
      simp only [p_spec_l09Fault_L2]
      exact ChkC.bindNot (specProd hT h hi hj) (by simp)
    rcases c1 with ⟨hp, e⟩ | ⟨hp, r, e, hr⟩ <;> rw [e] <;> simp only [Option.bind_some, onRes]
    · rw [specDualsA hT]
      simp only [Option.bind_some]
      have c2 : Chk (forN (fun k s => p_spec_l09Fault_L3 (duL T) A k) T.length 0 ()) (∀ i, i < T.length → A.getD (du T i).toNat [] = turnM (ptsA A) (A.getD i [])) (fun l => l ≠ []) := by
        refine forN_chk fun i hi _ => ?_
        have q1 : idx A (du T i) = some (A.getD (du T i).toNat []) := idx_toNat _ _ (hR.du0 hi) (by rw [h.1]; have := du_lt hT hi; omega)
        simp only [p_spec_l09Fault_L3, duL_idx hi, q1, h.i1 hi, specTurn (h.mat hi) hm.1 (by omega), Option.bind_some]
        exact ChkC.bindNot (sameSS_says _ _) (by simp)
      rcases c2 with ⟨hd, e⟩ | ⟨hd, r, e, hr⟩ <;> rw [e] <;> simp only [Option.bind_some, onRes]
      · exact ⟨[], rfl, ⟨fun _ => ⟨hu, hp, hd⟩, fun _ => rfl⟩⟩
      · exact ⟨r, rfl, ⟨fun e => absurd e hr, fun hh => absurd hh.2.2 hd⟩⟩
    · exact ⟨r, rfl, ⟨fun e => absurd e hr, fun hh => absurd hh.2.1 hp⟩⟩
theorem implActF (hR : RingOK T) (h : FamOK T A) : Faults (p_impl_actionFault T A) (ActOK T A) := by
  have hT := hR.cube
  have hm := h.2.1
  have h0 : 0 < T.length := by have := hT.1.1; omega
  unfold p_impl_actionFault
  rw [idx_zero A [] (by rw [h.1]; exact h0)]
  simp only [Option.bind_some, ptsA_def]
  rw [implUnit (by omega)]
  simp only [Option.bind_some]
  obtain ⟨b, e1, hb⟩ := equalRows_says (A.getD 0 []) (unitM (ptsA A))
  rw [e1]
  simp only [Option.bind_some]
  cases b
  · exact ⟨_, rfl, ⟨fun e => (by cases e), fun hh => absurd (hb.2 hh.1) (by simp)⟩⟩
  · have hu := hb.1 rfl
    simp only [Bool.not_true, Bool.false_eq_true, if_false]
    have c1 : Chk (forN (fun k s => p_impl_actionFault_L1 A (A.getD 0 []) T k) A.length 0 ()) (∀ i, i < T.length → ∀ j, j < T.length → ProdOK T A i j) (fun l => l ≠ []) := by
      rw [h.1]
      refine forN_chk fun i hi _ => ?_
      simp only [p_impl_actionFault_L1, h.i1 hi, Option.bind_some]
      rw [h.1]
      refine ChkC.loop (forN_chk fun j hj _ => implProd hT h hi hj)
    rcases c1 with ⟨hp, e⟩ | ⟨hp, r, e, hr⟩ <;> rw [e] <;> simp only [Option.bind_some, onRes]
    · rw [duals_eq hT]
      simp only [Option.bind_some]
      have c2 : Chk (forN (fun k s => p_impl_actionFault_L6 (duL T) A k) (duL T).length 0 ()) (∀ i, i < T.length → A.getD (du T i).toNat [] = turnM (ptsA A) (A.getD i [])) (fun l => l ≠ []) := by
        rw [duL_len]
        refine forN_chk fun i hi _ => ?_
        have q1 : idx A (du T i) = some (A.getD (du T i).toNat []) := idx_toNat _ _ (hR.du0 hi) (by rw [h.1]; have := du_lt hT hi; omega)
        simp only [p_impl_actionFault_L6, duL_idx hi, q1, h.i1 hi, implTurn (h.mat hi) hm.1 (by omega), Option.bind_some]
        exact ChkC.bindNot (equalRows_says _ _) (by simp)
      rcases c2 with ⟨hd, e⟩ | ⟨hd, r, e, hr⟩ <;> rw [e] <;> simp only [Option.bind_some, onRes]
      · exact ⟨[], rfl, ⟨fun _ => ⟨hu, hp, hd⟩, fun _ => rfl⟩⟩
      · exact ⟨r, rfl, ⟨fun e => absurd e hr, fun hh => absurd hh.2.2 hd⟩⟩
    · exact ⟨r, rfl, ⟨fun e => absurd e hr, fun hh => absurd hh.2.1 hp⟩⟩

def IsAct (T A : List (List (List Int))) : Prop := RingOK T ∧ FamOK T A ∧ ActOK T A
theorem specAct : Says (p_spec_l09Is T A) (IsAct T A) := by
  unfold p_spec_l09Is
  obtain ⟨b, e1, hb⟩ := specIs (T := T)
  rw [e1]
  simp only [Option.bind_some]
  cases b
  · exact ⟨false, rfl, by simp [IsAct]; intro h; exact absurd (hb.2 h) (by simp)⟩
  · have hr := hb.1 rfl
    obtain ⟨b, e2, hb2⟩ := specFam (T := T) (A := A) hr.cube.1.1
    simp only [if_true, e2, Option.bind_some]
    cases b
    · exact ⟨false, rfl, by simp [IsAct]; intro _ h; exact absurd (hb2.2 h) (by simp)⟩
    · have hf := hb2.1 rfl
      obtain ⟨l, e3, hl⟩ := specActF hr hf
      simp only [if_true, e3, Option.bind_some]
      exact ⟨_, rfl, by simp only [IsAct, hr, hf, true_and, ← hl]; cases l <;> simp; omega⟩
theorem implAct : Says (p_impl_IsAction T A) (IsAct T A) := by
  unfold p_impl_IsAction
  obtain ⟨b, e1, hb⟩ := implIs (T := T)
  rw [e1]
  simp only [Option.bind_some]
  cases b
  · exact ⟨false, rfl, by simp [IsAct]; intro h; exact absurd (hb.2 h) (by simp)⟩
  · have hr := hb.1 rfl
    obtain ⟨b, e2, hb2⟩ := implFam (T := T) (A := A) hr.cube.1.1
    simp only [if_true, e2, Option.bind_some]
    cases b
    · exact ⟨false, rfl, by simp [IsAct]; intro _ h; exact absurd (hb2.2 h) (by simp)⟩
    · have hf := hb2.1 rfl
      obtain ⟨l, e3, hl⟩ := implActF hr hf
      simp only [if_true, e3, Option.bind_some]
      exact ⟨_, rfl, by simp only [IsAct, hr, hf, true_and, ← hl]; cases l <;> simp⟩
theorem szAction_spec (a : List (List (List Int))) (left : Int) (h0 : 0 ≤ left) (h1 : left ≤ 1048576) (hg : Good3 .i64 a) : ∃ r, p_laws_szAction a left = some r ∧ -1 ≤ r ∧ Sz3 a left r := szRing_spec a left h0 h1 hg
theorem toAction_eq (a : List (List (List Int))) {r left : Int} (h : Sz3 a left r) (hl : left ≤ 1048576) (hr : 0 ≤ r) : p_laws_toAction a = some a :=
  toRing_eq a (r := r) ⟨by have := h.1; omega, fun h0 => ⟨by have := (h.2 h0).1; omega, fun x hx => ⟨by have := ((h.2 h0).2 x hx).1; omega, fun y hy => by have := ((h.2 h0).2 x hx).2 y hy; omega⟩⟩⟩ hr
theorem eqAction_self (a : List (List (List Int))) : p_laws_eqAction a a = some true := eqRing_self a
end
end Go.VG
