/- The ring's laws: unit, duals, turns, brackets: the model's and the code's twins say the same. No condition. -/
import Derived.Test.YtopabdbonlnijaaPlRing
set_option linter.all false
namespace Go.VG

def dl (i k : Nat) : Int := if i = k then 1 else 0
/-- What the search for i's dual gives. -/
def du (T : List (List (List Int))) (i : Nat) : Int := (p_spec_l03Dual T (i : Int)).getD (-1)
def UnitOK (T : List (List (List Int))) : Prop := ∀ i, i < T.length → ∀ k, k < T.length → at3 T 0 i k = dl i k ∧ at3 T i 0 k = dl i k
def DualOK (T : List (List (List Int))) : Prop := ∀ i, i < T.length → 0 ≤ du T i ∧ du T (du T i).toNat = i
def TurnOK (T : List (List (List Int))) : Prop := ∀ i, i < T.length → ∀ j, j < T.length → ∀ k, k < T.length → at3 T i j k = at3 T (du T i).toNat k j ∧ at3 T i j k = at3 T k (du T j).toNat i
def brL (T : List (List (List Int))) (i j k l : Nat) (e : Nat) : Int := w64 (at3 T i j e * at3 T e k l)
def brR (T : List (List (List Int))) (i j k l : Nat) (e : Nat) : Int := w64 (at3 T j k e * at3 T i e l)
def BrOK (T : List (List (List Int))) : Prop := ∀ i, i < T.length → ∀ j, j < T.length → ∀ k, k < T.length → ∀ l, l < T.length → sumW (brL T i j k l) T.length = sumW (brR T i j k l) T.length
structure RingOK (T : List (List (List Int))) : Prop where
  cube : Cube T
  unit : UnitOK T
  dual : DualOK T
  turn : TurnOK T
  br : BrOK T

/-- A fault list that is empty where P. -/
def Faults (o : Option (List Int)) (P : Prop) : Prop := ∃ l, o = some l ∧ (l = [] ↔ P)
theorem forN_congr {S R : Type} {b b' : Nat → S → Option (Ctl S R)} : ∀ (c k : Nat) (s : S), (∀ j s, j < k + c → b j s = b' j s) → forN b c k s = forN b' c k s
  | 0, _, _, _ => rfl
  | c + 1, k, s, h => by
    simp only [forN]
    rw [h k s (by omega)]
    cases b' k s with
    | none => rfl
    | some ct =>
      cases ct with
      | next s' => exact forN_congr c (k + 1) s' (fun j s hj => h j s (by omega))
      | brk s' => rfl
      | ret r => rfl

section
variable {T : List (List (List Int))}

/-! ### Duals -/

/-- What a search has found so far: a place whose mark is 1, the only one that is not 0; or none yet, all are 0. -/
def OnlyTo (f : Nat → Int) (k : Nat) (s : Int) : Prop := (s = -1 ∧ ∀ j, j < k → f j = 0) ∨ (0 ≤ s ∧ s < k ∧ f s.toNat = 1 ∧ ∀ j, j < k → j ≠ s.toNat → f j = 0)
def Only (f : Nat → Int) (n : Nat) (s : Int) : Prop := (0 ≤ s ∧ s < n ∧ f s.toNat = 1 ∧ ∀ j, j < n → j ≠ s.toNat → f j = 0) ∨ (s = -1 ∧ ¬ ∃ j, j < n ∧ f j = 1 ∧ ∀ i, i < n → i ≠ j → f i = 0)

theorem search_only {f : Nat → Int} {n : Nat} {body : Nat → Int → Option (Ctl Int Int)} (hb : ∀ k s, k < n → body k s = some (if (f k == 1 && decide (s < 0)) = true then .next (k : Int) else if (f k != 0) = true then .ret (-1) else .next s)) :
    ∃ s, (forN body n 0 (-1)).bind (fun res => onRes res (fun r => some r) fun x => some x) = some s ∧ Only f n s := by
  have key : ∀ (c k : Nat) (s : Int), k + c = n → OnlyTo f k s → (∃ s', forN body c k s = some (.fin s') ∧ OnlyTo f n s') ∨ (forN body c k s = some (.ret (-1)) ∧ ¬ ∃ j, j < n ∧ f j = 1 ∧ ∀ i, i < n → i ≠ j → f i = 0) := by
    intro c
    induction c with
    | zero => intro k s hk h; have : k = n := by omega
              subst this; exact .inl ⟨s, rfl, h⟩
    | succ c ih =>
      intro k s hk h
      simp only [forN, hb k s (by omega)]
      by_cases h0 : f k = 0
      · have e1 : (f k == 1 && decide (s < 0)) = false := by simp [h0]
        have e2 : (f k != 0) = false := by simp [h0]
        simp only [e1, e2, Bool.false_eq_true, if_false]
        refine ih (k + 1) s (by omega) ?_
        rcases h with ⟨h1, h2⟩ | ⟨h1, h2, h3, h4⟩
        · refine .inl ⟨h1, fun j hj => ?_⟩
          rcases Nat.lt_or_eq_of_le (Nat.le_of_lt_succ hj) with h | h
          · exact h2 j h
          · exact h ▸ h0
        · refine .inr ⟨h1, by omega, h3, fun j hj hne => ?_⟩
          rcases Nat.lt_or_eq_of_le (Nat.le_of_lt_succ hj) with h | h
          · exact h4 j h hne
          · exact h ▸ h0
      · rcases h with ⟨rfl, h2⟩ | ⟨h1, h2, h3, h4⟩
        · by_cases h1 : f k = 1
          · have e1 : (f k == 1 && decide ((-1 : Int) < 0)) = true := by simp [h1]
            simp only [e1, if_true]
            refine ih (k + 1) k (by omega) (.inr ⟨by omega, by omega, by simpa using h1, fun j hj hne => h2 j (by simp at hne; omega)⟩)
          · have e1 : (f k == 1 && decide ((-1 : Int) < 0)) = false := by simp [h1]
            have e2 : (f k != 0) = true := by simp [h0]
            simp only [e1, e2, Bool.false_eq_true, if_false, if_true]
            refine .inr ⟨trivial, ?_⟩
            rintro ⟨j, hj, hf, ho⟩
            by_cases hjk : k = j
            · subst hjk; exact h1 hf
            · exact h0 (ho k (by omega) hjk)
        · have e1 : (f k == 1 && decide (s < 0)) = false := by simp; omega
          have e2 : (f k != 0) = true := by simp [h0]
          simp only [e1, e2, Bool.false_eq_true, if_false, if_true]
          refine .inr ⟨trivial, ?_⟩
          rintro ⟨j, hj, hf, ho⟩
          have : j = s.toNat ∨ j = k := by
            by_cases hj1 : j = s.toNat
            · exact .inl hj1
            · right
              by_cases hj2 : j = k
              · exact hj2
              · exact absurd (ho k (by omega) (fun e => hj2 e.symm)) h0
          rcases this with rfl | rfl
          · exact h0 (ho k (by omega) (by omega))
          · have := ho s.toNat (by omega) (by omega)
            omega
  rcases key n 0 (-1) (by omega) (.inl ⟨rfl, fun j hj => by omega⟩) with ⟨s', h1, h2⟩ | ⟨h1, h2⟩
  · rw [h1]
    refine ⟨s', rfl, ?_⟩
    rcases h2 with ⟨h1, h2⟩ | h2
    · refine .inr ⟨h1, ?_⟩
      rintro ⟨j, hj, hf, _⟩
      have := h2 j hj; omega
    · exact .inl h2
  · rw [h1]
    exact ⟨-1, rfl, .inr ⟨rfl, h2⟩⟩

theorem dual_spec (h : Cube T) {i : Nat} (hi : i < T.length) : p_spec_l03Dual T (i : Int) = some (du T i) ∧ Only (fun k => at3 T i k 0) T.length (du T i) := by
  have : ∃ s, p_spec_l03Dual T (i : Int) = some s ∧ Only (fun k => at3 T i k 0) T.length s := by
    unfold p_spec_l03Dual
    refine search_only (fun k s hk => ?_)
    simp only [p_spec_l03Dual_L1, h.i1 hi, h.i2 hi hk, h.i30 hi hk, Option.bind_some]
    split <;> (try split) <;> rfl
  obtain ⟨s, h1, h2⟩ := this
  have e : du T i = s := by simp [du, h1]
  rw [e]; exact ⟨h1, h2⟩
theorem onlyOf_eq (h : Cube T) {i : Nat} (hi : i < T.length) : p_impl_Ring_onlyOf T (i : Int) = some (du T i) := by
  rw [← (dual_spec h hi).1]
  unfold p_impl_Ring_onlyOf p_spec_l03Dual
  rw [h.i1 hi]
  simp only [Option.bind_some]
  rw [h.mat hi]
  rw [forN_congr (b' := fun k s => p_spec_l03Dual_L1 T i k s) T.length 0 (-1) (fun k s hk => by
    have hk : k < T.length := by omega
    simp only [p_impl_Ring_onlyOf_L1, p_spec_l03Dual_L1, h.i1 hi, h.i2 hi hk, h.i30 hi hk, Option.bind_some]
    by_cases h0 : at3 T i k 0 = 0
    · simp [h0]
    · by_cases h1 : at3 T i k 0 = 1
      · by_cases hs : s < 0
        · have : ¬ (0 ≤ s) := by omega
          simp [h1, hs, this]
        · have : (0 ≤ s) := by omega
          simp [h1, hs, this]
      · simp [h0, h1])]
theorem du_lt (h : Cube T) {i : Nat} (hi : i < T.length) : -1 ≤ du T i ∧ du T i < T.length := by
  rcases (dual_spec h hi).2 with ⟨h1, h2, _⟩ | ⟨h1, _⟩ <;> omega
theorem RingOK.du0 (h : RingOK T) {i : Nat} (hi : i < T.length) : 0 ≤ du T i := (h.dual i hi).1
theorem RingOK.duN (h : RingOK T) {i : Nat} (hi : i < T.length) : (du T i).toNat < T.length := by have := du_lt h.cube hi; have := h.du0 hi; omega

def duL (T : List (List (List Int))) : List Int := (List.range T.length).map (du T)
theorem duL_len : (duL T).length = T.length := by simp [duL]
theorem duL_idx {i : Nat} (hi : i < T.length) : idx (duL T) (i : Int) = some (du T i) := by
  rw [idx_getD _ 0 (by rw [duL_len]; exact hi)]
  simp [duL, List.getElem?_range hi]
theorem app_range {α : Type} (f : Nat → α) {j : Nat} (hj : j ≤ 1048576) : appL ((List.range j).map f) [f j] = some ((List.range (j + 1)).map f) := by
  simp [appL, List.range_succ]; omega
theorem duals_eq (h : Cube T) : p_impl_Ring_duals T = some (duL T) := by
  unfold p_impl_Ring_duals
  rw [forN_app (du T) (fun j hj => by
    simp only [p_impl_Ring_duals_L1, onlyOf_eq h hj, Option.bind_some, app_range (du T) (by have := h.1.2; omega : j ≤ 1048576)])]
  rfl

/-! ### The checks, each once for the model and once for the code -/

theorem spec_unit (h : Cube T) : Chk (forN (fun k s => p_spec_l03Fault_L1 T k) T.length 0 ()) (UnitOK T) (fun l => l ≠ []) := by
  refine forN_chk fun i hi _ => ?_
  simp only [p_spec_l03Fault_L1]
  refine ChkC.loop (forN_chk fun k hk _ => ?_)
  have h0 : 0 < T.length := by have := h.1.1; omega
  have e : (if ((i : Int) == (k : Int)) = true then some (1 : Int) else some 0) = some (dl i k) := by
    unfold dl
    by_cases hik : i = k
    · simp [hik]
    · have : ¬ (i : Int) = (k : Int) := by omega
      simp [hik, this]
  simp only [p_spec_l03Fault_L2, e, Option.bind_some, h.i10, h.i2 h0 hi, h.i3 h0 hi hk, h.i1 hi, h.i20 hi, h.i3 hi h0 hk]
  refine ChkC.congr (ChkC.bindB (Says.or fun _ => ⟨_, rfl, Iff.rfl⟩) (by simp)) ?_
  simp [Classical.not_imp, not_or]
theorem impl_unit (h : Cube T) : Chk (forN (fun k s => p_impl_Ring_unitFault_L1 T k) T.length 0 ()) (UnitOK T) (fun l => l ≠ []) := by
  refine forN_chk fun i hi _ => ?_
  simp only [p_impl_Ring_unitFault_L1]
  refine ChkC.loop (forN_chk fun k hk _ => ?_)
  have h0 : 0 < T.length := by have := h.1.1; omega
  have e : p_impl_delta (i : Int) (k : Int) = some (dl i k) := by
    unfold dl p_impl_delta
    by_cases hik : i = k
    · simp [hik]
    · have : ¬ (i : Int) = (k : Int) := by omega
      simp [hik, this]
  simp only [p_impl_Ring_unitFault_L2, e, Option.bind_some, h.i10, h.i2 h0 hi, h.i3 h0 hi hk, h.i1 hi, h.i20 hi, h.i3 hi h0 hk]
  refine ChkC.congr (ChkC.bindB (Says.or fun _ => ⟨_, rfl, Iff.rfl⟩) (by simp)) ?_
  simp [Classical.not_imp, not_or]

theorem spec_dual (h : Cube T) : Chk (forN (fun k s => p_spec_l03Fault_L4 (duL T) k) T.length 0 ()) (DualOK T) (fun l => l ≠ []) := by
  refine forN_chk fun i hi _ => ?_
  simp only [p_spec_l03Fault_L4, duL_idx hi, Option.bind_some]
  have hd := du_lt h hi
  refine ChkC.congr (ChkC.bindB (P := du T i < 0 ∨ du T (du T i).toNat ≠ i) ?_ (by simp)) (by simp [not_or])
  refine Says.congr (Says.or (P := du T (du T i).toNat ≠ i) fun hb => ?_) (by simp)
  have h0 : ¬ du T i < 0 := by simpa using hb
  have e : du T i = (((du T i).toNat : Nat) : Int) := by omega
  rw [e, duL_idx (by omega), ← e]
  exact ⟨_, rfl, by simp⟩
theorem impl_dual (h : Cube T) : Chk (forN (fun k s => p_impl_Ring_dualFault_L1 T k) T.length 0 ()) (DualOK T) (fun r => 0 ≤ r) := by
  refine forN_chk fun i hi _ => ?_
  simp only [p_impl_Ring_dualFault_L1, onlyOf_eq h hi, Option.bind_some]
  have hd := du_lt h hi
  refine ChkC.congr (ChkC.bindB (P := du T i < 0 ∨ du T (du T i).toNat ≠ i) ?_ (by omega)) (by simp [not_or])
  refine Says.congr (Says.or (P := du T (du T i).toNat ≠ i) fun hb => ?_) (by simp)
  have h0 : ¬ du T i < 0 := by simpa using hb
  have e : du T i = (((du T i).toNat : Nat) : Int) := by omega
  rw [e, onlyOf_eq h (by omega), ← e]
  exact ⟨_, rfl, by simp⟩

theorem spec_turn (h : Cube T) (hd : DualOK T) : Chk (forN (fun k s => p_spec_l03Fault_L5 T (duL T) k) T.length 0 ()) (TurnOK T) (fun l => l ≠ []) := by
  refine forN_chk fun i hi _ => ?_
  simp only [p_spec_l03Fault_L5]
  refine ChkC.loop (forN_chk fun j hj _ => ?_)
  simp only [p_spec_l03Fault_L6]
  refine ChkC.loop (forN_chk fun k hk _ => ?_)
  have hdi := du_lt h hi; have hdi0 := (hd i hi).1; have hdj := du_lt h hj; have hdj0 := (hd j hj).1
  have ei : du T i = (((du T i).toNat : Nat) : Int) := by omega
  have ej : du T j = (((du T j).toNat : Nat) : Int) := by omega
  have li : (du T i).toNat < T.length := by omega
  have lj : (du T j).toNat < T.length := by omega
  have q1 : idx T (du T i) = some (T.getD (du T i).toNat []) := idx_toNat _ _ hdi0 hdi.2
  have q2 : idx (T.getD k []) (du T j) = some ((T.getD k []).getD (du T j).toNat []) := idx_toNat _ _ hdj0 (by rw [h.mat hk]; exact hdj.2)
  simp only [p_spec_l03Fault_L7, h.i1 hi, h.i2 hi hj, h.i3 hi hj hk, duL_idx hi, duL_idx hj, q1, q2, h.i2 li hk, h.i3 li hk hj, h.i1 hk, h.i3 hk lj hi, Option.bind_some]
  refine ChkC.congr (ChkC.bindB (Says.or fun _ => ⟨_, rfl, Iff.rfl⟩) (by simp)) ?_
  simp [Classical.not_imp, not_or]
theorem impl_turn (h : Cube T) (hd : DualOK T) : Chk (forN (fun k s => p_impl_Ring_turnFault_L1 T (duL T) k) T.length 0 ()) (TurnOK T) (fun l => l ≠ []) := by
  refine forN_chk fun i hi _ => ?_
  simp only [p_impl_Ring_turnFault_L1]
  refine ChkC.loop (forN_chk fun j hj _ => ?_)
  simp only [p_impl_Ring_turnFault_L2]
  refine ChkC.loop (forN_chk fun k hk _ => ?_)
  have hdi := du_lt h hi; have hdi0 := (hd i hi).1; have hdj := du_lt h hj; have hdj0 := (hd j hj).1
  have ei : du T i = (((du T i).toNat : Nat) : Int) := by omega
  have ej : du T j = (((du T j).toNat : Nat) : Int) := by omega
  have li : (du T i).toNat < T.length := by omega
  have lj : (du T j).toNat < T.length := by omega
  have q1 : idx T (du T i) = some (T.getD (du T i).toNat []) := idx_toNat _ _ hdi0 hdi.2
  have q2 : idx (T.getD k []) (du T j) = some ((T.getD k []).getD (du T j).toNat []) := idx_toNat _ _ hdj0 (by rw [h.mat hk]; exact hdj.2)
  simp only [p_impl_Ring_turnFault_L3, h.i1 hi, h.i2 hi hj, h.i3 hi hj hk, duL_idx hi, duL_idx hj, q1, q2, h.i2 li hk, h.i3 li hk hj, h.i1 hk, h.i3 hk lj hi, Option.bind_some]
  refine ChkC.congr (ChkC.bindB (Says.or fun _ => ⟨_, rfl, Iff.rfl⟩) (by simp)) ?_
  simp [Classical.not_imp, not_or]

theorem spec_br (h : Cube T) : Chk (forN (fun k s => p_spec_l03Fault_L8 T k) T.length 0 ()) (BrOK T) (fun l => l ≠ []) := by
  refine forN_chk fun i hi _ => ?_
  simp only [p_spec_l03Fault_L8]
  refine ChkC.loop (forN_chk fun j hj _ => ?_)
  simp only [p_spec_l03Fault_L9]
  refine ChkC.loop (forN_chk fun k hk _ => ?_)
  simp only [p_spec_l03Fault_L10]
  refine ChkC.loop (forN_chk fun l hl _ => ?_)
  simp only [p_spec_l03Fault_L11]
  have e : forN (fun e s => p_spec_l03Fault_L12 T i j k l e s.1 s.2) T.length 0 ((0 : Int), (0 : Int)) = some (.fin (sumW (brL T i j k l) T.length, sumW (brR T i j k l) T.length)) := forN_det (fun e => (sumW (brL T i j k l) e, sumW (brR T i j k l) e)) (fun e he => by
    simp only [p_spec_l03Fault_L12, h.i1 hi, h.i2 hi hj, h.i3 hi hj he, h.i1 he, h.i2 he hk, h.i3 he hk hl, h.i1 hj, h.i2 hj hk, h.i3 hj hk he, h.i2 hi he, h.i3 hi he hl, Option.bind_some, sumW, brL, brR])
  rw [e]
  simp only [Option.bind_some, onRes]
  exact ChkC.congr (ChkC.ite (by simp)) (by simp)
theorem impl_br (h : Cube T) : Chk (forN (fun k s => p_impl_Ring_bracketFault_L1 T k) T.length 0 ()) (BrOK T) (fun l => l ≠ []) := by
  refine forN_chk fun i hi _ => ?_
  simp only [p_impl_Ring_bracketFault_L1, h.i1 hi, Option.bind_some]
  refine ChkC.loop (forN_chk fun j hj _ => ?_)
  simp only [p_impl_Ring_bracketFault_L2, h.i1 hj, Option.bind_some]
  refine ChkC.loop (forN_chk fun k hk _ => ?_)
  simp only [p_impl_Ring_bracketFault_L3]
  refine ChkC.loop (forN_chk fun l hl _ => ?_)
  simp only [p_impl_Ring_bracketFault_L4]
  have e : forN (fun e s => p_impl_Ring_bracketFault_L5 (T.getD i []) j T k l (T.getD j []) e s.1 s.2) T.length 0 ((0 : Int), (0 : Int)) = some (.fin (sumW (brL T i j k l) T.length, sumW (brR T i j k l) T.length)) := forN_det (fun e => (sumW (brL T i j k l) e, sumW (brR T i j k l) e)) (fun e he => by
    simp only [p_impl_Ring_bracketFault_L5, h.i1 hi, h.i2 hi hj, h.i3 hi hj he, h.i1 he, h.i2 he hk, h.i3 he hk hl, h.i1 hj, h.i2 hj hk, h.i3 hj hk he, h.i2 hi he, h.i3 hi he hl, Option.bind_some, sumW, brL, brR])
  rw [e]
  simp only [Option.bind_some, onRes]
  exact ChkC.congr (ChkC.ite (by simp)) (by simp)

/-! ### The whole test -/

def LawsOK (T : List (List (List Int))) : Prop := UnitOK T ∧ DualOK T ∧ TurnOK T ∧ BrOK T

theorem specFault (h : Cube T) : Faults (p_spec_l03Fault T) (LawsOK T) := by
  unfold p_spec_l03Fault
  rcases spec_unit h with ⟨hu, e⟩ | ⟨hu, r, e, hr⟩ <;> rw [e] <;> simp only [Option.bind_some, onRes]
  · have e2 : forN (fun k s => p_spec_l03Fault_L3 T k s) T.length 0 [] = some (.fin (duL T)) :=
      forN_app (R := Unit) (du T) (fun j hj => by
        simp only [p_spec_l03Fault_L3, (dual_spec h hj).1, Option.bind_some, app_range (du T) (by have := h.1.2; omega : j ≤ 1048576)])
    rw [e2]
    simp only [Option.bind_some]
    rcases spec_dual h with ⟨hd, e⟩ | ⟨hd, r, e, hr⟩ <;> rw [e] <;> simp only [Option.bind_some]
    · rcases spec_turn h hd with ⟨ht, e⟩ | ⟨ht, r, e, hr⟩ <;> rw [e] <;> simp only [Option.bind_some]
      · rcases spec_br h with ⟨hb, e⟩ | ⟨hb, r, e, hr⟩ <;> rw [e] <;> simp only [Option.bind_some]
        · exact ⟨[], rfl, by simp [LawsOK, hu, hd, ht, hb]⟩
        · exact ⟨r, rfl, by simp [LawsOK, hr, hb]⟩
      · exact ⟨r, rfl, by simp [LawsOK, hr, ht]⟩
    · exact ⟨r, rfl, by simp [LawsOK, hr, hd]⟩
  · exact ⟨r, rfl, by simp [LawsOK, hr, hu]⟩

theorem implFault (h : Cube T) : Faults (p_impl_Ring_fault T) (LawsOK T) := by
  unfold p_impl_Ring_fault p_impl_Ring_unitFault
  rcases impl_unit h with ⟨hu, e⟩ | ⟨hu, r, e, hr⟩ <;> rw [e] <;> simp only [Option.bind_some, onRes]
  · simp only [List.isEmpty_nil, Bool.not_true, Bool.false_eq_true, if_false]
    unfold p_impl_Ring_dualFault
    rcases impl_dual h with ⟨hd, e⟩ | ⟨hd, r, e, hr⟩ <;> rw [e] <;> simp only [Option.bind_some, onRes]
    · have : decide ((-1 : Int) ≥ 0) = false := by decide
      simp only [this, Bool.false_eq_true, if_false]
      unfold p_impl_Ring_turnFault
      rw [duals_eq h]
      simp only [Option.bind_some]
      rcases impl_turn h hd with ⟨ht, e⟩ | ⟨ht, r, e, hr⟩ <;> rw [e] <;> simp only [Option.bind_some, onRes]
      · simp only [List.isEmpty_nil, Bool.not_true, Bool.false_eq_true, if_false]
        unfold p_impl_Ring_bracketFault
        rcases impl_br h with ⟨hb, e⟩ | ⟨hb, r, e, hr⟩ <;> rw [e] <;> simp only [Option.bind_some, onRes]
        · exact ⟨[], rfl, by simp [LawsOK, hu, hd, ht, hb]⟩
        · exact ⟨r, rfl, by simp [LawsOK, hr, hb]⟩
      · have : (!r.isEmpty) = true := by cases r <;> simp_all
        simp only [this, if_true]
        exact ⟨r, rfl, by simp [LawsOK, hr, ht]⟩
    · have : decide (r ≥ 0) = true := by simpa using hr
      simp only [this, if_true]
      exact ⟨_, rfl, by simp [LawsOK, hd]⟩
  · have : (!r.isEmpty) = true := by cases r <;> simp_all
    simp only [this, if_true]
    exact ⟨r, rfl, by simp [LawsOK, hr, hu]⟩

theorem ringOK_iff : RingOK T ↔ Cube T ∧ LawsOK T := ⟨fun h => ⟨h.cube, h.unit, h.dual, h.turn, h.br⟩, fun ⟨h1, h2, h3, h4, h5⟩ => ⟨h1, h2, h3, h4, h5⟩⟩

theorem specIs : Says (p_spec_l03Is T) (RingOK T) := by
  unfold p_spec_l03Is
  obtain ⟨b, e, hb⟩ := specCube (T := T)
  rw [e]
  simp only [Option.bind_some]
  refine Says.congr (Says.id (Says.and (P := LawsOK T) fun h => ?_)) (by rw [hb, ringOK_iff])
  obtain ⟨l, h1, h2⟩ := specFault (hb.1 h)
  rw [h1]
  exact ⟨_, rfl, by rw [← h2]; cases l <;> simp; omega⟩
theorem implIs : Says (p_impl_IsRing T) (RingOK T) := by
  unfold p_impl_IsRing
  obtain ⟨b, e, hb⟩ := isCube_says (T := T)
  rw [e]
  simp only [Option.bind_some]
  refine Says.congr (Says.id (Says.and (P := LawsOK T) fun h => ?_)) (by rw [hb, ringOK_iff])
  obtain ⟨l, h1, h2⟩ := implFault (hb.1 h)
  rw [h1]
  exact ⟨_, rfl, by rw [← h2]; cases l <;> simp⟩
end
end Go.VG
