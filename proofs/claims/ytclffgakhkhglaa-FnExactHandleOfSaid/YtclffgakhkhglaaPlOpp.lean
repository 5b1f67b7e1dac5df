/- The opposite ring, and equality of tables. No condition. -/
import Derived.Test.YtclffgakhkhglaaPlSame
set_option linter.all false
namespace Go.VG
theorem eq_iff_getD {α : Type} {a b : List α} (d : α) (hl : a.length = b.length) : a = b ↔ ∀ j, j < a.length → a.getD j d = b.getD j d := by
  constructor
  · rintro rfl j _; rfl
  · intro h
    apply List.ext_getElem hl
    intro i h1 h2
    have := h i h1
    simpa [List.getD, List.getElem?_eq_getElem h1, List.getElem?_eq_getElem h2] using this
theorem ChkC.bindNot {R : Type} {Bad : R → Prop} {o : Option Bool} {P : Prop} {r : R} (h : Says o P) (hr : Bad r) : ChkC (o.bind fun x => if (!x) = true then some (.ret r) else some (.next ())) P Bad := by
  obtain ⟨b, rfl, h2⟩ := h
  exact ChkC.congr (ChkC.ite hr) (by rw [← h2]; simp)
theorem eqFunc2 {a b : List (List Int)} {eq : List Int → List Int → Option Bool} (h : ∀ x y, Says (eq x y) (x = y)) : Says (p_slices_EqualFunc_LLint64_LLint64_Lint64_Lint64 a b eq) (a = b) := by
  unfold p_slices_EqualFunc_LLint64_LLint64_Lint64_Lint64
  by_cases hl : a.length = b.length
  · have : ((a.length : Int) != (b.length : Int)) = false := by simp [hl]
    rw [this]
    simp only [Bool.false_eq_true, if_false]
    refine (Chk.says (forN_chk (P := fun j => a.getD j [] = b.getD j []) fun j hj _ => ?_)).congr (eq_iff_getD [] hl).symm
    simp only [p_slices_EqualFunc_LLint64_LLint64_Lint64_Lint64_L1, idx_getD a [] hj, idx_getD b [] (by omega : j < b.length), Option.bind_some]
    exact ChkC.bindNot (h _ _) rfl
  · have : ((a.length : Int) != (b.length : Int)) = true := by simp; omega
    rw [this]
    exact ⟨false, by simp, by simp; intro h; exact hl (by rw [h])⟩
theorem eqFunc3 {a b : List (List (List Int))} {eq : List (List Int) → List (List Int) → Option Bool} (h : ∀ x y, Says (eq x y) (x = y)) : Says (p_slices_EqualFunc_LLLint64_LLLint64_LLint64_LLint64 a b eq) (a = b) := by
  unfold p_slices_EqualFunc_LLLint64_LLLint64_LLint64_LLint64
  by_cases hl : a.length = b.length
  · have : ((a.length : Int) != (b.length : Int)) = false := by simp [hl]
    rw [this]
    simp only [Bool.false_eq_true, if_false]
    refine (Chk.says (forN_chk (P := fun j => a.getD j [] = b.getD j []) fun j hj _ => ?_)).congr (eq_iff_getD [] hl).symm
    simp only [p_slices_EqualFunc_LLLint64_LLLint64_LLint64_LLint64_L1, idx_getD a [] hj, idx_getD b [] (by omega : j < b.length), Option.bind_some]
    exact ChkC.bindNot (h _ _) rfl
  · have : ((a.length : Int) != (b.length : Int)) = true := by simp; omega
    rw [this]
    exact ⟨false, by simp, by simp; intro h; exact hl (by rw [h])⟩
theorem equalTables_says (a b : List (List (List Int))) : Says (p_impl_equalTables a b) (a = b) :=
  Says.id (eqFunc3 fun x y => Says.id (eqFunc2 fun x y => equal_says x y))

def rowOf (T : List (List (List Int))) (i j : Nat) : List Int := (T.getD i []).getD j []
def oppR (T : List (List (List Int))) (i : Nat) : List (List Int) := (List.range T.length).map (fun j => rowOf T j i)
def oppT (T : List (List (List Int))) : List (List (List Int)) := (List.range T.length).map (oppR T)
section
variable {T : List (List (List Int))}
theorem clone_eq (r : List Int) (h : r.length ≤ 1048576) : p_slices_Clone_Lint64_int64 r = some r := by
  unfold p_slices_Clone_Lint64_int64
  simp [appL]; omega
theorem opposite_eq (h : Cube T) : p_impl_Ring_opposite T = some (oppT T) := by
  have hn := h.1.2
  unfold p_impl_Ring_opposite
  rw [forN_app (oppR T) (fun i hi => by
    simp only [p_impl_Ring_opposite_L1]
    rw [forN_app (R := Unit) (fun j => rowOf T j i) (fun j hj => by
      simp only [p_impl_Ring_opposite_L2, h.i1 hj, h.i2 hj hi, Option.bind_some, clone_eq _ (by rw [h.row hj hi]; omega : ((T.getD j []).getD i []).length ≤ 1048576)]
      rw [show (T.getD j []).getD i [] = rowOf T j i from rfl, app_range (fun j => rowOf T j i) (by omega : j ≤ 1048576)]
      rfl)]
    simp only [Option.bind_some, onRes]
    rw [show (List.range T.length).map (fun j => rowOf T j i) = oppR T i from rfl, app_range (oppR T) (by omega : i ≤ 1048576)]
    rfl)]
  rfl
theorem oppT_row {i j : Nat} (hi : i < T.length) (hj : j < T.length) : rowOf (oppT T) i j = rowOf T j i := by
  simp [rowOf, oppT, oppR, List.getD, List.getElem?_range hi, List.getElem?_range hj]
theorem eq_opp (h : Cube T) : T = oppT T ↔ ∀ i, i < T.length → ∀ j, j < T.length → rowOf T i j = rowOf T j i := by
  constructor
  · intro e i hi j hj
    rw [← oppT_row (T := T) (i := j) (j := i) hj hi, ← e]
  · intro hh
    refine (eq_iff_getD [] (by simp [oppT])).2 fun i hi => ?_
    refine (eq_iff_getD [] (by rw [h.mat hi]; simp [oppT, oppR, List.getD, List.getElem?_range hi])).2 fun j hj => ?_
    rw [h.mat hi] at hj
    have := oppT_row (T := T) hi hj
    rw [← hh i hi j hj] at this
    exact this.symm
end
end Go.VG
