/- Equality of tables. No condition. -/
import Derived.Test.YtbgebkgpodgjdaaPlSame
import Derived.Test.YtbgebkgpodgjdaaPlOpp0
set_option linter.all false
namespace Go.VG
theorem eqFunc2 {a b : List (List Int)} {eq : List Int → List Int → Option Bool} (h : ∀ x y, Says (eq x y) (x = y)) : Says (p_slices_EqualFunc_LLint64_LLint64_Lint64_Lint64 a b eq) (a = b) := by
  unfold p_slices_EqualFunc_LLint64_LLint64_Lint64_Lint64
  by_cases hl : a.length = b.length
  · have : ((a.length : Int) != (b.length : Int)) = false := by simp [hl]
    rw [this]
    simp only [Bool.false_eq_true, if_false]
    refine (Chk.says (forN_chk (P := fun j => a.getD j [] = b.getD j []) fun j hj _ => ?_)).congr (eq_iff_getD [] hl).symm
    simp only [p_slices_EqualFunc_LLint64_LLint64_Lint64_Lint64_L1, idx_getD a [] hj, idx_getD b [] (by omega : j < b.length), Option.bind_some]
    exact ChkC.bindNot (h _ _) rfl
  · have : ((a.length : Int) != (b.length : Int)) = true := by simp; omega
    rw [this]
    exact ⟨false, by simp, by simp; intro h; exact hl (by rw [h])⟩
theorem eqFunc3 {a b : List (List (List Int))} {eq : List (List Int) → List (List Int) → Option Bool} (h : ∀ x y, Says (eq x y) (x = y)) : Says (p_slices_EqualFunc_LLLint64_LLLint64_LLint64_LLint64 a b eq) (a = b) := by
  unfold p_slices_EqualFunc_LLLint64_LLLint64_LLint64_LLint64
  by_cases hl : a.length = b.length
  · have : ((a.length : Int) != (b.length : Int)) = false := by simp [hl]
    rw [this]
    simp only [Bool.false_eq_true, if_false]
    refine (Chk.says (forN_chk (P := fun j => a.getD j [] = b.getD j []) fun j hj _ => ?_)).congr (eq_iff_getD [] hl).symm
    simp only [p_slices_EqualFunc_LLLint64_LLLint64_LLint64_LLint64_L1, idx_getD a [] hj, idx_getD b [] (by omega : j < b.length), Option.bind_some]
    exact ChkC.bindNot (h _ _) rfl
  · have : ((a.length : Int) != (b.length : Int)) = true := by simp; omega
    rw [this]
    exact ⟨false, by simp, by simp; intro h; exact hl (by rw [h])⟩
theorem equalTables_says (a b : List (List (List Int))) : Says (p_impl_equalTables a b) (a = b) :=
  Says.id (eqFunc3 fun x y => Says.id (eqFunc2 fun x y => equal_says x y))

end Go.VG
