/- Says: the words; the library's searches. No condition. -/
import Derived.Test.YtopabdbonlnijaaPlCom0
set_option linter.all false
namespace Go.VG
theorem bne_len {α β : Type} (a : List α) (b : List β) : ((a.length : Int) != (b.length : Int)) = false ↔ a.length = b.length := by simp [bne_eq_false_iff_eq]; omega

/-! ### The library's searches -/

theorem indexFunc_i {l : List Int} {f : Int → Option Bool} {Q : Nat → Prop} (h : ∀ j, j < l.length → Says (f (l.getD j 0)) (Q j)) : Says (p_slices_ContainsFunc_Lint64_int64 l f) (∃ j, j < l.length ∧ Q j) := by
  unfold p_slices_ContainsFunc_Lint64_int64 p_slices_IndexFunc_Lint64_int64
  have := forN_chk (N := l.length) (R := Int) (Bad := fun r => 0 ≤ r) (body := fun k s => p_slices_IndexFunc_Lint64_int64_L1 l f k) (P := fun j => ¬ Q j) fun j hj _ => by
    obtain ⟨b, h1, h2⟩ := h j hj
    simp only [p_slices_IndexFunc_Lint64_int64_L1, idx_getD l 0 hj, Option.bind_some, h1]
    exact ChkC.congr (ChkC.ite (by omega)) (by rw [← h2]; simp)
  rcases this with ⟨h1, h2⟩ | ⟨h1, r, h2, h3⟩
  · rw [h2]; exact ⟨false, rfl, by simpa using h1⟩
  · rw [h2]; exact ⟨true, by simp [onRes, h3], by simpa using h1⟩
theorem indexFunc_l {l : List (List Int)} {f : List Int → Option Bool} {Q : Nat → Prop} (h : ∀ j, j < l.length → Says (f (l.getD j [])) (Q j)) : Says (p_slices_ContainsFunc_LLint64_Lint64 l f) (∃ j, j < l.length ∧ Q j) := by
  unfold p_slices_ContainsFunc_LLint64_Lint64 p_slices_IndexFunc_LLint64_Lint64
  have := forN_chk (N := l.length) (R := Int) (Bad := fun r => 0 ≤ r) (body := fun k s => p_slices_IndexFunc_LLint64_Lint64_L1 l f k) (P := fun j => ¬ Q j) fun j hj _ => by
    obtain ⟨b, h1, h2⟩ := h j hj
    simp only [p_slices_IndexFunc_LLint64_Lint64_L1, idx_getD l [] hj, Option.bind_some, h1]
    exact ChkC.congr (ChkC.ite (by omega)) (by rw [← h2]; simp)
  rcases this with ⟨h1, h2⟩ | ⟨h1, r, h2, h3⟩
  · rw [h2]; exact ⟨false, rfl, by simpa using h1⟩
  · rw [h2]; exact ⟨true, by simp [onRes, h3], by simpa using h1⟩

theorem Says.not {o : Option Bool} {P : Prop} (h : Says o P) : Says (o.bind fun x => some (!x)) (¬ P) := by
  obtain ⟨b, rfl, h2⟩ := h
  exact ⟨!b, rfl, by rw [← h2]; simp⟩
theorem Says.id {o : Option Bool} {P : Prop} (h : Says o P) : Says (o.bind fun x => some x) P := by
  obtain ⟨b, rfl, h2⟩ := h; exact ⟨b, rfl, h2⟩
/-- Short-circuit 'or' and 'and' as the twins print them. -/
theorem Says.or {b : Bool} {o : Option Bool} {P : Prop} (h : b = false → Says o P) : Says (if b = true then some true else o) (b = true ∨ P) := by
  cases b
  · simpa using h rfl
  · exact ⟨true, rfl, by simp⟩
theorem Says.and {b : Bool} {o : Option Bool} {P : Prop} (h : b = true → Says o P) : Says (if b = true then o else some false) (b = true ∧ P) := by
  cases b
  · exact ⟨false, rfl, by simp⟩
  · simpa using h rfl
theorem ChkC.bindB {R : Type} {Bad : R → Prop} {o : Option Bool} {P : Prop} {r : R} (h : Says o P) (hr : Bad r) : ChkC (o.bind fun x => if x = true then some (.ret r) else some (.next ())) (¬ P) Bad := by
  obtain ⟨b, rfl, h2⟩ := h
  exact ChkC.congr (ChkC.ite hr) (by rw [← h2]; simp)

theorem allWithin_says (l : List Int) (a b : Int) : Says (p_impl_allWithin l a b) (∀ k, k < l.length → a ≤ l.getD k 0 ∧ l.getD k 0 ≤ b) := by
  unfold p_impl_allWithin
  refine Says.congr (Says.not (indexFunc_i (Q := fun k => ¬ (a ≤ l.getD k 0 ∧ l.getD k 0 ≤ b)) fun j hj => ?_)) ?_
  · simp only [p_impl_allWithin_c1, p_impl_within, Option.bind_some]
    exact ⟨_, rfl, by simp; omega⟩
  · constructor
    · intro h k hk
      exact Decidable.byContradiction fun hc => h ⟨k, hk, hc⟩
    · rintro h ⟨k, hk, hc⟩
      exact hc (h k hk)

end Go.VG
