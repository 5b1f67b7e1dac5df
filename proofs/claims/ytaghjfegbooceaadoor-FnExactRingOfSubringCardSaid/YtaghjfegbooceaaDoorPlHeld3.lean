/- Marks in tables, found again. No condition but sizes. -/
import Derived.Test.YtaghjfegbooceaaDoorPlHeld2
set_option linter.all false
namespace Go.VG
theorem markSSS_held (a : List (List (List Int))) (k : Int) (h0 : 0 ≤ k) (ha : a.length ≤ 1048576) (hr : ∀ x ∈ a, x.length ≤ 1048576 ∧ ∀ y ∈ x, y.length ≤ 1048576) (h1 : k ≤ 1000000000000000000) :
    ∃ r l, p_laws_markInt64SSS a k = some (r, l) ∧ k ≤ r ∧ r ≤ k + 1152921504606846976 ∧ p_laws_heldInt64SSS l k = some r := by
  obtain ⟨r, l, e, h2, h3, h4, h5⟩ := marks_held (mk := p_laws_markInt64SS) (hd := p_laws_heldInt64SS) [] 1099511627776 (by decide) (mb := fun k s => p_laws_markInt64SSS_L1 k s.1 s.2) (hb := fun a k x => p_laws_heldInt64SSS_L1 a k x) (fun _ _ _ => rfl) (fun _ _ _ => rfl) a k h0 (fun r hrm x hx hx2 => by
    obtain ⟨y, l, e1, e2, e3, e4⟩ := markSS_held r x hx (hr r hrm).1 (hr r hrm).2 (by omega)
    exact ⟨y, l, e1, e2, e3, e4⟩)
  refine ⟨r, l, ?_, h3, by omega, ?_⟩
  · unfold p_laws_markInt64SSS; rw [e]; rfl
  · unfold p_laws_heldInt64SSS; rw [h5]; rfl
end Go.VG
