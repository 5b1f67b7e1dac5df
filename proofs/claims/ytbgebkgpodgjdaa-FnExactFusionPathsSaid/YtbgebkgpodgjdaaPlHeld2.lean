/- Marks in rows, found again. No condition but sizes. -/
import Derived.Test.YtbgebkgpodgjdaaPlGrid
import Derived.Test.YtbgebkgpodgjdaaPlMark0
set_option linter.all false
namespace Go.VG
theorem markSS_held (a : List (List Int)) (k : Int) (h0 : 0 ≤ k) (ha : a.length ≤ 1048576) (hr : ∀ x ∈ a, x.length ≤ 1048576) (h1 : k ≤ 4000000000000000000) :
    ∃ r l, p_laws_markInt64SS a k = some (r, l) ∧ k ≤ r ∧ r ≤ k + 1099511627776 ∧ p_laws_heldInt64SS l k = some r := by
  obtain ⟨r, l, e, h2, h3, h4, h5⟩ := marks_held (mk := p_laws_markInt64S) (hd := p_laws_heldInt64S) [] 1048576 (by decide) (mb := fun k s => p_laws_markInt64SS_L1 k s.1 s.2) (hb := fun a k x => p_laws_heldInt64SS_L1 a k x) (fun _ _ _ => rfl) (fun _ _ _ => rfl) a k h0 (fun r hrm x hx hx2 => by
    have := hr r hrm
    obtain ⟨l, e1, e2, e3⟩ := markS_held r x hx (by omega)
    exact ⟨_, l, e1, by omega, by omega, e3⟩)
  refine ⟨r, l, ?_, h3, by omega, ?_⟩
  · unfold p_laws_markInt64SS; rw [e]; rfl
  · unfold p_laws_heldInt64SS; rw [h5]; rfl
end Go.VG
