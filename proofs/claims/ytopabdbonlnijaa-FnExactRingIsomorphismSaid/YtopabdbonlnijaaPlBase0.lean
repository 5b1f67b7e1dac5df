/- Equality of lists by their elements. No condition. -/
import Derived.Test.YtopabdbonlnijaaPlRing0
set_option linter.all false
namespace Go.VG
theorem eq_iff_getD {α : Type} {a b : List α} (d : α) (hl : a.length = b.length) : a = b ↔ ∀ j, j < a.length → a.getD j d = b.getD j d := by
  constructor
  · rintro rfl j _; rfl
  · intro h
    apply List.ext_getElem hl
    intro i h1 h2
    have := h i h1
    simpa [List.getD, List.getElem?_eq_getElem h1, List.getElem?_eq_getElem h2] using this
theorem ChkC.bindNot {R : Type} {Bad : R → Prop} {o : Option Bool} {P : Prop} {r : R} (h : Says o P) (hr : Bad r) : ChkC (o.bind fun x => if (!x) = true then some (.ret r) else some (.next ())) P Bad := by
  obtain ⟨b, rfl, h2⟩ := h
  exact ChkC.congr (ChkC.ite hr) (by rw [← h2]; simp)
end Go.VG
