/- A sum of products. Plain. -/
import Derived.Test.YtfbjoncpgjgppaaPlDimL
set_option linter.all false
namespace Go.VG
def prS (a b : List Int) (k : Nat) : Int := w64 (a.getD k 0 * b.getD k 0)
theorem sumOfProducts_eq {a b : List Int} (h : a.length ≤ b.length) : p_impl_sumOfProducts a b = some (sumW (prS a b) a.length) := by
  unfold p_impl_sumOfProducts
  have e : forN (R := Unit) (fun k s => p_impl_sumOfProducts_L1 a b k s) a.length 0 (0 : Int) = some (.fin (sumW (prS a b) a.length)) := forN_det (R := Unit) (fun k => sumW (prS a b) k) (fun k hk => by
    simp only [p_impl_sumOfProducts_L1, idx_getD a 0 hk, idx_getD b 0 (by omega : k < b.length), Option.bind_some, sumW, prS])
  rw [e]
  rfl
end Go.VG
