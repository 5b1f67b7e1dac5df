/- The plain law of FnExactIsBraiding. No condition but the readings'. -/
import Derived.Test.YtajalkfoblcaaaaPlBraid
set_option linter.all false
namespace Go.VG
theorem plain_FnExactIsBraiding (aB_Cocycle_Orders : (List Int)) (aB_Cocycle_Modulus : Int) (aB_Cocycle_Values : (List (List (List Int)))) (aB_Values : (List (List Int))) (h0 : Good1 .i64 aB_Cocycle_Orders) (h1 : InR .i64 aB_Cocycle_Modulus) (h2 : Good3 .i64 aB_Cocycle_Values) (h3 : Good2 .i64 aB_Values) : p_laws_FnExactIsBraiding aB_Cocycle_Orders aB_Cocycle_Modulus aB_Cocycle_Values aB_Values = some true := by
  unfold p_laws_FnExactIsBraiding
  obtain ⟨r, e, hr⟩ := szBraiding_spec (m := aB_Cocycle_Modulus) h0 h2 h3
  rw [e]
  simp only [Option.bind_some]
  by_cases hr0 : r < 0
  · simp [hr0]
  · obtain ⟨et, ho, _, _⟩ := hr (by omega)
    obtain ⟨b, e1, e2, _⟩ := braid_eq (o := aB_Cocycle_Orders) (m := aB_Cocycle_Modulus) (V := aB_Cocycle_Values) (c := aB_Values) ho
    simp only [hr0, decide_false, Bool.false_eq_true, if_false, et, Option.bind_some, p_spec_IsBraiding, e1, e2, eqBraiding_self]
    simp
end Go.VG
