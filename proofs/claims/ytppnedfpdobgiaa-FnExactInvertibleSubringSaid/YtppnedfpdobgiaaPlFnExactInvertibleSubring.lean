/- The plain law of FnExactInvertibleSubring: the code's answer is the model's. No condition but the readings'. -/
import Derived.Test.YtppnedfpdobgiaaPlInv
set_option linter.all false
namespace Go.VG
def bitOf (x : Int) : Int := IntKind.i64.wrap (1 * 2 ^ (min x.toNat 64))
def orB (a x : Int) : Int := orI .i64 a (bitOf x)
theorem shl_bit {x : Int} (h : 0 ≤ x) : shlI .i64 (1 : Int) x = some (bitOf x) := by
  unfold shlI bitOf
  rw [if_pos h]; rfl
theorem mask_fold (T : List (List (List Int))) (k : Nat) : (labs T (k + 1)).foldl orB 0 = if invB T k = true then orB ((labs T k).foldl orB 0) k else (labs T k).foldl orB 0 := by
  rw [labs_succ]
  cases invB T k <;> simp [List.foldl_append]
theorem labs_nonneg (T : List (List (List Int))) (k : Nat) : ∀ x ∈ labs T k, 0 ≤ x := by
  intro x hx
  unfold labs at hx
  obtain ⟨i, _, rfl⟩ := List.mem_map.1 hx
  exact Int.natCast_nonneg i
theorem u64_small {k : Nat} (h : k ≤ 16) : IntKind.u64.wrap (k : Int) = (k : Int) := by
  simp [IntKind.wrap, IntKind.signed, IntKind.bits]; omega
theorem invSub_eq (T : List (List (List Int))) : ∃ r, p_spec_InvertibleSubring T = some r ∧ p_impl_InvertibleSubring T = some r := by
  unfold p_spec_InvertibleSubring p_impl_InvertibleSubring
  obtain ⟨b, e, hb⟩ := specIs (T := T)
  rw [e]
  by_cases h : RingOK T
  · rw [hb.2 h, implLabels h]
    simp only [Option.bind_some, Bool.not_true, Bool.false_eq_true, if_false]
    have e1 : forN (fun k s => p_spec_InvertibleSubring_L1 T k s) T.length 0 (0 : Int) = some (.fin ((labs T T.length).foldl orB 0)) := forN_det (R := Unit) (fun k => (labs T k).foldl orB 0) (fun k hk => by
      have := h.cube.1.2
      simp only [p_spec_InvertibleSubring_L1, specInv h hk, Option.bind_some, u64_small (by omega : k ≤ 16), shl_bit (by omega : (0 : Int) ≤ k), mask_fold]
      cases invB T k <;> simp [orB])
    have e2 : forN (fun k s => p_impl_InvertibleSubring_L1 (labs T T.length, 0) k s) (labs T T.length).length 0 (0 : Int) = some (.fin ((labs T T.length).foldl orB 0)) := forN_foldl (R := Unit) (labs T T.length) 0 orB 0 (fun j s hj => by
      simp only [p_impl_InvertibleSubring_L1, idx_getD (labs T T.length) 0 hj, Option.bind_some, shl_bit (labs_nonneg T _ _ (getD_mem hj)), orB])
    rw [e1, e2]
    exact ⟨_, rfl, rfl⟩
  · have : b = false := by cases b; rfl; exact absurd (hb.1 rfl) h
    rw [this, implLabels_no h]
    exact ⟨_, rfl, rfl⟩
theorem plain_FnExactInvertibleSubring (aR_Table : (List (List (List Int)))) (h0 : Good3 .i64 aR_Table) : p_laws_FnExactInvertibleSubring aR_Table = some true := by
  unfold p_laws_FnExactInvertibleSubring
  obtain ⟨r, e, hr, hs⟩ := szRing_spec aR_Table 1048576 (by decide) (by decide) h0
  rw [e]
  simp only [Option.bind_some]
  by_cases hr0 : r < 0
  · simp [hr0]
  · simp only [hr0, decide_false, Bool.false_eq_true, if_false]
    obtain ⟨x, e1, e2⟩ := invSub_eq aR_Table
    simp only [toRing_eq aR_Table hs (by omega), Option.bind_some, e1, e2, eqRing_self]
    simp
end Go.VG
