/- The law FnCocycles, whole: its arguments opened, the walk's contract, the plain law. What is proved: the given statement. -/
import Derived.Test.YtjjjljlobfpbnaaRows
import Derived.Test.YtjjjljlobfpbnaaGWalk
import Derived.Test.YtjjjljlobfpbnaaVgRow
import Derived.Test.YtjjjljlobfpbnaaPlFnCocycles
set_option linter.all false
namespace Go.Proofs.Ytjjjljlobfpbnaa.fnCocyclesDone
open Go.ChangeShapes Go.WideShapes Go.ChangeAt Go.RowKit Go.VG

theorem own : ownKnob Try.prog.godebug = none := by kernel_rfl
theorem laidOut : laidOutB Try.prog = true := by kernel_rfl

set_option maxRecDepth 100000 in
theorem lifted (os : Os) (started : os.Started) (H : Type) (enc : TypeId × Value → H) :
    ReturnsInHanded {} Try.checked os 3 .any (Rows.fnCocyclesSpec.pre6 enc Try.prog Try.f3 Rows.fnCocyclesRow.domain false) (Rows.fnCocyclesSpec.post enc Try.prog Try.f3 false true false false) := by
  refine returnsInHanded_of_change (C := Try.checked) own started (by as_aux_lemma => kernel_rfl) Try.func3
    (ChangeSpec.witness6 (enc := enc) (C := Try.checked) false ⟨#[], #[.slice none 0 0], []⟩ 8 (by as_aux_lemma => kernel_rfl) (by as_aux_lemma => kernel_rfl) (by as_aux_lemma => kernel_rfl) (by as_aux_lemma => kernel_rfl)) ?_
  intro W base args ds gs before hval0 hW hcnd _
  have hval : ∀ (j : Nat) t v, Try.f3.params[j]? = some t → args[j]? = some v → Value.okWide Try.prog W .any base t v := hval0
  have hW' := hW
  obtain ⟨p, q, hA0, hV, rfl, hfz, hnd⟩ := hW
  have hA : DataW.TrodAll enc Try.prog W 0 (fun _ => true) true Try.f3.params.toList args.toList ds p := hA0
  rw [Try.params3] at hA hval
  obtain ⟨v0, vs0, d0, ds0, p0, q0, hargs, rfl, rfl, h0, rr0⟩ := trodAll_cons hA
  obtain ⟨rfl, rfl, rfl⟩ := trodAll_nil rr0
  obtain rfl : args = #[v0] := by cases args; simp_all
  obtain ⟨rfl, rfl⟩ := trodVars_none hV
  have k0 := h0
  have lt0 : ∀ x ∈ p0, x.block < W.heap.size := by obtain ⟨m, hm⟩ := k0; exact DataW.trod_lt m _ _ _ hm
  obtain ⟨x0, r0⟩ := open_sl (τ := (Ty.sl (Ty.i .u8))) Try.underlying22 (opens_slice Try.underlying22 (by as_aux_lemma => kernel_rfl) (opens_int Try.underlying5)) (hval 0 22 v0 rfl rfl) h0
  clear hA0 hval0
  refine Go.Calls.mono (c_laws_FnCocycles r0 (Go.VG.plain_FnCocycles x0 (good1 r0))) fun e W' ⟨v, he, hv, bel⟩ => ?_
  subst he; subst hv
  exact ⟨_, rfl, _, _, _, [], _, [], hW', trodAll_mk1 (shut_bool Try.underlying4 _), (trodAll_cons_mk (Go.RowKit.Below.trod laidOut (by as_aux_lemma => kernel_rfl) (of_decide_eq_true (by as_aux_lemma => kernel_rfl)) k0 bel lt0) trodAll_mk0), rfl, bel.frame _, fun h => by cases h⟩

set_option maxRecDepth 100000 in
set_option maxHeartbeats 40000000 in
theorem closed : joinedFacts Try.prog 3 Try.f3 Rows.fnCocyclesSpec Rows.fnCocyclesRow = true := by
  unfold joinedFacts
  simp only [Bool.and_eq_true]
  repeat' apply And.intro
  all_goals (as_aux_lemma => kernel_rfl)


theorem over : Rows.fnCocyclesRow.holds Try.pinned (OpenSpec.ofChange Rows.fnCocyclesSpec) :=
  OpenClaim.holds_of_wide 3 Try.f3 rfl rfl rfl rfl rfl rfl rfl ⟨rfl, rfl, rfl, rfl, rfl⟩ rfl rfl rfl rfl rfl (by as_aux_lemma => kernel_rfl) Try.func3 closed
    (of_decide_eq_true (by as_aux_lemma => kernel_rfl)) (by unfold Func.isWrapper; first | (rw [if_pos (by as_aux_lemma => decide +kernel)]; as_aux_lemma => kernel_rfl) | (rw [if_neg (by as_aux_lemma => decide +kernel)]; exact ⟨rfl, rfl⟩))
    (fun os started H enc _ => lifted os started H enc)

/-- THE GIVEN STATEMENT. -/
theorem proved : Rows.FnCocyclesSaid := over
#print axioms proved
end Go.Proofs.Ytjjjljlobfpbnaa.fnCocyclesDone
