/- The law FnExactRingIsomorphism, whole: its arguments opened, the walk's contract, the plain law. What is proved: the given statement. -/
import Derived.Test.YtopabdbonlnijaaRows
import Derived.Test.YtopabdbonlnijaaGWalk
import Derived.Test.YtopabdbonlnijaaVgRow
import Derived.Test.YtopabdbonlnijaaPlFnExactRingIsomorphism
set_option linter.all false
namespace Go.Proofs.Ytopabdbonlnijaa.fnExactRingIsomorphismDone
open Go.ChangeShapes Go.WideShapes Go.ChangeAt Go.RowKit Go.VG

theorem own : ownKnob Try.prog.godebug = none := by kernel_rfl
theorem laidOut : laidOutB Try.prog = true := by kernel_rfl

set_option maxRecDepth 100000 in
theorem lifted (os : Os) (started : os.Started) (H : Type) (enc : TypeId × Value → H) :
    ReturnsInHanded {} Try.checked os 4 .any (Rows.fnExactRingIsomorphismSpec.pre6 enc Try.prog Try.f4 Rows.fnExactRingIsomorphismRow.domain false) (Rows.fnExactRingIsomorphismSpec.post enc Try.prog Try.f4 false true false false) := by
  refine returnsInHanded_of_change (C := Try.checked) own started (by as_aux_lemma => kernel_rfl) Try.func4
    (ChangeSpec.witness6 (enc := enc) (C := Try.checked) false ⟨#[], #[.agg #[.slice none 0 0], .agg #[.slice none 0 0]], []⟩ 8 (by as_aux_lemma => kernel_rfl) (by as_aux_lemma => kernel_rfl) (by as_aux_lemma => kernel_rfl) (by as_aux_lemma => kernel_rfl)) ?_
  intro W base args ds gs before hval0 hW hcnd _
  have hval : ∀ (j : Nat) t v, Try.f4.params[j]? = some t → args[j]? = some v → Value.okWide Try.prog W .any base t v := hval0
  have hW' := hW
  obtain ⟨p, q, hA0, hV, rfl, hfz, hnd⟩ := hW
  have hA : DataW.TrodAll enc Try.prog W 0 (fun _ => true) true Try.f4.params.toList args.toList ds p := hA0
  rw [Try.params4] at hA hval
  obtain ⟨v0, vs0, d0, ds0, p0, q0, hargs, rfl, rfl, h0, rr0⟩ := trodAll_cons hA
  obtain ⟨v1, vs1, d1, ds1, p1, q1, rfl, rfl, rfl, h1, rr1⟩ := trodAll_cons rr0
  obtain ⟨rfl, rfl, rfl⟩ := trodAll_nil rr1
  obtain rfl : args = #[v0, v1] := by cases args; simp_all
  obtain ⟨rfl, rfl⟩ := trodVars_none hV
  have k0 := h0
  have lt0 : ∀ x ∈ p0, x.block < W.heap.size := by obtain ⟨m, hm⟩ := k0; exact DataW.trod_lt m _ _ _ hm
  obtain ⟨cs0, rfl, c0, x0, rfl, r0⟩ := open_st (R := RdOf (Ty.sl (Ty.sl (Ty.sl (Ty.i .i64))))) Try.underlying24 (opens_st1 Try.underlying24 (by as_aux_lemma => kernel_rfl) rfl (by as_aux_lemma => kernel_rfl) (opens_slice Try.underlying22 (by as_aux_lemma => kernel_rfl) (opens_slice Try.underlying41 (by as_aux_lemma => kernel_rfl) (opens_slice Try.underlying32 (by as_aux_lemma => kernel_rfl) (opens_int Try.underlying2))))) (hval 0 24 v0 rfl rfl) h0
  have k1 := h1
  have lt1 : ∀ x ∈ p1, x.block < W.heap.size := by obtain ⟨m, hm⟩ := k1; exact DataW.trod_lt m _ _ _ hm
  obtain ⟨cs1, rfl, c1, x1, rfl, r1⟩ := open_st (R := RdOf (Ty.sl (Ty.sl (Ty.sl (Ty.i .i64))))) Try.underlying24 (opens_st1 Try.underlying24 (by as_aux_lemma => kernel_rfl) rfl (by as_aux_lemma => kernel_rfl) (opens_slice Try.underlying22 (by as_aux_lemma => kernel_rfl) (opens_slice Try.underlying41 (by as_aux_lemma => kernel_rfl) (opens_slice Try.underlying32 (by as_aux_lemma => kernel_rfl) (opens_int Try.underlying2))))) (hval 1 24 v1 rfl rfl) h1
  clear hA0 hval0
  refine Go.Calls.mono (c_laws_FnExactRingIsomorphism r0 r1 (Go.VG.plain_FnExactRingIsomorphism x0 x1 (good3 r0) (good3 r1))) fun e W' ⟨v, he, hv, bel⟩ => ?_
  subst he; subst hv
  exact ⟨_, rfl, _, _, _, [], _, [], hW', trodAll_mk1 (shut_bool Try.underlying4 _), (trodAll_cons_mk (Go.RowKit.Below.trod laidOut (by as_aux_lemma => kernel_rfl) (of_decide_eq_true (by as_aux_lemma => kernel_rfl)) k0 bel lt0) (trodAll_cons_mk (Go.RowKit.Below.trod laidOut (by as_aux_lemma => kernel_rfl) (of_decide_eq_true (by as_aux_lemma => kernel_rfl)) k1 bel lt1) trodAll_mk0)), rfl, bel.frame _, fun h => by cases h⟩

set_option maxRecDepth 100000 in
set_option maxHeartbeats 40000000 in
theorem closed : joinedFacts Try.prog 4 Try.f4 Rows.fnExactRingIsomorphismSpec Rows.fnExactRingIsomorphismRow = true := by
  unfold joinedFacts
  simp only [Bool.and_eq_true]
  repeat' apply And.intro
  all_goals (as_aux_lemma => kernel_rfl)


theorem over : Rows.fnExactRingIsomorphismRow.holds Try.pinned (OpenSpec.ofChange Rows.fnExactRingIsomorphismSpec) :=
  OpenClaim.holds_of_wide 4 Try.f4 rfl rfl rfl rfl rfl rfl rfl ⟨rfl, rfl, rfl, rfl, rfl⟩ rfl rfl rfl rfl rfl (by as_aux_lemma => kernel_rfl) Try.func4 closed
    (of_decide_eq_true (by as_aux_lemma => kernel_rfl)) (by unfold Func.isWrapper; first | (rw [if_pos (by as_aux_lemma => decide +kernel)]; as_aux_lemma => kernel_rfl) | (rw [if_neg (by as_aux_lemma => decide +kernel)]; exact ⟨rfl, rfl⟩))
    (fun os started H enc _ => lifted os started H enc)

/-- THE GIVEN STATEMENT. -/
theorem proved : Rows.FnExactRingIsomorphismSaid := over
#print axioms proved
end Go.Proofs.Ytopabdbonlnijaa.fnExactRingIsomorphismDone
