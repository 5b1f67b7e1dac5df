/- The law FnExactGradingGroup, whole: its arguments opened, the walk's contract, the plain law. What is proved: the given statement. -/
import Derived.Test.YtaghjfegbooceaaDoorRows
import Derived.Test.YtaghjfegbooceaaDoorGWalk
import Derived.Test.YtaghjfegbooceaaDoorVgRow
import Derived.Test.YtaghjfegbooceaaDoorPlFnExactGradingGroup
import Derived.Test.YtaghjfegbooceaaDoorTie
import Derived.Test.YtaghjfegbooceaaDoorCards
import Derived.Test.YtaghjfegbooceaaDoorVgTab
import Derived.Lay
import Derived.LaidMore
import Derived.MakeChecks
import Derived.SevenTiedAt
import Derived.ProofKit
import Derived.OpenShut
import Derived.Stop.Joined
set_option linter.all false
namespace Go.Proofs.YtaghjfegbooceaaDoor.fnExactGradingGroupDone
open Go.ChangeShapes Go.WideShapes Go.ChangeAt Go.RowKit Go.VG

theorem own : ownKnob Tryd.prog.godebug = none := by kernel_rfl
theorem laidOut : laidOutB Tryd.prog = true := by kernel_rfl

theorem tab_at {W : World} (h : laidMetH Tryd.prog Rows.fnExactGradingGroupRow.laid W) : Go.VG.TabAt W := by
  rw [MakeChecks.laidMetH_plain _ _ _ (by as_aux_lemma => kernel_rfl)] at h
  have hT := Go.Lib.tabIs_of_head (k := .u8) (zs := Go.VG.tzTab) (rest := []) (show Tryd.prog.globalNamed "math/bits.deBruijn64tab" = some 0 by as_aux_lemma => kernel_rfl) (show (Tryd.prog.globals[0]?).map (·.type) = some 85 by as_aux_lemma => kernel_rfl) Tryd.underlying85 Tryd.underlying5 (by as_aux_lemma => kernel_rfl) (by as_aux_lemma => kernel_rfl) h
  exact fun i hi => hT.cell (by as_aux_lemma => kernel_rfl) i hi

set_option maxRecDepth 100000 in
theorem lifted (os : Os) (started : os.Started) (H : Type) (enc : TypeId × Value → H) :
    ReturnsInHanded {} Tryd.checked os 6 .any (fun w args => (Rows.fnExactGradingGroupSpec.pre enc Tryd.prog Tryd.f6 Rows.fnExactGradingGroupRow.domain false w args ∧ laidMetH Tryd.prog Rows.fnExactGradingGroupRow.laid w) ∧ sizedMet enc Tryd.prog Tryd.f6 (OpenSpec.ofChange Rows.fnExactGradingGroupSpec) false w args) (Rows.fnExactGradingGroupSpec.post enc Tryd.prog Tryd.f6 false true false false) := by
  refine returnsInHanded_of_change_and (C := Tryd.checked) (X := fun w _ => laidMetH Tryd.prog Rows.fnExactGradingGroupRow.laid w) (fun _ _ _ hh h => h.of_heap hh) own started (by as_aux_lemma => kernel_rfl) Tryd.func6
    (ChangeSpec.witness_shaped (enc := enc) (C := Tryd.checked) (os := os) (X := fun w _ => laidMetH Tryd.prog Rows.fnExactGradingGroupRow.laid w) false (World.laidAll Tryd.prog os Rows.fnExactGradingGroupRow.laid) #[.agg #[.slice none 0 0]] 8 (World.laidAll_os _ _ _)
      (World.shaped_of_ZipB (by as_aux_lemma => kernel_rfl) (by as_aux_lemma => kernel_rfl)) (by as_aux_lemma => kernel_rfl) (by as_aux_lemma => kernel_rfl) (by as_aux_lemma => kernel_rfl)
      (by rw [MakeChecks.laidMetH_plain _ _ _ (by as_aux_lemma => kernel_rfl)]; exact laidMet_laidAll _ (by as_aux_lemma => kernel_rfl) (by as_aux_lemma => kernel_rfl))) ?_
  intro W base args ds gs before hval0 hW hcnd _ hL _
  have tb := tab_at hL
  have hval : ∀ (j : Nat) t v, Tryd.f6.params[j]? = some t → args[j]? = some v → Value.okWide Tryd.prog W .any base t v := hval0
  have hW' := hW
  obtain ⟨p, q, hA0, hV, rfl, hfz, hnd⟩ := hW
  have hA : DataW.TrodAll enc Tryd.prog W 0 (fun _ => true) true Tryd.f6.params.toList args.toList ds p := hA0
  rw [Tryd.params6] at hA hval
  obtain ⟨v0, vs0, d0, ds0, p0, q0, hargs, rfl, rfl, h0, rr0⟩ := trodAll_cons hA
  obtain ⟨rfl, rfl, rfl⟩ := trodAll_nil rr0
  obtain rfl : args = #[v0] := by cases args; simp_all
  obtain ⟨rfl, rfl⟩ := trodVars_none hV
  have k0 := h0
  have lt0 : ∀ x ∈ p0, x.block < W.heap.size := by obtain ⟨m, hm⟩ := k0; exact DataW.trod_lt m _ _ _ hm
  obtain ⟨cs0, rfl, c0, x0, rfl, r0⟩ := open_st (R := RdOf (Ty.sl (Ty.sl (Ty.sl (Ty.i .i64))))) Tryd.underlying24 (opens_st1 Tryd.underlying24 (by as_aux_lemma => kernel_rfl) rfl (by as_aux_lemma => kernel_rfl) (opens_slice Tryd.underlying22 (by as_aux_lemma => kernel_rfl) (opens_slice Tryd.underlying41 (by as_aux_lemma => kernel_rfl) (opens_slice Tryd.underlying33 (by as_aux_lemma => kernel_rfl) (opens_int Tryd.underlying2))))) (hval 0 24 v0 rfl rfl) h0
  clear hA0 hval0
  refine Go.Calls.mono (c_laws_FnExactGradingGroup tb r0 (Go.VG.plain_FnExactGradingGroup x0 (good3 r0))) fun e W' ⟨v, he, hv, bel⟩ => ?_
  subst he; subst hv
  exact ⟨_, rfl, _, _, _, [], _, [], hW', trodAll_mk1 (shut_bool Tryd.underlying4 _), (trodAll_cons_mk (Go.RowKit.Below.trod laidOut (by as_aux_lemma => kernel_rfl) (of_decide_eq_true (by as_aux_lemma => kernel_rfl)) k0 bel lt0) trodAll_mk0), rfl, bel.frame _, fun h => by cases h⟩

set_option maxRecDepth 100000 in
set_option maxHeartbeats 40000000 in
theorem closed : joinedFacts Tryd.prog 6 Tryd.f6 Rows.fnExactGradingGroupSpec Rows.fnExactGradingGroupRow = true := by
  unfold joinedFacts
  simp only [Bool.and_eq_true]
  repeat' apply And.intro
  all_goals (as_aux_lemma => kernel_rfl)


theorem over : Rows.fnExactGradingGroupRow.holds Tryd.pinned (OpenSpec.ofChange Rows.fnExactGradingGroupSpec) :=
  OpenClaim.holds_of_wide 6 Tryd.f6 rfl rfl rfl rfl rfl rfl rfl ⟨rfl, rfl, rfl, rfl, rfl⟩ rfl rfl rfl rfl rfl (by as_aux_lemma => kernel_rfl) Tryd.func6 closed
    (of_decide_eq_true (by as_aux_lemma => kernel_rfl)) (by unfold Func.isWrapper; first | (rw [if_pos (by as_aux_lemma => decide +kernel)]; as_aux_lemma => kernel_rfl) | (rw [if_neg (by as_aux_lemma => decide +kernel)]; exact ⟨rfl, rfl⟩))
    (fun os started H enc _ => lifted os started H enc)

/-- THE GIVEN STATEMENT. -/
theorem proved : Rows.FnExactGradingGroupCardSaid :=
  Claim7.holds_tied_plain_at .later [] [.data] true (true, "9b116f279da4e81b71ddf086f5a4c27212112ce362d152d580ebbe2d0d30b393") false
    over (fun _ h => by cases h) (by as_aux_lemma => kernel_rfl) (fun _ h => by cases h) fnExactGradingGroup_row_tie rfl ⟨rfl, rfl⟩ (by as_aux_lemma => kernel_rfl) rfl
    (fun f fn hf hfn => by
      obtain rfl : f = 6 := Option.some.inj ((show Tryd.prog.funcNamed "loop.example/g01132/laws.FnExactGradingGroup" = some 6 by kernel_rfl).symm.trans hf) |>.symm
      obtain rfl : fn = Tryd.f6 := (Option.some.inj (Tryd.func6.symm.trans hfn)).symm
      exact ⟨by kernel_rfl, fun j t ht => by
        rw [Tryd.params6] at ht
        have hm : t ∈ [24] := by simpa using Array.mem_of_getElem? ht
        have hall : ([24].all fun u => !Tryd.prog.wantsStandIn u) = true := by kernel_rfl
        exact (show Tryd.prog.wantsStandIn t = false by simpa using List.all_eq_true.1 hall t hm)⟩)
    (by kernel_rfl)
#print axioms proved
end Go.Proofs.YtaghjfegbooceaaDoor.fnExactGradingGroupDone
