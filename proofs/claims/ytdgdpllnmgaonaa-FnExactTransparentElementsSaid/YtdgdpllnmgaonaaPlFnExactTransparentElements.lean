/- The plain law of FnExactTransparentElements. No condition but the readings'. -/
import Derived.Test.YtdgdpllnmgaonaaPlBraidMark
set_option linter.all false
namespace Go.VG
section
variable {o : List Int} {m : Int} {V : List (List (List Int))} {c : List (List Int)}
theorem trans_row (h : CocOK o m V) (hp : PairOK V.length m c) {x : Nat} (hx : x < V.length) :
    ∃ (b : Bool) (e : Int), whileC (R := Unit) (fun s => p_spec_TransparentElements_L2 c o m V x s.1 s.2) (true, (0 : Int)) = some (.fin (b, e)) ∧ forN (R := Unit) (fun k s => p_impl_TransparentElements_L2 o m V c x k s) V.length 0 true = some (.fin b) := by
  have hcl := hp.1.1
  have hn := h.small
  have off : ∀ (q k : Nat), k + q = V.length → forN (R := Unit) (fun k s => p_impl_TransparentElements_L2 o m V c x k s) q k false = some (.fin false) := by
    intro q
    induction q with
    | zero => intro k _; rfl
    | succ q ih => intro k hk; rw [forN_next1 (s' := false) (by simp [p_impl_TransparentElements_L2])]; exact ih (k + 1) (by omega)
  have key : ∀ (q k : Nat), k + q = V.length → ∃ (b : Bool) (e : Int), iterW (R := Unit) (fun s => p_spec_TransparentElements_L2 c o m V x s.1 s.2) (q + 1) (true, (k : Int)) = some (.fin (b, e)) ∧ forN (R := Unit) (fun k s => p_impl_TransparentElements_L2 o m V c x k s) q k true = some (.fin b) := by
    intro q
    induction q with
    | zero =>
      intro k hk
      have ed : decide ((k : Int) < (c.length : Int)) = false := decide_eq_false (by omega)
      exact ⟨true, _, iterN_brk (by simp only [p_spec_TransparentElements_L2, ed, Bool.false_and, Bool.false_eq_true, if_false]; rfl), rfl⟩
    | succ q ih =>
      intro k hk
      have ed : decide ((k : Int) < (c.length : Int)) = true := decide_eq_true (by omega)
      have ew : w64 ((k : Int) + 1) = ((k + 1 : Nat) : Int) := by rw [w64_small (by omega) (by omega)]; omega
      obtain ⟨v, e1, e2⟩ := mono_eq h hp hx (show k < V.length by omega)
      have s1 : p_spec_TransparentElements_L2 c o m V x true (k : Int) = some (.next ((v == 0), ((k + 1 : Nat) : Int))) := by
        simp only [p_spec_TransparentElements_L2, ed, Bool.and_true, if_true, e1, Option.bind_some, ew]
      have t1 : p_impl_TransparentElements_L2 o m V c x k true = some (.next (v == 0)) := by
        simp only [p_impl_TransparentElements_L2, if_true, e2, Option.bind_some]
      rw [iterN_next s1, forN_next1 t1]
      cases hv : (v == 0)
      · refine ⟨false, _, iterN_brk (s' := (false, ((k + 1 : Nat) : Int))) ?_, off q (k + 1) (by omega)⟩
        simp only [p_spec_TransparentElements_L2, Bool.and_false, Bool.false_eq_true, if_false]
      · exact ih (k + 1) (by omega)
  obtain ⟨b, e, h1, h2⟩ := key V.length 0 (by omega)
  exact ⟨b, e, whileC_of h1, h2⟩
theorem trans_eq (hl : (o.length : Int) ≤ 1048576) : ∃ x, p_spec_TransparentElements o m V c = some x ∧ p_impl_TransparentElements o m V c = some x ∧ (x.1.length : Int) ≤ 8 := by
  unfold p_spec_TransparentElements p_impl_TransparentElements
  obtain ⟨b, e1, e2, hb⟩ := braid_eq (o := o) (m := m) (V := V) (c := c) hl
  rw [e1, e2]
  simp only [Option.bind_some]
  cases b
  · exact ⟨([], 1), rfl, rfl, by simp⟩
  · obtain ⟨hc, hp⟩ := hb rfl
    have hn := hc.small
    have hcl := hp.1.1
    simp only [Bool.not_true, Bool.false_eq_true, if_false, Int.toNat_natCast, hcl]
    have := forN_rel (R := Unit) (R' := Unit) (b := fun k s => p_spec_TransparentElements_L1 c o m V k s) (b' := fun k s => p_impl_TransparentElements_L1 o m V c k s) (I := fun j s => s.length ≤ j) (r := ()) (r' := ()) V.length 0 ([] : List Int) (by simp) (fun x s _ hx hs => by
      have hx : x < V.length := by omega
      obtain ⟨b, e, f1, f2⟩ := trans_row hc hp hx
      have ea : appL s [(x : Int)] = some (s ++ [(x : Int)]) := by simp [appL]; omega
      have s1 : p_spec_TransparentElements_L1 c o m V x s = some (.next (if b = true then s ++ [(x : Int)] else s)) := by
        simp only [p_spec_TransparentElements_L1, f1, Option.bind_some, onRes, ea]
        cases b <;> rfl
      have t1 : p_impl_TransparentElements_L1 o m V c x s = some (.next (if b = true then s ++ [(x : Int)] else s)) := by
        simp only [p_impl_TransparentElements_L1, hcl, f2, Option.bind_some, onRes, ea]
        cases b <;> rfl
      refine .inr ⟨_, ?_, s1, t1⟩
      cases b <;> simp <;> omega)
    rcases this with ⟨e, e'⟩ | ⟨s, hs, e, e'⟩
    · obtain ⟨u, hu⟩ : ∃ u, forN (R := Unit) (fun k s => p_spec_TransparentElements_L1 c o m V k s) V.length 0 ([] : List Int) = some (.fin u) := by
        obtain ⟨u, hu, _⟩ := forN_inv (R := Unit) (body := fun k s => p_spec_TransparentElements_L1 c o m V k s) (N := V.length) (s := []) (fun j s => s.length ≤ j) (by simp) (fun x s hx hs => by
          obtain ⟨b, e, f1, f2⟩ := trans_row hc hp hx
          have ea : appL s [(x : Int)] = some (s ++ [(x : Int)]) := by simp [appL]; omega
          refine ⟨if b = true then s ++ [(x : Int)] else s, ?_, ?_⟩
          · simp only [p_spec_TransparentElements_L1, f1, Option.bind_some, onRes, ea]
            cases b <;> rfl
          · cases b <;> simp <;> omega)
        exact ⟨u, hu⟩
      rw [hu] at e; cases e
    · rw [e, e']
      exact ⟨(s, 0), rfl, rfl, by have := hs; simp at this ⊢; omega⟩
end
theorem plain_FnExactTransparentElements (aB_Cocycle_Orders : (List Int)) (aB_Cocycle_Modulus : Int) (aB_Cocycle_Values : (List (List (List Int)))) (aB_Values : (List (List Int))) (h0 : Good1 .i64 aB_Cocycle_Orders) (h1 : InR .i64 aB_Cocycle_Modulus) (h2 : Good3 .i64 aB_Cocycle_Values) (h3 : Good2 .i64 aB_Values) : p_laws_FnExactTransparentElements aB_Cocycle_Orders aB_Cocycle_Modulus aB_Cocycle_Values aB_Values = some true := by
  unfold p_laws_FnExactTransparentElements
  obtain ⟨r, e, hr⟩ := szBraiding_spec (m := aB_Cocycle_Modulus) h0 h2 h3
  rw [e]
  simp only [Option.bind_some]
  by_cases hr0 : r < 0
  · simp [hr0]
  · obtain ⟨et, ho, hV, hc⟩ := hr (by omega)
    obtain ⟨x, e1, e2, e3⟩ := trans_eq (o := aB_Cocycle_Orders) (m := aB_Cocycle_Modulus) (V := aB_Cocycle_Values) (c := aB_Values) ho
    obtain ⟨q, e4, e5⟩ := markBraiding_ok aB_Cocycle_Orders aB_Cocycle_Modulus aB_Cocycle_Values aB_Values ho hV hc
    obtain ⟨l, e7, e8, e9⟩ := markS_held x.1 1 (by decide) (by omega)
    have hq : ¬ q.1 < 0 := by omega
    have hp : ¬ (1 + (x.1.length : Int)) < 0 := by omega
    simp only [hr0, decide_false, Bool.false_eq_true, if_false, et, Option.bind_some, e1, e2, eqBraiding_self, eqS_self, e4, e7, e9]
    simp [hq, hp]
end Go.VG
