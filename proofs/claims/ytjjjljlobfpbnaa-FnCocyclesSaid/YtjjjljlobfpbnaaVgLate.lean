/- Regions that draw, of which some operations may come late. No condition. -/
import Derived.Test.YtjjjljlobfpbnaaVgMix
set_option linter.all false
namespace Go.VG
open Go.RowKit (Below)
section
variable {P : Program} {n : Nat} {Q : Post} {l : List Oper}
end

/-! ### What may come late, told by bits -/
section
variable {P : Program} {n : Nat} {Q : Post} {l : List Oper}
variable {f : Fr} {w w0 : World} {T : TypeId} {As : List Ent} {ops : Array Oper} {rest : List Oper} {pos : String} {after : Array Edge}
theorem WA.conv {K : Fr → World → Prop} {c : Nat} {a : Array Bool} {cnt : Nat} {arr : Array Bool} (h1 : c = cnt) (h2 : a = arr) (h : WA P n l K cnt arr f w) : WA P n l K c a f w := by
  subst h1; subst h2; exact h
end

/-! ### A region that draws, by one invariant -/
section
variable {P : Program} {n : Nat} {Q : Post} {l : List Oper} {K : Fr → World → Prop}
theorem WAs.of {fuel : Nat} {listed : Array Bool} {f : Fr} {w : World} : ∀ {is : List Nat}, (∀ i ∈ is, ∃ o, l[i]? = some o ∧ WL P n l.toArray (nrm fun f' w' => WA P n l K fuel (listed.setIfInBounds i true) f' w') [o] f w) → WAs P n l K fuel listed f w is
  | [], _ => trivial
  | i :: is, h => ⟨h i (by simp), WAs.of fun j hj => h j (by simp [hj])⟩
theorem drawI (Inv : (Nat → Bool) → Fr → World → Prop) (hE : edgesOk l = true)
    (hstep : ∀ (L : Nat → Bool) (i : Nat) (o : Oper) (f' : Fr) (w' : World), l[i]? = some o → L i = false → (∀ j, depT l i j = true → L j = true) → (∀ k j, depT l k j = true → L k = true → L j = true) → Inv L f' w' → ∀ K' : Fr → World → Prop, (∀ f'' w'', Inv (fun k => Nat.beq k i || L k) f'' w'' → K' f'' w'') → WL P n l.toArray (nrm K') [o] f' w')
    (hend : ∀ L f' w', (∀ j, j < l.length → L j = true) → Inv L f' w' → K f' w') :
    ∀ (fuel : Nat) (listed : Array Bool) (f' : Fr) (w' : World), listed.size = l.length → listed.toList.count false = fuel → Closed l (fun k => listed.getD k false = true) → Inv (fun k => listed.getD k false) f' w' → WA P n l K fuel listed f' w' := by
  intro fuel
  induction fuel with
  | zero =>
    intro listed f' w' hs hc hcl hI
    have hall : ∀ i, (hi : i < listed.size) → listed[i] = true := by
      intro i hi
      cases hx : listed[i] with
      | true => rfl
      | false =>
        exfalso
        have : false ∈ listed.toList := by rw [← hx]; simp
        have := List.count_pos_iff.2 this
        omega
    refine WA.done ?_ (hend _ f' w' (fun j hj => by rw [getD_listed (by omega)]; exact hall j (by omega)) hI)
    cases hr : Region.ready .any l.toArray listed with
    | nil => rfl
    | cons i is =>
      exfalso
      have hi : i ∈ Region.ready .any l.toArray listed := by rw [hr]; simp
      obtain ⟨h1, h2, _⟩ := mem_ready' hi
      rw [getD_listed (by omega), hall i (by omega)] at h2
      cases h2
  | succ fuel ih =>
    intro listed f' w' hs hc hcl hI
    have hex : ∃ j, j < l.length ∧ listed.getD j false = false := by
      have hpos : 0 < listed.toList.count false := by omega
      obtain ⟨j, hj, hjf⟩ := List.getElem_of_mem (List.count_pos_iff.1 hpos)
      refine ⟨j, by simp at hj; omega, ?_⟩
      rw [getD_listed (by simpa using hj)]
      simpa using hjf
    obtain ⟨j0, ⟨hj0, hj0f⟩, hmin⟩ := exists_least hex
    have hready0 : j0 ∈ Region.ready .any l.toArray listed := by
      refine ready_of (List.getElem?_eq_getElem hj0) ?_ fun e he' hb => ?_
      · rw [getD_l (by omega) true false]; exact hj0f
      · have hz := List.all_eq_true.1 hE (l[j0], j0) (by rw [List.mem_zipIdx_iff_getElem?]; simp)
        have h3 := List.all_eq_true.1 hz e he'
        have hlt' : e.on < j0 := by simpa [hb] using h3
        cases hx : listed.getD e.on false with
        | true => rfl
        | false => have := hmin e.on ⟨by omega, hx⟩; omega
    refine WA.all _ rfl (by cases hr : Region.ready .any l.toArray listed with
      | nil => rw [hr] at hready0; cases hready0
      | cons => rfl) (WAs.of fun i hi => ?_)
    obtain ⟨h1, h2, o, ho, hd⟩ := mem_ready' hi
    refine ⟨o, ho, ?_⟩
    have hil : i < l.length := by simpa using h1
    have hL : Closed l (fun k => k = i ∨ listed.getD k false = true) := by
      intro k o' ho' hk e he' hbnd
      rcases hk with rfl | hk
      · rw [ho] at ho'; cases ho'; exact .inr (hd e he' hbnd)
      · exact .inr (hcl k o' ho' hk e he' hbnd)
    have hdep : ∀ j, depT l i j = true → listed.getD j false = true := fun j hj => by
      have hlt0 := befs_lt hE ho hj
      exact (befs_spec _ hL l [] (by simp) (by simp) i j (.inl rfl) hj).resolve_left (by omega)
    have hcl' : ∀ k j, depT l k j = true → listed.getD k false = true → listed.getD j false = true := fun k j hj hk =>
      befs_spec _ hcl l [] (by simp) (by simp) k j hk hj
    have hcs := count_set_true h2
    refine hstep (fun k => listed.getD k false) i o f' w' ho (by show listed.getD i false = false; rw [getD_l (by omega) false true]; exact h2) hdep hcl' hI _ fun f2 w2 h3 => ?_
    refine ih (listed.setIfInBounds i true) f2 w2 (by simpa using hs) (by omega) ?_ ?_
    · intro k o' ho' hk e he' hbnd
      have hk' : k = i ∨ listed.getD k false = true := by
        rw [Array.getD_eq_getD_getElem?, Array.getElem?_setIfInBounds] at hk
        split at hk
        · rename_i e; exact .inl e.symm
        · rw [← Array.getD_eq_getD_getElem?] at hk; exact .inr hk
      have h5 := hL k o' ho' hk' e he' hbnd
      rw [Array.getD_eq_getD_getElem?, Array.getElem?_setIfInBounds]
      rcases h5 with h5 | h5
      · rw [if_pos h5.symm, if_pos (by omega)]; rfl
      · split
        · rw [if_pos (by omega)]; rfl
        · rw [← Array.getD_eq_getD_getElem?]; exact h5
    · have e : (fun k => (listed.setIfInBounds i true).getD k false) = (fun k => Nat.beq k i || listed.getD k false) := funext fun k => by
        rw [Array.getD_eq_getD_getElem?, Array.getElem?_setIfInBounds]
        by_cases hki : i = k
        · subst hki
          rw [if_pos rfl, if_pos (by omega), Nat.beq_refl]; rfl
        · rw [if_neg hki, ← Array.getD_eq_getD_getElem?]
          have : Nat.beq k i = false := by
            cases hb : Nat.beq k i with
            | false => rfl
            | true => exact absurd (Nat.eq_of_beq_eq_true hb).symm hki
          rw [this]; rfl
      rw [e]
      exact h3
theorem W.drawI {id : Nat} {f : Fr} {w : World} (hm : P.follows .mixedOrders = true) (Inv : (Nat → Bool) → Fr → World → Prop) (hE : edgesOk l = true) (h0 : ∀ w', Ext w w' → Inv (fun _ => false) f w')
    (hstep : ∀ (L : Nat → Bool) (i : Nat) (o : Oper) (f' : Fr) (w' : World), l[i]? = some o → L i = false → (∀ j, depT l i j = true → L j = true) → (∀ k j, depT l k j = true → L k = true → L j = true) → Inv L f' w' → ∀ K' : Fr → World → Prop, (∀ f'' w'', Inv (fun k => Nat.beq k i || L k) f'' w'' → K' f'' w'') → WL P n l.toArray (nrm K') [o] f' w')
    (hend : ∀ L f' w', (∀ j, j < l.length → L j = true) → Inv L f' w' → Q .normal f' w') : W P n (.region id l.toArray true) Q f w := by
  refine W.orders hm fun w' he => VG.drawI (K := Q .normal) Inv hE hstep hend l.length (Array.replicate l.length false) f w' (by simp) (by simp) ?_ ?_
  · intro k o _ hk
    exfalso
    rw [Array.getD_eq_getD_getElem?, Array.getElem?_replicate] at hk
    split at hk <;> simp at hk
  · have e : (fun k => (Array.replicate l.length false).getD k false) = fun _ => false := funext fun k => by
      rw [Array.getD_eq_getD_getElem?, Array.getElem?_replicate]
      split <;> rfl
    rw [e]
    exact h0 w' he
end
end Go.VG
