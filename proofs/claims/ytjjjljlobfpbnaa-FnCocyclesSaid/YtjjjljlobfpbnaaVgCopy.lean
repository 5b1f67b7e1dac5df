/- The builtin copy into a slice that the call owns, or into its rest from a place on; regions that draw their order, each order by itself. No condition. -/
import Derived.Test.YtjjjljlobfpbnaaVgIn
import Derived.Test.YtjjjljlobfpbnaaVgDr
import Derived.Laws.IdiomCopy
import Derived.Laws.CopyRow
set_option linter.all false
namespace Go.VG
open Go.RowKit (Below)

section
variable {P : Program} {n : Nat} {Q : Post} {f : Fr} {w w0 : World} {T : TypeId} {As : List Ent} {ops : Array Oper} {rest : List Oper} {pos : String} {after : Array Edge}

/-- A reslice's value, in whatever world. -/
theorem op_sliceA {α : Type} {t : Ty α} {v : Value} {l : List α} {x : Operand} {lo hi : Option Operand} {st e : TypeId} {zv : Value} {bytes : Nat} {a b : Int} {kd : IntKind} (hT : SlE P st e zv bytes) (hx : ev f x = v) (h : t.sl.rep w v l)
    (hlo : match lo with | some o => ev f o = .int kd a | none => a = 0) (hhi : match hi with | some o => ev f o = .int kd b | none => b = l.length) (h0 : 0 ≤ a) (h1 : a ≤ b) (h2 : b ≤ l.length) :
    ∃ v', (∀ w', OpV P (.slice st x lo hi none) T f w' v' w') ∧ t.sl.rep w v' ((l.take b.toNat).drop a.toNat) := by
  obtain ⟨i, hi', hiz, his, hib⟩ := hT.info
  obtain ⟨p, c, hv, hlc, hrep⟩ := rep_slice h (lo := a.toNat) (hi := b.toNat) (by omega) (by omega)
  refine ⟨_, fun w' _ _ _ _ => ?_, hrep⟩
  have hel : P.elem st = e := by simp [Program.elem, hT.1]
  have hel' : P.underlying st = some (.slice (P.elem st)) := by rw [hel]; exact hT.1
  have hsz : (sizeOf (P.elem st)).run P w' = .ok 1 w' := by rw [hel]; simp [sizeOf, typeInfo, hi', his]
  have key : (Instr.slice st (.slice p l.length c) (lo.map (ev f)) (hi.map (ev f)) none).run P w' = .ok (.slice (if c = a.toNat then p else p.map (·.add (a.toNat * 1))) (b.toNat - a.toNat) (c - a.toNat)) w' := by
    cases lo with
    | none =>
      simp only at hlo; subst hlo
      cases hi with
      | none =>
        simp only at hhi; subst hhi
        simp only [Option.map_none]
        rw [run_slice_all w' st p l.length c hel', hsz]
        simp [sliced]
      | some oh =>
        simp only at hhi
        simp only [Option.map_none, Option.map_some, hhi]
        rw [run_slice_h w' st p l.length c hel' kd b (by omega) (by omega), hsz]
        simp [sliced]
    | some ol =>
      simp only at hlo
      cases hi with
      | none =>
        simp only at hhi; subst hhi
        simp only [Option.map_none, Option.map_some, hlo]
        rw [run_slice_l w' st p l.length c hel' kd a h0 h1, hsz]
        simp [sliced]
      | some oh =>
        simp only at hhi
        simp only [Option.map_some, hlo, hhi]
        rw [run_slice_lh w' st p l.length c hel' kd kd a b h0 h1 (by omega), hsz]
        simp [sliced]
  subst hv
  have hat : (Instr.sliceAt st (.slice p l.length c) (lo.map (ev f)) (hi.map (ev f)) none).run P w' = (Instr.slice st (.slice p l.length c) (lo.map (ev f)) (hi.map (ev f)) none).run P w' := by
    simp [Instr.sliceAt, run_underlying hT.1]
  simp [execOp, hx, hat, key]
/-! ### Every order by itself -/

/-- What is left of a region that draws: in every order. -/
def WA (P : Program) (n : Nat) (l : List Oper) (K : Fr → World → Prop) (fuel : Nat) (listed : Array Bool) (f : Fr) (w : World) : Prop :=
  ∀ a, Agree n a f → wpAny P .any l.toArray (lift n (nrm K)) fuel listed a w
theorem W.orders {id : Nat} {l : List Oper} (hm : P.follows .mixedOrders = true) (h : ∀ w', Ext w w' → WA P n l (Q .normal) l.length (Array.replicate l.length false) f w') : W P n (.region id l.toArray true) Q f w :=
  W.ofNrm fun a ha => wp_region_any hm (by
    have hsz : (Array.replicate l.toArray.size false) = Array.replicate l.length false := by simp
    rw [hsz]
    simpa using h { w with drawn := w.drawn + 1 } ⟨rfl, rfl, rfl, Nat.le_refl _, fun _ _ => rfl⟩ a ha)
/-- An operation that touches no memory is taken. -/
theorem WA.take {l : List Oper} {K : Fr → World → Prop} {fuel : Nat} {listed : Array Bool} {i d : Nat} {o : Oper} (v : Value) (hi : l[i]? = some o) (hd : o.dst = some d) (hg : o.guard = none) (hn : Nat.blt d n = true)
    (hs : (Region.noSelect l.toArray && Region.free .any l.toArray listed i && (Region.ready .any l.toArray listed).contains i) = true) (hv : ∀ w', OpV P o.op o.type f w' v w')
    (k : WA P n l K fuel (listed.setIfInBounds i true) (upd f d v) w) : WA P n l K (fuel + 1) listed f w := fun a ha => by
  simp only [Bool.and_eq_true] at hs
  refine wpAny_take (oi := o) (v := v) (by simpa using hi) hs.1.1 hs.1.2 hs.2 ?_ (.inl ⟨by simp [Region.wanted, hg], fun w' => ?_⟩) (by rw [hd]; exact k _ (ha.put d v hn))
  · rintro c a w ⟨f1, _, hq⟩
    exact hq.elim
  · have := hv w' o.dst o.pos o.after o.guard
    rw [ha.eval]
    exact this
theorem WA.slice {α : Type} {t : Ty α} {l : List Oper} {K : Fr → World → Prop} {fuel : Nat} {listed : Array Bool} {i d : Nat} {v : Value} {xs xs' : List α} {x : Operand} {lo hi : Option Operand} {st e : TypeId} {zv : Value} {bytes : Nat} {a b : Int} (kd : IntKind)
    (hi' : l[i]? = some ⟨some d, .slice st x lo hi none, T, pos, after, none⟩) (hn : Nat.blt d n = true) (hs : (Region.noSelect l.toArray && Region.free .any l.toArray listed i && (Region.ready .any l.toArray listed).contains i) = true)
    (hT : SlE P st e zv bytes) (hx : ev f x = v) (h : t.sl.rep w v xs) (hlo : match (generalizing := false) lo with | some o => ev f o = .int kd a | none => a = 0) (hhi : match (generalizing := false) hi with | some o => ev f o = .int kd b | none => b = xs.length) (hc : cutL xs a b = some xs')
    (k : ∀ u, t.sl.rep w u xs' → WA P n l K fuel (listed.setIfInBounds i true) (upd f d u) w) : WA P n l K (fuel + 1) listed f w := by
  obtain ⟨h0, h1, h2, rfl⟩ := cutL_some hc
  obtain ⟨u, ho, hr⟩ := op_sliceA (P := P) (f := f) (w := w) (T := T) hT hx h hlo hhi h0 h1 h2
  exact WA.take u hi' rfl rfl hn hs ho (k u hr)
/-- What may come, each by itself. -/
def WAs (P : Program) (n : Nat) (l : List Oper) (K : Fr → World → Prop) (fuel : Nat) (listed : Array Bool) (f : Fr) (w : World) : List Nat → Prop
  | [] => True
  | i :: is => (∃ o, l[i]? = some o ∧ WL P n l.toArray (nrm fun f' w' => WA P n l K fuel (listed.setIfInBounds i true) f' w') [o] f w) ∧ WAs P n l K fuel listed f w is
theorem WAs.get {l : List Oper} {K : Fr → World → Prop} {fuel : Nat} {listed : Array Bool} : ∀ {is : List Nat}, WAs P n l K fuel listed f w is → ∀ i ∈ is, ∃ o, l[i]? = some o ∧ WL P n l.toArray (nrm fun f' w' => WA P n l K fuel (listed.setIfInBounds i true) f' w') [o] f w
  | [], _, i, h => by cases h
  | j :: is, h, i, hi => by
    rcases List.mem_cons.1 hi with rfl | hi
    · exact h.1
    · exact WAs.get h.2 i hi
theorem WA.all {l : List Oper} {K : Fr → World → Prop} {fuel : Nat} {listed : Array Bool} (is : List Nat) (hr : Region.ready .any l.toArray listed = is) (hne : is.isEmpty = false) (h : WAs P n l K fuel listed f w is) : WA P n l K (fuel + 1) listed f w := fun a ha => by
  refine wpAny_all hr (by intro e; subst e; cases hne) fun i hi => ?_
  obtain ⟨o, ho, hw⟩ := h.get i hi
  have h1 := hw a ha
  unfold wpOp
  simp only [List.getElem?_toArray, ho]
  unfold wpList at h1
  split
  · rename_i hwant
    rw [if_pos hwant] at h1
    refine h1.imp (fun h2 => ?_) (fun h2 => ?_)
    · refine Oper.wp_mono2 (Q := lift n (nrm fun f' w' => WA P n l K fuel (listed.setIfInBounds i true) f' w')) (fun a w h3 => ?_) (fun e a w h3 => ?_) h2
      · obtain ⟨f', hf, h4⟩ := h3
        exact h4 a hf
      · obtain ⟨f', hf, h4⟩ := h3
        exact nrm_normal _ _ _ h4
    · obtain ⟨_, a', w', h3⟩ := h2
      obtain ⟨f', _, h4⟩ := h3
      exact h4.elim
  · rename_i hwant
    rw [if_neg hwant] at h1
    obtain ⟨f', hf, h4⟩ := h1
    exact h4 _ hf
theorem WA.done {l : List Oper} {K : Fr → World → Prop} {fuel : Nat} {listed : Array Bool} (hr : (Region.ready .any l.toArray listed).isEmpty = true) (h : K f w) : WA P n l K fuel listed f w := fun a ha =>
  wpAny_done (List.isEmpty_iff.1 hr) ⟨f, ha, h⟩ fuel
end
end Go.VG
