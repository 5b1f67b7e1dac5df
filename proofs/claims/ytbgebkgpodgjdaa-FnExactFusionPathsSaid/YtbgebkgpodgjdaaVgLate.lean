/- Regions that draw, of which some operations may come late. No condition. -/
import Derived.Test.YtbgebkgpodgjdaaVgMix
set_option linter.all false
namespace Go.VG
open Go.RowKit (Below)
def lateOk (l : List Oper) (late : List Nat) (p : Nat) : Bool :=
  let b := befs l []
  (List.range l.length).all fun i => decide (i < p) || (List.range p).all fun j => inF late j || (b.getD i 0).testBit j
def parOkY (l : List Oper) (p : Nat) (late : List Nat) : Bool := slotsOk l p && edgesOk l && guardsOk l p && lateOk l late p && decide (p ≤ l.length)
section
variable {P : Program} {n : Nat} {Q : Post} {l : List Oper}
theorem drawY_any {K : Fr → World → Prop} {f : Fr} {w : World} (p : Nat) (late : List Nat) (phis : List Phi) (hok : parOkY l p late = true)
    (hn : (l.take p).all (fun o => match o.dst with | some d => Nat.blt d n | none => false) = true)
    (hst : OkX l 0 (l.take p) phis) (hops : ParX P l p [] f w phis 0 (l.take p) phis)
    (hend : ∀ (listed : Array Bool) (f' : Fr) (w' : World) (Ss : Nat → Nat → Prop), listed.size = l.length → (∀ i, p ≤ i → i < l.length → listed.getD i true = false) → (∀ j, j < p → inF late j = false → listed.getD j false = true) → Ext w w' → (∀ t, isDst l p t = false → f' t = f t) → (∀ j, NewS w w' (Ss j)) → (∀ i j b, Ss i b → Ss j b → i = j) →
      (∀ (j : Nat) d φj, j < p → listed.getD j false = true → dstOf l j = some d → phis[j]? = some φj → φj f' (f' d) (Ss j) w') → WA P n l K (listed.toList.count false) listed f' w') :
    ∀ a, Agree n a f → wpAny P .any l.toArray (lift n (nrm K)) l.toArray.size (Array.replicate l.toArray.size false) a { w with drawn := w.drawn + 1 } := fun a ha => by
  simp only [parOkY, Bool.and_eq_true, decide_eq_true_eq] at hok
  obtain ⟨⟨⟨⟨hS, hE⟩, hG⟩, hT⟩, hp⟩ := hok
  obtain ⟨hlen, hget⟩ := parX_get 0 _ _ hops
  have hokg : ∀ (i : Nat) (o : Oper) (φ : Phi), (l.take p)[i]? = some o → phis[i]? = some φ → PhiOk l i φ := fun i o φ h1 h2 => by have := okX_get 0 _ _ hst i o φ h1 h2; rwa [Nat.zero_add] at this
  have hlp : phis.length = p := by rw [← hlen]; simp; omega
  have key : ∀ (fuel : Nat) (listed : Array Bool) (a : Act) (f' : Fr) (w' : World), listed.size = l.length → listed.toList.count false = fuel → (∀ i, p ≤ i → i < l.length → listed.getD i true = false) →
      Closed l (fun k => listed.getD k false = true) → Agree n a f' → Ext w w' →
      (∀ t, isDst l p t = false → f' t = f t) → Told l p phis w (fun j => listed.getD j false = true) f' w' →
      wpAny P .any l.toArray (lift n (nrm K)) fuel listed a w' := by
    intro fuel
    induction fuel with
    | zero =>
      intro listed a f' w' hs hc htl hcl ha he hout hphi
      have hall : ∀ i, (hi : i < listed.size) → listed[i] = true := by
        intro i hi
        cases hx : listed[i] with
        | true => rfl
        | false =>
          exfalso
          have : false ∈ listed.toList := by rw [← hx]; simp
          have := List.count_pos_iff.2 this
          omega
      obtain ⟨Ss, hS1, hS2, hS3⟩ := hphi
      have hEnd := hend listed f' w' Ss hs htl (fun j hj _ => by rw [getD_listed (by omega)]; exact hall j (by omega)) he hout hS1 hS2 hS3
      rw [hc] at hEnd
      exact hEnd a ha
    | succ fuel ih =>
      intro listed a f' w' hs hc htl hcl ha he hout hphi
      -- one more operation has been listed
      have step : ∀ (i : Nat) (o : Oper) (φ : Phi) (v : Value) (w'' : World) (S : Nat → Prop), l[i]? = some o → i < p → phis[i]? = some φ → listed.getD i true = false → (∀ e ∈ o.after.toList, Region.binds .any e = true → listed.getD e.on false = true) →
          Ext w' w'' → NewS w' w'' S → φ f' v S w'' → wpAny P .any l.toArray (lift n (nrm K)) fuel (listed.setIfInBounds i true) (a.put o.dst v) w'' := by
        intro i o φ v w'' S ho hip hφ h2 hd he' hSn hv
        have h1 : i < l.length := (List.getElem?_eq_some_iff.1 ho).1
        have hL : Closed l (fun k => k = i ∨ listed.getD k false = true) := by
          intro k o' ho' hk e he' hbnd
          rcases hk with rfl | hk
          · rw [ho] at ho'; cases ho'; exact .inr (hd e he' hbnd)
          · exact .inr (hcl k o' ho' hk e he' hbnd)
        have hSi := List.all_eq_true.1 hS i (by simpa using hip)
        simp only [ho, Bool.and_eq_true] at hSi
        obtain ⟨hsome, hSj⟩ := hSi
        obtain ⟨d, hdst⟩ := Option.isSome_iff_exists.1 hsome
        have hdo : dstOf l i = some d := by simp [dstOf, ho, hdst]
        have hdn : Nat.blt d n = true := by
          have := List.all_eq_true.1 hn o (by rw [List.mem_take_iff_getElem]; exact ⟨i, by omega, by rw [List.getElem?_eq_getElem h1] at ho; cases ho; rfl⟩)
          simpa [hdst] using this
        have hisd : isDst l p d = true := by
          unfold isDst
          rw [List.any_eq_true]
          refine ⟨o, by rw [List.mem_take_iff_getElem]; exact ⟨i, by omega, by rw [List.getElem?_eq_getElem h1] at ho; cases ho; rfl⟩, ?_⟩
          simp [hdst, Nat.beq_refl]
        have hdd : ∀ j dj, j < p → dstOf l j = some dj → j ≠ i → dj ≠ d := by
          intro j dj hj hdj hji
          have h5 := List.all_eq_true.1 hSj j (by simpa using hj)
          simp only [hdj, Bool.and_eq_true] at h5
          have h6 := h5.2
          have hij : ¬ i = j := fun e => hji e.symm
          simp only [hij, if_false, hdst, bne_iff_ne, ne_eq, Option.some.injEq] at h6
          exact fun e => h6 e.symm
        have hcs := count_set_true h2
        rw [hdst]
        obtain ⟨Ss, hS1, hS2, hS3⟩ := hphi
        have hset : ∀ k b, (listed.setIfInBounds i true).getD k b = true → k = i ∨ listed.getD k b = true := by
          intro k b hk
          rw [Array.getD_eq_getD_getElem?, Array.getElem?_setIfInBounds] at hk
          split at hk
          · rename_i e; exact .inl e.symm
          · rw [← Array.getD_eq_getD_getElem?] at hk; exact .inr hk
        refine ih (listed.setIfInBounds i true) _ (upd f' d v) w'' (by simpa using hs) (by omega) ?_ ?_ (ha.put d v hdn) (he.trans he') ?_ ⟨fun j b => (j = i ∧ S b) ∨ (j ≠ i ∧ Ss j b), ?_, ?_, ?_⟩
        · intro k hk hkl
          rw [Array.getD_eq_getD_getElem?, Array.getElem?_setIfInBounds, if_neg (by omega), ← Array.getD_eq_getD_getElem?]
          exact htl k hk hkl
        · intro k o' ho' hk e he'' hbnd
          have := hL k o' ho' (hset k false hk) e he'' hbnd
          rw [Array.getD_eq_getD_getElem?, Array.getElem?_setIfInBounds]
          rcases this with h5 | h5
          · rw [if_pos h5.symm, if_pos (by omega)]; rfl
          · split
            · rw [if_pos (by omega)]; rfl
            · rw [← Array.getD_eq_getD_getElem?]; exact h5
        · intro t ht
          have : t ≠ d := fun e => by rw [e, hisd] at ht; cases ht
          rw [upd_ne f' v this]; exact hout t ht
        · rintro j b (⟨_, hb⟩ | ⟨_, hb⟩)
          · exact ⟨Nat.le_trans he.size (hSn b hb).1, (hSn b hb).2⟩
          · exact ⟨(hS1 j b hb).1, Nat.lt_of_lt_of_le (hS1 j b hb).2 he'.size⟩
        · rintro j k b (⟨h3, hb⟩ | ⟨h3, hb⟩) (⟨h4, hc'⟩ | ⟨h4, hc'⟩)
          · omega
          · have := (hSn b hb).1; have := (hS1 k b hc').2; omega
          · have := (hSn b hc').1; have := (hS1 j b hb).2; omega
          · exact hS2 j k b hb hc'
        · intro j dj φj hj hjl hdj hφj
          by_cases hji : j = i
          · subst hji
            rw [hdo] at hdj; cases hdj
            rw [hφ] at hφj; cases hφj
            rw [upd_same]
            have e : (fun b => (j = j ∧ S b) ∨ (j ≠ j ∧ Ss j b)) = S := by funext b; simp
            show φ (upd f' d v) v (fun b => (j = j ∧ S b) ∨ (j ≠ j ∧ Ss j b)) w''
            rw [e]
            refine (hokg j o φ (by rw [List.getElem?_take, if_pos hip]; exact ho) hφ).2 _ _ _ _ _ (fun k dk hk hdk => ?_) hv
            have hkd : dk ≠ d := by
              have hlt0 := befs_lt hE ho hk
              have hkl := (befs_spec _ hL l [] (by simp) (by simp) j k (.inl rfl) hk).resolve_left (by omega)
              exact hdd _ _ (by omega) hdk (by omega)
            rw [upd_ne f' v hkd]
          · have hne := hdd j dj hj hdj hji
            rw [upd_ne f' v hne]
            have e : (fun b => (j = i ∧ S b) ∨ (j ≠ i ∧ Ss j b)) = Ss j := by funext b; simp [hji]
            show φj (upd f' d v) (f' dj) (fun b => (j = i ∧ S b) ∨ (j ≠ i ∧ Ss j b)) w''
            rw [e]
            have hjl' := (hset j false hjl).resolve_left hji
            have hoj : ∃ oj, l[j]? = some oj := ⟨_, List.getElem?_eq_getElem (by omega)⟩
            obtain ⟨oj, hoj⟩ := hoj
            have hokj := hokg j oj φj (by rw [List.getElem?_take, if_pos hj]; exact hoj) hφj
            refine hokj.2 _ _ _ _ _ (fun k dk hk hdk => ?_) (hokj.1 _ _ _ _ _ he' (hS3 j dj φj hj hjl' hdj hφj))
            have hkd : dk ≠ d := by
              have hlt0 := befs_lt hE hoj hk
              have hkl : listed.getD k false = true := befs_spec (fun x => listed.getD x false = true) hcl l [] (by simp) (by simp) j k hjl' hk
              have hne : k ≠ i := fun e0 => by
                rw [e0, getD_l (by omega) false true, h2] at hkl; cases hkl
              exact hdd _ _ (by omega) hdk hne
            rw [upd_ne f' v hkd]
      -- what is asked of an operation, the facts laid out
      have ask : ∀ (i : Nat) (o : Oper) (φ : Phi), l[i]? = some o → i < p → phis[i]? = some φ → (∀ e ∈ o.after.toList, Region.binds .any e = true → listed.getD e.on false = true) → OpX P l o f' w' φ := by
        intro i o φ ho hip hφ hd
        have hob := hget i o φ (by rw [List.getElem?_take, if_pos hip]; exact ho) hφ
        rw [Nat.zero_add] at hob
        refine (show OpX P l o f' w' φ from hob f' w' he hout fun j dj φj hdep hdj hφj => ?_)
        have hlt0 := befs_lt hE ho hdep
        have hL : Closed l (fun k => k = i ∨ listed.getD k false = true) := by
          intro k o' ho' hk e he' hbnd
          rcases hk with rfl | hk
          · rw [ho] at ho'; cases ho'; exact .inr (hd e he' hbnd)
          · exact .inr (hcl k o' ho' hk e he' hbnd)
        have hjl := (befs_spec _ hL l [] (by simp) (by simp) i j (.inl rfl) hdep).resolve_left (by omega)
        obtain ⟨Ss, hS1, hS2, hS3⟩ := hphi
        exact ⟨_, hS1 _, hS3 _ dj φj (by omega) hjl hdj hφj⟩
      by_cases hpre : ∀ j, j < p → inF late j = false → listed.getD j false = true
      · obtain ⟨Ss, hS1, hS2, hS3⟩ := hphi
        have hEnd := hend listed f' w' Ss hs htl hpre he hout hS1 hS2 hS3
        rw [hc] at hEnd
        exact hEnd a ha
      · have hex0 : ∃ j, j < p ∧ inF late j = false ∧ listed.getD j false = false := by
          rcases Classical.em (∃ j, j < p ∧ inF late j = false ∧ listed.getD j false = false) with h | h
          · exact h
          · exfalso
            exact hpre fun j hj hl => by
              cases hx : listed.getD j false with
              | true => rfl
              | false => exact absurd ⟨j, hj, hl, hx⟩ h
        obtain ⟨j1, hj1, hj1l, hj1f⟩ := hex0
        have hex : ∃ j, j < p ∧ listed.getD j false = false := ⟨j1, hj1, hj1f⟩
        obtain ⟨j0, ⟨hj0, hj0f⟩, hmin⟩ := exists_least hex
        have hready0 : j0 ∈ Region.ready .any l.toArray listed := by
          have hlt : j0 < l.length := by omega
          refine ready_of (List.getElem?_eq_getElem hlt) ?_ fun e he' hb => ?_
          · rw [getD_l (by omega) true false]; exact hj0f
          · have hz := List.all_eq_true.1 hE (l[j0], j0) (by rw [List.mem_zipIdx_iff_getElem?]; simp)
            have h3 := List.all_eq_true.1 hz e he'
            have hlt' : e.on < j0 := by simpa [hb] using h3
            cases hx : listed.getD e.on false with
            | true => rfl
            | false => have := hmin e.on ⟨by omega, hx⟩; omega
        refine ⟨fun h0 => (by rw [h0] at hready0; cases hready0), fun i hi => ?_⟩
        obtain ⟨h1, h2, o, ho, hd⟩ := mem_ready' hi
        have hip : i < p := by
          rcases Nat.lt_or_ge i p with h | h
          · exact h
          · exfalso
            have hb := List.all_eq_true.1 hT i (by simpa using h1)
            have hip' : ¬ i < p := by omega
            simp only [hip', decide_false, Bool.false_or] at hb
            have hb2 := List.all_eq_true.1 hb j1 (by simpa using hj1)
            rw [hj1l, Bool.false_or] at hb2
            have hL : Closed l (fun k => k = i ∨ listed.getD k false = true) := by
              intro k o' ho' hk e he' hbnd
              rcases hk with rfl | hk
              · rw [ho] at ho'; cases ho'; exact .inr (hd e he' hbnd)
              · exact .inr (hcl k o' ho' hk e he' hbnd)
            have h5 := befs_spec _ hL l [] (by simp) (by simp) i j1 (.inl rfl) hb2
            rcases h5 with h5 | h5
            · omega
            · rw [hj1f] at h5; cases h5
        obtain ⟨φ, hφ⟩ : ∃ φ, phis[i]? = some φ := ⟨_, List.getElem?_eq_getElem (by omega)⟩
        have hY := ask i o φ ho hip hφ hd
        unfold wpOp
        simp only [List.getElem?_toArray, ho, wanted_iff ha]
        rcases hY with ⟨hw, hv | hc'⟩ | ⟨hw, hv⟩
        · obtain ⟨v, w'', h3, h4, S, h5, h6⟩ := hv
          rw [if_pos hw]
          left
          show Oper.upon P o a _ _ ((execOp a.eval o).run P w')
          have h7 := h3 o.dst o.pos o.after o.guard
          rw [ha.eval]
          rw [h7]
          exact step i o φ v w'' S ho hip hφ h2 hd h4 h5 h6
        · obtain ⟨g, args, h3, h4⟩ := hc'
          rw [if_pos hw]
          left
          show Oper.upon P o a _ _ ((execOp a.eval o).run P w')
          have h6 := h3 o.dst o.pos o.after o.guard
          rw [ha.eval]
          rw [h6]
          refine Calls.mono h4 fun e w'' hh => ?_
          obtain ⟨v, rfl, h7, S, h8, h9⟩ := hh
          exact step i o φ v w'' S ho hip hφ h2 hd h7 h8 h9
        · rw [if_neg (by rw [hw]; simp)]
          exact step i o φ undef w' noB ho hip hφ h2 hd (Ext.refl _) (noS _ _) hv
  refine key _ _ a f { w with drawn := w.drawn + 1 } (by simp) (by simp) ?_ ?_ ha ⟨rfl, rfl, rfl, Nat.le_refl _, fun _ _ => rfl⟩ (fun _ _ => rfl) ⟨fun _ _ => False, fun _ _ h => h.elim, fun _ _ _ h => h.elim, ?_⟩
  · intro i _ hi
    rw [getD_listed (by simpa using hi)]; simp
  · intro k o _ hk
    exfalso
    rw [Array.getD_eq_getD_getElem?, Array.getElem?_replicate] at hk
    split at hk <;> simp at hk
  · intro j d φj hj hk
    exfalso
    rw [Array.getD_eq_getD_getElem?, Array.getElem?_replicate] at hk
    split at hk <;> simp at hk
theorem St.addEmp {w0 w : World} {As : List Ent} (h : St w0 w As) : St w0 w (As ++ [emp]) :=
  h.join (Ext.refl w) (Sep.one (S := fun _ => False) trivial emp_local (fun b hb => hb.elim))
end

/-! ### What may come late, told by bits -/
def lateArr (N p : Nat) (late : List Nat) (bits : List Bool) : Array Bool := ((List.range N).map fun i => if i < p then ((late.zip bits).lookup i).getD true else false).toArray
theorem lookup_late (g : Nat → Bool) (i : Nat) : ∀ late : List Nat, ((late.zip (late.map g)).lookup i) = if inF late i = true then some (g i) else none
  | [] => rfl
  | j :: late => by
    simp only [List.map_cons, List.zip_cons_cons, List.lookup_cons, lookup_late g i late, inF, List.any_cons]
    by_cases h : i = j
    · subst h; simp [Nat.beq_refl]
    · have h1 : (i == j) = false := by simp [h]
      have h2 : Nat.beq i j = false := by
        cases hb : Nat.beq i j with
        | false => rfl
        | true => exact absurd (Nat.eq_of_beq_eq_true hb) h
      simp [h1, h2]
theorem late_cases {listed : Array Bool} {N p : Nat} {late : List Nat} (hs : listed.size = N) (h1 : ∀ i, p ≤ i → i < N → listed.getD i true = false) (h2 : ∀ j, j < p → inF late j = false → listed.getD j false = true) (hp : p ≤ N) :
    listed = lateArr N p late (late.map fun i => listed.getD i false) := by
  apply Array.ext_getElem?
  intro i
  unfold lateArr
  conv => rhs; rw [List.getElem?_toArray, List.getElem?_map]
  by_cases hi : i < N
  · rw [List.getElem?_range hi, Array.getElem?_eq_getElem (by omega)]
    simp only [Option.map_some, Option.some.injEq, lookup_late]
    by_cases hip : i < p
    · rw [if_pos hip]
      cases hl : inF late i with
      | true => simp only [if_true, Option.getD_some]; rw [getD_listed (by omega)]
      | false =>
        have := h2 i hip hl
        rw [getD_listed (by omega)] at this
        rw [this]; rfl
    · rw [if_neg hip]
      have := h1 i (by omega) hi
      rw [getD_listed (by omega)] at this
      exact this
  · rw [Array.getElem?_eq_none (by omega), List.getElem?_eq_none (by simp; omega)]
    rfl
section
variable {P : Program} {n : Nat} {Q : Post} {l : List Oper}
theorem W.drawY {id : Nat} {f : Fr} {w : World} (hm : P.follows .mixedOrders = true) (p : Nat) (late : List Nat) (phis : List Phi) (hok : parOkY l p late = true)
    (hn : (l.take p).all (fun o => match o.dst with | some d => Nat.blt d n | none => false) = true)
    (hst : OkX l 0 (l.take p) phis) (hops : ParX P l p [] f w phis 0 (l.take p) phis)
    (hend : ∀ (bits : List Bool) (f' : Fr) (w' : World) (Ss : Nat → Nat → Prop), bits.length = late.length → Ext w w' → (∀ t, isDst l p t = false → f' t = f t) → (∀ j, NewS w w' (Ss j)) → (∀ i j b, Ss i b → Ss j b → i = j) →
      (∀ (j : Nat) d φj, j < p → (lateArr l.length p late bits).getD j false = true → dstOf l j = some d → phis[j]? = some φj → φj f' (f' d) (Ss j) w') → WA P n l (Q .normal) ((lateArr l.length p late bits).toList.count false) (lateArr l.length p late bits) f' w') :
    W P n (.region id l.toArray true) Q f w := by
  have hp : p ≤ l.length := by simp only [parOkY, Bool.and_eq_true, decide_eq_true_eq] at hok; exact hok.2
  refine W.ofNrm fun a ha => wp_region_any hm (drawY_any p late phis hok hn hst hops (fun listed f' w' Ss hs h1 h2 he hout hS1 hS2 h3 => ?_) a ha)
  have e := late_cases hs h1 h2 hp
  have := hend (late.map fun i => listed.getD i false) f' w' Ss (by simp) he hout hS1 hS2 (fun j d φj hj hl => h3 j d φj hj (by rw [e]; exact hl))
  rw [← e] at this
  exact this

variable {f : Fr} {w w0 : World} {T : TypeId} {As : List Ent} {ops : Array Oper} {rest : List Oper} {pos : String} {after : Array Edge}
/-- An owned slice is cut off behind: it stays owned. -/
theorem WL.cutHi {α : Type} {t : Ty α} {x o : Operand} {st e : TypeId} {zv : Value} {bytes d k : Nat} {v : Value} {xs xs' : List α} {b : Int} {kd : IntKind} (h : St w0 w As) (hk : As[k]? = some (t.sl.at v xs)) (hT : SlE P st e zv bytes) (hx : ev f x = v) (ho : ev f o = .int kd b) (hc : cutL xs 0 b = some xs') (hd : Nat.blt d n = true)
    (kk : ∀ v', St w0 w (As.set k (t.sl.at v' xs')) → WL P n ops Q rest (upd f d v') w) :
    WL P n ops Q (⟨some d, .slice st x none (some o) none, T, pos, after, none⟩ :: rest) f w := by
  obtain ⟨h0, h1, h2, e1⟩ := cutL_some hc
  have e2 : xs' = xs.take b.toNat := by rw [e1]; simp
  obtain ⟨i, hi', hiz, his, hib⟩ := hT.info
  have hel : P.elem st = e := by simp [Program.elem, hT.1]
  have hel' : P.underlying st = some (.slice (P.elem st)) := by rw [hel]; exact hT.1
  have hsz : (sizeOf (P.elem st)).run P w = .ok 1 w := by rw [hel]; simp [sizeOf, typeInfo, hi', his]
  obtain ⟨S0, hA0, _, _⟩ := h.sep.get k hk
  rcases hA0 with ⟨p, hv, hl⟩ | ⟨bb, c, vs, T', Ss, hv, g2, g3, g4, g5, g6, g7, g8, g9⟩
  · have hb0 : b = 0 := by rw [hl] at h2; simp at h2; omega
    have hx0 : xs' = [] := by rw [e2, hl]; simp
    have key : (Instr.slice st (.slice p 0 0) none (some (.int kd b)) none).run P w = .ok (.slice p 0 0) w := by
      rw [run_slice_h w st p 0 0 hel' kd b (by omega) (by omega), hsz, hb0]
      simp [sliced]
    refine WL.val (.slice p 0 0) w (fun _ _ _ _ => ?_) hd (kk _ ?_)
    · have hat : (Instr.sliceAt st (.slice p 0 0) none (some (.int kd b)) none).run P w = (Instr.slice st (.slice p 0 0) none (some (.int kd b)) none).run P w := by
        simp [Instr.sliceAt, run_underlying hT.1]
      simp [execOp, hx, hv, ho, hat, key]
    · rw [hx0]
      exact h.retell hk (Ty.at_local _ _ _) fun S hA => .inl ⟨p, rfl, rfl⟩
  · have hbl : b.toNat ≤ xs.length := by omega
    have key : (Instr.slice st (.slice (some ⟨bb, 0, none⟩) xs.length c) none (some (.int kd b)) none).run P w = .ok (.slice (some ⟨bb, 0, none⟩) b.toNat c) w := by
      rw [run_slice_h w st _ xs.length c hel' kd b (by omega) (by omega), hsz]
      simp [sliced, Addr.add]
    refine WL.val (.slice (some ⟨bb, 0, none⟩) b.toNat c) w (fun _ _ _ _ => ?_) hd (kk _ ?_)
    · have hat : (Instr.sliceAt st (.slice (some ⟨bb, 0, none⟩) xs.length c) none (some (.int kd b)) none).run P w = (Instr.slice st (.slice (some ⟨bb, 0, none⟩) xs.length c) none (some (.int kd b)) none).run P w := by
        simp [Instr.sliceAt, run_underlying hT.1]
      simp [execOp, hx, hv, ho, hat, key]
    · refine h.retell hk (Ty.at_local _ _ _) fun S hA => ?_
      rcases hA with ⟨p, hv2, hl0⟩ | ⟨bb2, c2, vs2, T2, Ss2, hv2, q2, q3, q4, q5, q6, q7, q8, q9⟩
      · rw [hv] at hv2
        simp only [Value.slice.injEq] at hv2
        obtain ⟨_, el, ec⟩ := hv2
        subst ec
        have hb0 : b.toNat = 0 := by omega
        rw [e2, hb0]
        exact .inl ⟨_, rfl, rfl⟩
      · rw [hv] at hv2
        simp only [Value.slice.injEq, Option.some.injEq, Addr.mk.injEq, and_true, true_and] at hv2
        obtain ⟨eb, ec⟩ := hv2
        subst eb
        subst ec
        have hlen : xs'.length = b.toNat := by rw [e2, List.length_take]; omega
        refine .inr ⟨bb, c, vs2, T2, Ss2, by rw [hlen], q2, q3, q4, by omega, q6, q7, q8, fun i y hy => ?_⟩
        rw [e2, List.getElem?_take] at hy
        split at hy
        · exact q9 i y hy
        · cases hy
theorem WA.conv {K : Fr → World → Prop} {c : Nat} {a : Array Bool} {cnt : Nat} {arr : Array Bool} (h1 : c = cnt) (h2 : a = arr) (h : WA P n l K cnt arr f w) : WA P n l K c a f w := by
  subst h1; subst h2; exact h
theorem len2 {bits : List Bool} {x y : Nat} (h : bits.length = [x, y].length) : ∃ a b, bits = [a, b] := by
  match bits, h with
  | [a, b], _ => exact ⟨a, b, rfl⟩
end

/-! ### A region that draws, by one invariant -/
section
variable {P : Program} {n : Nat} {Q : Post} {l : List Oper} {K : Fr → World → Prop}
theorem WAs.of {fuel : Nat} {listed : Array Bool} {f : Fr} {w : World} : ∀ {is : List Nat}, (∀ i ∈ is, ∃ o, l[i]? = some o ∧ WL P n l.toArray (nrm fun f' w' => WA P n l K fuel (listed.setIfInBounds i true) f' w') [o] f w) → WAs P n l K fuel listed f w is
  | [], _ => trivial
  | i :: is, h => ⟨h i (by simp), WAs.of fun j hj => h j (by simp [hj])⟩
theorem drawI (Inv : (Nat → Bool) → Fr → World → Prop) (hE : edgesOk l = true)
    (hstep : ∀ (L : Nat → Bool) (i : Nat) (o : Oper) (f' : Fr) (w' : World), l[i]? = some o → L i = false → (∀ j, depT l i j = true → L j = true) → (∀ k j, depT l k j = true → L k = true → L j = true) → Inv L f' w' → ∀ K' : Fr → World → Prop, (∀ f'' w'', Inv (fun k => Nat.beq k i || L k) f'' w'' → K' f'' w'') → WL P n l.toArray (nrm K') [o] f' w')
    (hend : ∀ L f' w', (∀ j, j < l.length → L j = true) → Inv L f' w' → K f' w') :
    ∀ (fuel : Nat) (listed : Array Bool) (f' : Fr) (w' : World), listed.size = l.length → listed.toList.count false = fuel → Closed l (fun k => listed.getD k false = true) → Inv (fun k => listed.getD k false) f' w' → WA P n l K fuel listed f' w' := by
  intro fuel
  induction fuel with
  | zero =>
    intro listed f' w' hs hc hcl hI
    have hall : ∀ i, (hi : i < listed.size) → listed[i] = true := by
      intro i hi
      cases hx : listed[i] with
      | true => rfl
      | false =>
        exfalso
        have : false ∈ listed.toList := by rw [← hx]; simp
        have := List.count_pos_iff.2 this
        omega
    refine WA.done ?_ (hend _ f' w' (fun j hj => by rw [getD_listed (by omega)]; exact hall j (by omega)) hI)
    cases hr : Region.ready .any l.toArray listed with
    | nil => rfl
    | cons i is =>
      exfalso
      have hi : i ∈ Region.ready .any l.toArray listed := by rw [hr]; simp
      obtain ⟨h1, h2, _⟩ := mem_ready' hi
      rw [getD_listed (by omega), hall i (by omega)] at h2
      cases h2
  | succ fuel ih =>
    intro listed f' w' hs hc hcl hI
    have hex : ∃ j, j < l.length ∧ listed.getD j false = false := by
      have hpos : 0 < listed.toList.count false := by omega
      obtain ⟨j, hj, hjf⟩ := List.getElem_of_mem (List.count_pos_iff.1 hpos)
      refine ⟨j, by simp at hj; omega, ?_⟩
      rw [getD_listed (by simpa using hj)]
      simpa using hjf
    obtain ⟨j0, ⟨hj0, hj0f⟩, hmin⟩ := exists_least hex
    have hready0 : j0 ∈ Region.ready .any l.toArray listed := by
      refine ready_of (List.getElem?_eq_getElem hj0) ?_ fun e he' hb => ?_
      · rw [getD_l (by omega) true false]; exact hj0f
      · have hz := List.all_eq_true.1 hE (l[j0], j0) (by rw [List.mem_zipIdx_iff_getElem?]; simp)
        have h3 := List.all_eq_true.1 hz e he'
        have hlt' : e.on < j0 := by simpa [hb] using h3
        cases hx : listed.getD e.on false with
        | true => rfl
        | false => have := hmin e.on ⟨by omega, hx⟩; omega
    refine WA.all _ rfl (by cases hr : Region.ready .any l.toArray listed with
      | nil => rw [hr] at hready0; cases hready0
      | cons => rfl) (WAs.of fun i hi => ?_)
    obtain ⟨h1, h2, o, ho, hd⟩ := mem_ready' hi
    refine ⟨o, ho, ?_⟩
    have hil : i < l.length := by simpa using h1
    have hL : Closed l (fun k => k = i ∨ listed.getD k false = true) := by
      intro k o' ho' hk e he' hbnd
      rcases hk with rfl | hk
      · rw [ho] at ho'; cases ho'; exact .inr (hd e he' hbnd)
      · exact .inr (hcl k o' ho' hk e he' hbnd)
    have hdep : ∀ j, depT l i j = true → listed.getD j false = true := fun j hj => by
      have hlt0 := befs_lt hE ho hj
      exact (befs_spec _ hL l [] (by simp) (by simp) i j (.inl rfl) hj).resolve_left (by omega)
    have hcl' : ∀ k j, depT l k j = true → listed.getD k false = true → listed.getD j false = true := fun k j hj hk =>
      befs_spec _ hcl l [] (by simp) (by simp) k j hk hj
    have hcs := count_set_true h2
    refine hstep (fun k => listed.getD k false) i o f' w' ho (by show listed.getD i false = false; rw [getD_l (by omega) false true]; exact h2) hdep hcl' hI _ fun f2 w2 h3 => ?_
    refine ih (listed.setIfInBounds i true) f2 w2 (by simpa using hs) (by omega) ?_ ?_
    · intro k o' ho' hk e he' hbnd
      have hk' : k = i ∨ listed.getD k false = true := by
        rw [Array.getD_eq_getD_getElem?, Array.getElem?_setIfInBounds] at hk
        split at hk
        · rename_i e; exact .inl e.symm
        · rw [← Array.getD_eq_getD_getElem?] at hk; exact .inr hk
      have h5 := hL k o' ho' hk' e he' hbnd
      rw [Array.getD_eq_getD_getElem?, Array.getElem?_setIfInBounds]
      rcases h5 with h5 | h5
      · rw [if_pos h5.symm, if_pos (by omega)]; rfl
      · split
        · rw [if_pos (by omega)]; rfl
        · rw [← Array.getD_eq_getD_getElem?]; exact h5
    · have e : (fun k => (listed.setIfInBounds i true).getD k false) = (fun k => Nat.beq k i || listed.getD k false) := funext fun k => by
        rw [Array.getD_eq_getD_getElem?, Array.getElem?_setIfInBounds]
        by_cases hki : i = k
        · subst hki
          rw [if_pos rfl, if_pos (by omega), Nat.beq_refl]; rfl
        · rw [if_neg hki, ← Array.getD_eq_getD_getElem?]
          have : Nat.beq k i = false := by
            cases hb : Nat.beq k i with
            | false => rfl
            | true => exact absurd (Nat.eq_of_beq_eq_true hb).symm hki
          rw [this]; rfl
      rw [e]
      exact h3
theorem W.drawI {id : Nat} {f : Fr} {w : World} (hm : P.follows .mixedOrders = true) (Inv : (Nat → Bool) → Fr → World → Prop) (hE : edgesOk l = true) (h0 : ∀ w', Ext w w' → Inv (fun _ => false) f w')
    (hstep : ∀ (L : Nat → Bool) (i : Nat) (o : Oper) (f' : Fr) (w' : World), l[i]? = some o → L i = false → (∀ j, depT l i j = true → L j = true) → (∀ k j, depT l k j = true → L k = true → L j = true) → Inv L f' w' → ∀ K' : Fr → World → Prop, (∀ f'' w'', Inv (fun k => Nat.beq k i || L k) f'' w'' → K' f'' w'') → WL P n l.toArray (nrm K') [o] f' w')
    (hend : ∀ L f' w', (∀ j, j < l.length → L j = true) → Inv L f' w' → Q .normal f' w') : W P n (.region id l.toArray true) Q f w := by
  refine W.orders hm fun w' he => VG.drawI (K := Q .normal) Inv hE hstep hend l.length (Array.replicate l.length false) f w' (by simp) (by simp) ?_ ?_
  · intro k o _ hk
    exfalso
    rw [Array.getD_eq_getD_getElem?, Array.getElem?_replicate] at hk
    split at hk <;> simp at hk
  · have e : (fun k => (Array.replicate l.length false).getD k false) = fun _ => false := funext fun k => by
      rw [Array.getD_eq_getD_getElem?, Array.getElem?_replicate]
      split <;> rfl
    rw [e]
    exact h0 w' he
end
end Go.VG
