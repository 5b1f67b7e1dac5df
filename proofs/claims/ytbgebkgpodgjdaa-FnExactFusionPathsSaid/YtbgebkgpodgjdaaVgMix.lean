/- Rows whose places are told, and two rows that change places. No condition. -/
import Derived.Test.YtbgebkgpodgjdaaVgCat
set_option linter.all false
namespace Go.VG
open Go.RowKit (Below)

/-- A slice whose cells hold the values told. -/
def Ty.mix {α : Type} (t : Ty α) (us : List Value) : Ty (List α) where
  own := fun S w v l => t.sl.own S w v l ∧ ∀ i, i < l.length → w.cell? (elA v i) = us[i]?
  rep := fun w v l => t.sl.rep w v l ∧ ∀ i, i < l.length → w.cell? (elA v i) = us[i]?
  loc := by
    intro S w w' v l hb h
    refine ⟨t.sl.loc hb h.1, fun i hi => ?_⟩
    rw [← h.2 i hi]
    rcases h.1 with ⟨p, rfl, rfl⟩ | ⟨b, c, vs, T, Ss, rfl, h2, _⟩
    · simp at hi
    · rw [elA_some]; simp [World.cell?, hb b h2]
  mono := fun hs h => ⟨t.sl.mono hs h.1, h.2⟩
  toRep := fun h => ⟨t.sl.toRep h.1, h.2⟩
  ext := by
    intro w w' v l hb h
    refine ⟨t.sl.ext hb h.1, fun i hi => ?_⟩
    obtain ⟨u, hu, _⟩ := repSl.el h.1 (List.getElem?_eq_getElem hi)
    rw [← h.2 i hi]
    exact cell_of_block (hb _ (World.block_lt_of_cell? w _ hu))
  one := fun h => t.sl.one h.1

theorem cutL_lo {α : Type} {l l' : List α} {a b : Int} (h : cutL l a b = some l') : 0 ≤ a := (cutL_some h).1
section
variable {P : Program} {n : Nat} {Q : Post} {f : Fr} {w w0 : World} {T : TypeId} {As : List Ent} {ops : Array Oper} {rest : List Oper} {pos : String} {after : Array Edge}

/-- The same memory told otherwise. -/
theorem St.retell {A A' : Ent} {k : Nat} (h : St w0 w As) (hk : As[k]? = some A) (hL : Local A') (hu : ∀ S, A S w → A' S w) : St w0 w (As.set k A') :=
  h.upd k hk hL rfl rfl rfl (Nat.le_refl _) fun S hA hS => ⟨fun _ _ _ => rfl, S, hu S hA, fun b hb => ⟨.inl hb, (hS b hb).2⟩⟩

/-- A slice's cells are looked up. -/
theorem St.openMix {α : Type} {t : Ty α} {v : Value} {l : List α} {k : Nat} (h : St w0 w As) (hk : As[k]? = some (t.sl.at v l)) : ∃ us : List Value, us.length = l.length ∧ St w0 w (As.set k ((t.mix us).at v l)) := by
  obtain ⟨us, h1, h2⟩ : ∃ us : List Value, us.length = l.length ∧ ∀ i, i < l.length → w.cell? (elA v i) = us[i]? := by
    have hr := h.rep (t := t.sl) k hk
    refine ⟨(List.range l.length).map fun i => (w.cell? (elA v i)).getD undef, by simp, fun i hi => ?_⟩
    obtain ⟨u, hu, _⟩ := repSl.el hr (List.getElem?_eq_getElem hi)
    simp [hi, hu]
  exact ⟨us, h1, h.retell hk (Ty.at_local _ _ _) fun S hA => ⟨hA, h2⟩⟩
theorem St.closeMix {α : Type} {t : Ty α} {us : List Value} {v : Value} {l : List α} {k : Nat} (h : St w0 w As) (hk : As[k]? = some ((t.mix us).at v l)) : St w0 w (As.set k (t.sl.at v l)) :=
  h.retell hk (Ty.at_local _ _ _) fun S hA => hA.1

theorem mix_row {α : Type} {t : Ty α} {us : List Value} {v u : Value} {l : List α} {i : Nat} {x : α} (h : (t.mix us).rep w v l) (hu : us[i]? = some u) (hx : l[i]? = some x) : w.cell? (elA v i) = some u ∧ t.rep w u x := by
  obtain ⟨u', h1, h2⟩ := repSl.el h.1 hx
  have h3 := h.2 i (List.getElem?_eq_some_iff.1 hx).1
  rw [hu, h1] at h3
  cases h3
  exact ⟨h1, h2⟩
theorem mix_at {α : Type} {t : Ty α} {us : List Value} {v u : Value} {l : List α} {i : Nat} {x : α} (h : (t.mix us).rep w v l) (hx : l[i]? = some x) (hc : w.cell? (elA v i) = some u) : us[i]? = some u := by
  rw [← h.2 i (List.getElem?_eq_some_iff.1 hx).1]; exact hc

theorem mix_opq {α : Type} {t : Ty α} {us : List Value} {v : Value} {l : List α} (hl : us.length = l.length) (h : (t.mix us).rep w v l) : Ty.opq.sl.rep w v us ∧ L2 (t.rep w) us l := by
  obtain ⟨p, c, h1, h2, h3, h4, h5⟩ := h.1
  have key : ∀ (i : Nat) (u : Value), us[i]? = some u → ∃ x, l[i]? = some x ∧ w.cell? (elA v i) = some u ∧ t.rep w u x := fun i u hu => by
    have hi : i < l.length := by rw [← hl]; exact (List.getElem?_eq_some_iff.1 hu).1
    have hx := List.getElem?_eq_getElem hi
    have := mix_row h hu hx
    exact ⟨_, hx, this⟩
  refine ⟨⟨p, c, by rw [hl]; exact h1, by rw [hl]; exact h2, h3, fun hne => h4 (fun e => hne (List.eq_nil_of_length_eq_zero (by rw [hl, e]; rfl))), fun i u hu => ?_⟩, L2.of hl fun i u x hu hx => ?_⟩
  · obtain ⟨x, _, g2, g3⟩ := key i u hu
    exact ⟨u, g2, rfl, t.one g3⟩
  · obtain ⟨x', g1, _, g3⟩ := key i u hu
    rw [hx] at g1; cases g1; exact g3
theorem appL_len {α β : Type} {a l l' : List α} {b m : List β} (h1 : b.length = a.length) (h2 : m.length = l.length) (h : appL a l = some l') : appL b m = some (b ++ m) := by
  obtain ⟨g, _⟩ := appL_some h
  unfold appL
  rw [if_pos (by omega)]
theorem more_len {α : Type} {us : List Value} {l l1 : List α} (hl : us.length = l.length) (e1 : appL [] l = some l1) : us.length = l1.length := by
  obtain ⟨_, rfl⟩ := appL_some e1
  exact hl
theorem more_rep {α : Type} {t : Ty α} {us : List Value} {v v' u : Value} {l l1 l2 : List (List α)} {x : List α} (hl : us.length = l.length) (h : (t.sl.mix us).rep w v l) (ho : Ty.opq.sl.rep w v' (us ++ [u])) (hr : t.sl.rep w u x) (e1 : appL [] l = some l1) (e2 : appL l1 [x] = some l2) : t.sl.sl.rep w v' l2 := by
  obtain ⟨_, rfl⟩ := appL_some e1
  obtain ⟨_, rfl⟩ := appL_some e2
  exact vals_rep ho (L2.app (mix_opq hl h).2 (.cons hr .nil))
theorem opq_row {α : Type} {t : Ty α} {u : Value} {x : α} (h : t.rep w u x) : Ty.opq.rep w u u := ⟨rfl, t.one h⟩

/-- An element of a row whose value is told. -/
theorem St.storeMix {α : Type} {t : Ty α} (hf : t.Flat) {a x : Operand} {tt k : Nat} {us : List Value} {v u u1 : Value} {ll : List (List α)} {i j : Nat} {l : List α} {y : α} (h : St w0 w As) (hk : As[k]? = some ((t.sl.mix us).at v ll)) (hsz : (P.info? tt).map (·.size) = some 1)
    (hl : ll[i]? = some l) (hu1 : us[i]? = some u1) (ha : ev f a = .pointer (some (elA u1 j))) (hx : ev f x = u) (hj : j < l.length) (hr : t.rep w u y) :
    ∃ w', OpS P (.store tt a x) T f w w' ∧ St w0 w' (As.set k ((t.sl.mix us).at v (ll.set i (l.set j y)))) := by
  obtain ⟨S, hA, _, hS⟩ := h.sep.get k hk
  obtain ⟨u', Si, hu', hSi, hE, _⟩ := own_focus hA.1 hl
  have hil := (List.getElem?_eq_some_iff.1 hl).1
  rw [hA.2 i hil, hu1] at hu'; cases hu'
  obtain ⟨⟨u0, hc⟩, hfz, _, _⟩ := own_store hf hE hj hr
  refine ⟨_, op_store hsz ha hx (t.one hr) hc hfz, h.upd k hk (Ty.at_local _ _ _) rfl rfl rfl (by rw [setCell_size]; exact Nat.le_refl _) fun S hA hS => ?_⟩
  rcases hA.1 with ⟨p, rfl, rfl⟩ | ⟨b, c, vs, T', Ss, rfl, h2, h3, h4, h5, h6, h7, h8, h9⟩
  · simp at hl
  · obtain ⟨u2, hu2, hE2⟩ := h9 i l hl
    have e1 : u2 = u1 := by
      have := hA.2 i hil
      rw [elA_some, hu1] at this
      simp [World.cell?, h3, hu2] at this
      exact this
    subst e1
    obtain ⟨_, _, hSb, hown⟩ := own_store hf hE2 hj hr
    have hne : b ≠ (elA u2 j).block := fun e => (h7 i _ hSb).2 e.symm
    have hb' : (w.setCell (elA u2 j) u).heap[b]? = some (.cells vs T' (0, 0)) := by rw [Below.heap_setCell _ _ _ _ hne]; exact h3
    refine ⟨fun b' hb' hn => Below.heap_setCell _ _ _ _ (fun e => hn (e ▸ (h7 i _ hSb).1)), S, ⟨.inr ⟨b, c, vs, T', Ss, by rw [List.length_set], h2, hb', h4, by rw [List.length_set]; exact h5, h6, h7, h8, fun m y' hy' => ?_⟩, fun m hm => ?_⟩, fun b' hb' => ⟨.inl hb', by rw [setCell_size]; exact (hS b' hb').2⟩⟩
    · rw [List.getElem?_set] at hy'
      by_cases him : i = m
      · subst him
        simp [hil] at hy'
        subst hy'
        exact ⟨u2, hu2, hown⟩
      · rw [if_neg him] at hy'
        obtain ⟨u', hu', hE'⟩ := h9 m y' hy'
        exact ⟨u', hu', t.sl.loc (fun b' hb' => Below.heap_setCell _ _ _ _ (fun e => him (h8 i m b' (e ▸ hSb) hb'))) hE'⟩
    · rw [List.length_set] at hm
      have := hA.2 m hm
      rw [elA_some] at this ⊢
      rw [← this]
      simp only [World.cell?, hb', h3]
theorem WL.storeMix {α : Type} {t : Ty α} (hf : t.Flat) {a x : Operand} {tt k : Nat} {us : List Value} {v u u1 : Value} {ll : List (List α)} {i j : Int} {l : List α} {y : α} (h : St w0 w As) (hk : As[k]? = some ((t.sl.mix us).at v ll)) (hsz : (P.info? tt).map (·.size) = some 1)
    (hl : ll[i.toNat]? = some l) (hu1 : us[i.toNat]? = some u1) (ha : ev f a = .pointer (some (elA u1 j.toNat))) (hx : ev f x = u) (hj : j.toNat < l.length) (hr : t.rep w u y)
    (kk : ∀ w', St w0 w' (As.set k ((t.sl.mix us).at v (ll.set i.toNat (l.set j.toNat y)))) → WL P n ops Q rest f w') :
    WL P n ops Q (⟨none, .store tt a x, T, pos, after, none⟩ :: rest) f w := by
  obtain ⟨w', ho, hS⟩ := St.storeMix (T := T) hf h hk hsz hl hu1 ha hx hj hr
  exact WL.skp w' ho (kk w' hS)

/-! ### Two rows change places -/

/-- The first place has been written. -/
def halfAt {α : Type} (t : Ty α) (v : Value) (l : List α) (i j : Nat) (ui uj : Value) : Ent := fun S w =>
  ∃ (b c : Nat) (vs : Array Value) (T : TypeId) (Ss : Nat → Nat → Prop), v = .slice (some ⟨b, 0, none⟩) l.length c ∧ S b ∧ w.heap[b]? = some (.cells (vs.setIfInBounds i uj) T (0, 0)) ∧ vs.size = c ∧ l.length ≤ c ∧ c ≤ maxLen ∧
    (∀ i b', Ss i b' → S b' ∧ b' ≠ b) ∧ (∀ i j b', Ss i b' → Ss j b' → i = j) ∧ vs[i]? = some ui ∧ vs[j]? = some uj ∧ ∀ i x, l[i]? = some x → ∃ u, vs[i]? = some u ∧ t.own (Ss i) w u x
theorem halfAt_local {α : Type} (t : Ty α) (v : Value) (l : List α) (i j : Nat) (ui uj : Value) : Local (halfAt t v l i j ui uj) := by
  refine ⟨fun S w w' h ⟨b, c, vs, T, Ss, h1, h2, h3, h4, h5, h6, h7, h8, h9, h10, h11⟩ => ⟨b, c, vs, T, Ss, h1, h2, (h b h2).trans h3, h4, h5, h6, h7, h8, h9, h10, fun m x hx => ?_⟩,
    fun S S' w h ⟨b, c, vs, T, Ss, h1, h2, h3, h4, h5, h6, h7, h8, h9, h10, h11⟩ => ⟨b, c, vs, T, Ss, h1, h b h2, h3, h4, h5, h6, fun i b' hb => ⟨h b' (h7 i b' hb).1, (h7 i b' hb).2⟩, h8, h9, h10, h11⟩⟩
  obtain ⟨u', hu, ho⟩ := h11 m x hx
  exact ⟨u', hu, t.loc (fun b' hb' => h b' (h7 m b' hb').1) ho⟩

theorem setCell_heap {b i : Nat} {vs : Array Value} {T' : TypeId} {u : Value} (h3 : w.heap[b]? = some (.cells vs T' (0, 0))) : (w.setCell ⟨b, i, none⟩ u).heap[b]? = some (.cells (vs.setIfInBounds i u) T' (0, 0)) := by
  simp [World.setCell, Array.getElem?_modify, h3]

theorem WL.swap1 {α : Type} {t : Ty α} {a x : Operand} {tt k : Nat} {v ui uj : Value} {l : List α} {i j : Int} {xi xj : α} (h : St w0 w As) (hk : As[k]? = some (t.sl.at v l)) (hsz : (P.info? tt).map (·.size) = some 1)
    (hi : l[i.toNat]? = some xi) (hj : l[j.toNat]? = some xj) (ci : w.cell? (elA v i.toNat) = some ui) (cj : w.cell? (elA v j.toNat) = some uj) (ha : ev f a = .pointer (some (elA v i.toNat))) (hx : ev f x = uj)
    (kk : ∀ w', St w0 w' (As.set k (halfAt t v l i.toNat j.toNat ui uj)) → WL P n ops Q rest f w') :
    WL P n ops Q (⟨none, .store tt a x, T, pos, after, none⟩ :: rest) f w := by
  generalize i.toNat = i at *
  generalize j.toNat = j at *
  have hr := h.rep (t := t.sl) k hk
  obtain ⟨uj', hcj, hrj⟩ := repSl.el hr hj
  rw [cj] at hcj; cases hcj
  have hfz : w.frozen? (elA v i) = false := by
    obtain ⟨S, hA, _, hS⟩ := h.sep.get k hk
    rcases hA with ⟨p, rfl, rfl⟩ | ⟨b, c, vs, T', Ss, rfl, h2, h3, h4, h5, h6, h7, h8, h9⟩
    · simp at hi
    · rw [elA_some]; simp [World.frozen?, h3]
  refine WL.skp _ (op_store (T := T) hsz ha hx (t.one hrj) ci hfz) (kk _ (h.upd k hk (halfAt_local _ _ _ _ _ _ _) rfl rfl rfl (by rw [setCell_size]; exact Nat.le_refl _) fun S hA hS => ?_))
  rcases hA with ⟨p, rfl, rfl⟩ | ⟨b, c, vs, T', Ss, rfl, h2, h3, h4, h5, h6, h7, h8, h9⟩
  · simp at hi
  · rw [elA_some] at ci cj ⊢
    refine ⟨fun b' hb' hn => Below.heap_setCell _ _ _ _ (fun e => hn (e ▸ h2)), S, ⟨b, c, vs, T', Ss, rfl, h2, setCell_heap h3, h4, h5, h6, h7, h8, by simpa [World.cell?, h3] using ci, by simpa [World.cell?, h3] using cj, fun m y hy => ?_⟩, fun b' hb' => ⟨.inl hb', by rw [setCell_size]; exact (hS b' hb').2⟩⟩
    obtain ⟨u, hu, hE⟩ := h9 m y hy
    exact ⟨u, hu, t.loc (fun b' hb' => Below.heap_setCell _ _ _ _ (fun e => (h7 m b' hb').2 e)) hE⟩
theorem WL.swap2 {α : Type} {t : Ty α} {a x : Operand} {tt k : Nat} {v ui uj : Value} {l : List α} {i j : Int} {xi xj : α} (h : St w0 w As) (hk : As[k]? = some (halfAt t v l i.toNat j.toNat ui uj)) (hsz : (P.info? tt).map (·.size) = some 1)
    (hi : l[i.toNat]? = some xi) (hj : l[j.toNat]? = some xj) (ha : ev f a = .pointer (some (elA v j.toNat))) (hx : ev f x = ui)
    (kk : ∀ w', St w0 w' (As.set k (t.sl.at v ((l.set i.toNat xj).set j.toNat xi))) → WL P n ops Q rest f w') :
    WL P n ops Q (⟨none, .store tt a x, T, pos, after, none⟩ :: rest) f w := by
  generalize i.toNat = i at *
  generalize j.toNat = j at *
  have hil := (List.getElem?_eq_some_iff.1 hi).1
  have hjl := (List.getElem?_eq_some_iff.1 hj).1
  obtain ⟨hone, ⟨u0, hc⟩, hfz⟩ : ui.oneCell' = true ∧ (∃ u0, w.cell? (elA v j) = some u0) ∧ w.frozen? (elA v j) = false := by
    obtain ⟨S, hA, _, hS⟩ := h.sep.get k hk
    obtain ⟨b, c, vs, T', Ss, rfl, h2, h3, h4, h5, h6, h7, h8, h9, h10, h11⟩ := hA
    obtain ⟨u, hu, hE⟩ := h11 i xi hi
    rw [h9] at hu; cases hu
    have hjs : j < (vs.setIfInBounds i uj).size := by simp; omega
    rw [elA_some]
    exact ⟨t.one (t.toRep hE), ⟨(vs.setIfInBounds i uj)[j], by simp only [World.cell?, h3]; simp [hjs]⟩, by simp [World.frozen?, h3]⟩
  refine WL.skp _ (op_store (T := T) hsz ha hx hone hc hfz) (kk _ (h.upd k hk (Ty.at_local _ _ _) rfl rfl rfl (by rw [setCell_size]; exact Nat.le_refl _) fun S hA hS => ?_))
  obtain ⟨b, c, vs, T', Ss, rfl, h2, h3, h4, h5, h6, h7, h8, h9, h10, h11⟩ := hA
  rw [elA_some]
  refine ⟨fun b' hb' hn => Below.heap_setCell _ _ _ _ (fun e => hn (e ▸ h2)), S, .inr ⟨b, c, (vs.setIfInBounds i uj).setIfInBounds j ui, T', fun m => Ss (if m = j then i else if m = i then j else m), by simp, h2, setCell_heap h3, by simpa using h4, by simpa using h5, h6, fun m b' hb' => h7 _ b' hb', fun m m' b' hb hb' => ?_, fun m y hy => ?_⟩, fun b' hb' => ⟨.inl hb', by rw [setCell_size]; exact (hS b' hb').2⟩⟩
  · have := h8 _ _ b' hb hb'
    split at this <;> split at this <;> (try split at this) <;> (try split at this) <;> omega
  · have key : ∀ (m' : Nat) (z : α) (um : Value), l[m']? = some z → vs[m']? = some um → t.own (Ss m') (w.setCell ⟨b, j, none⟩ ui) um z := fun m' z um hz hum => by
      obtain ⟨u, hu, hE⟩ := h11 m' z hz
      rw [hum] at hu; cases hu
      exact t.loc (fun b' hb' => Below.heap_setCell _ _ _ _ (fun e => (h7 m' b' hb').2 e)) hE
    rw [List.getElem?_set] at hy
    have hjv : j < vs.size := by omega
    have hiv : i < vs.size := by omega
    by_cases e1 : j = m
    · subst e1
      rw [if_pos rfl, if_pos (by simpa using hjl)] at hy
      cases hy
      refine ⟨ui, by simp [hjv], ?_⟩
      simp only [if_true]
      exact key i _ _ hi h9
    · rw [if_neg e1, List.getElem?_set] at hy
      by_cases e2 : i = m
      · subst e2
        rw [if_pos rfl, if_pos hil] at hy
        cases hy
        refine ⟨uj, by simp [Array.getElem?_setIfInBounds, e1, hiv], ?_⟩
        simp only [if_neg (Ne.symm e1), if_true]
        exact key j _ _ hj h10
      · rw [if_neg e2] at hy
        obtain ⟨u, hu, hE⟩ := h11 m y hy
        refine ⟨u, by simp [Array.getElem?_setIfInBounds, e1, e2, hu], ?_⟩
        simp only [if_neg (Ne.symm e1), if_neg (Ne.symm e2)]
        exact key m _ _ hy hu

theorem op_idxHalf {α : Type} {t : Ty α} {x o : Operand} {st e : TypeId} {z : Value} {by_ k : Nat} {v ui uj : Value} {l : List α} {kd : IntKind} {i j : Int} (h : St w0 w As) (hk : As[k]? = some (halfAt t v l i.toNat j.toNat ui uj)) (ht : SlE P st e z by_) (hx : ev f x = v) (hi : ev f o = .int kd j) (h0 : 0 ≤ j) (h1 : j < l.length) :
    OpV P (.indexAddr st x o) T f w (.pointer (some (elA v j.toNat))) w := by
  obtain ⟨S, hA, _, _⟩ := h.sep.get k hk
  obtain ⟨b, c, vs, T', Ss, rfl, _⟩ := hA
  exact op_indexAddr ht hx rfl (fun _ => by simp) hi h0 h1

/-! ### The rest of a slice from a place on: its value and its window -/
theorem WL.sliceW {α : Type} {t : Ty α} {v : Value} {l l' : List α} {x o : Operand} {st e : TypeId} {zv : Value} {bytes d : Nat} {a : Int} {kd : IntKind} (hT : SlE P st e zv bytes) (hx : ev f x = v) (h : t.sl.rep w v l)
    (hlo : ev f o = .int kd a) (hc : cutL l a l.length = some l') (hd : Nat.blt d n = true)
    (k : ∀ v', t.sl.rep w v' l' → Win v l.length a.toNat v' → WL P n ops Q rest (upd f d v') w) :
    WL P n ops Q (⟨some d, .slice st x (some o) none none, T, pos, after, none⟩ :: rest) f w := by
  obtain ⟨h0, h1, h2, rfl⟩ := cutL_some hc
  obtain ⟨u, ho, hw⟩ := op_sliceWin (P := P) (f := f) (w := w) (T := T) hT hx h hlo h0 h1
  have hc' := hc
  obtain ⟨v', ho', hr⟩ := op_slice (P := P) (f := f) (w := w) (T := T) (lo := some o) (hi := none) (kd := kd) hT hx h hlo rfl h0 h1 h2
  have e : u = v' := by
    have e1 := ho w none pos after none
    have e2 := ho' none pos after none
    rw [e1] at e2
    injection e2 with e3 e4
    first | exact e3 | simpa using e3
  subst e
  exact WL.val u w ho' hd (k u hr hw)
theorem op_idxWin {α : Type} {t : Ty α} {x i : Operand} {st e : TypeId} {z : Value} {by_ k : Nat} {us : List Value} {v u : Value} {l : List α} {kd : IntKind} {a j : Int} {L : Nat} (h : St w0 w As) (hk : As[k]? = some ((t.mix us).at v l)) (ht : SlE P st e z by_) (hw : Win v L a.toNat u) (hx : ev f x = u) (hi : ev f i = .int kd j) (ha : 0 ≤ a) (h0 : 0 ≤ j) (h1 : a + j < l.length) :
    OpV P (.indexAddr st x i) T f w (.pointer (some (elA v (a + j).toNat))) w := by
  obtain ⟨S, hA, _, _⟩ := h.sep.get k hk
  rcases hA.1 with ⟨p, rfl, rfl⟩ | ⟨b, c, vs, T', Ss, rfl, h2, h3, h4, h5, _⟩
  · exfalso; simp at h1; omega
  · obtain ⟨p, c', e1, rfl⟩ := hw
    have e1' := e1
    simp only [Value.slice.injEq] at e1
    obtain ⟨e0, e1, e2⟩ := e1
    subst e0
    subst e2
    subst e1
    have hca : ¬ c = a.toNat := by omega
    rw [if_neg hca] at hx
    have hm : (some (⟨b, 0, none⟩ : Addr)).map (·.add (a.toNat * 1)) = some ⟨b, a.toNat, none⟩ := by
      simp only [Option.map_some]; rw [addr_off]
    rw [hm] at hx
    have := op_indexAddr (P := P) (f := f) (w := w) (T := T) (i := i) ht hx rfl (fun _ => by simp) hi h0 (by omega)
    have e3 : elA (.slice (some (⟨b, a.toNat, none⟩ : Addr)) (l.length - a.toNat) (c - a.toNat)) j.toNat = elA (.slice (some (⟨b, 0, none⟩ : Addr)) l.length c) (a + j).toNat := by
      rw [elA_some]
      simp only [elA]
      rw [addr_off']
      have : a.toNat + j.toNat = (a + j).toNat := by omega
      rw [this]
    rw [← e3]
    exact this
end
end Go.VG
