/- Stores into the call's own slices, at one, two, three levels; rows moved into slices of rows. No condition. -/
import Derived.Test.YtjjjljlobfpbnaaVgMem
set_option linter.all false
namespace Go.VG
open Go.RowKit (Below)

section
variable {P : Program} {n : Nat} {f : Fr} {w w0 : World} {T : TypeId} {As : List Ent}

theorem elA_some (b i m c : Nat) : elA (.slice (some ⟨b, 0, none⟩) m c) i = ⟨b, i, none⟩ := by
  simp only [elA, Addr.add]; split <;> simp_all

/-- One element of an owned slice, and how the slice is put together again. -/
theorem own_focus {α : Type} {t : Ty α} {S : Nat → Prop} {v : Value} {l : List α} {i : Nat} {x : α} (h : t.sl.own S w v l) (hx : l[i]? = some x) :
    ∃ u Si, w.cell? (elA v i) = some u ∧ (∀ b, Si b → S b) ∧ t.own Si w u x ∧
      ∀ w' x', (∀ b, S b → ¬ Si b → w'.heap[b]? = w.heap[b]?) → t.own Si w' u x' → t.sl.own S w' v (l.set i x') := by
  rcases h with ⟨p, rfl, rfl⟩ | ⟨b, c, vs, T', Ss, rfl, h2, h3, h4, h5, h6, h7, h8, h9⟩
  · simp at hx
  · obtain ⟨u, hu, hE⟩ := h9 i x hx
    refine ⟨u, Ss i, ?_, fun b' hb' => (h7 i b' hb').1, hE, fun w' x' hsame hE' => ?_⟩
    · rw [elA_some]; simp [World.cell?, h3, hu]
    · refine .inr ⟨b, c, vs, T', Ss, by rw [List.length_set], h2, ?_, h4, by rw [List.length_set]; exact h5, h6, h7, h8, fun j y hy => ?_⟩
      · rw [hsame b h2 (fun hc => (h7 i b hc).2 rfl)]; exact h3
      · rw [List.getElem?_set] at hy
        split at hy
        · rename_i hij; subst hij
          split at hy
          · cases hy; exact ⟨u, hu, hE'⟩
          · cases hy
        · rename_i hij
          obtain ⟨u', hu', hE2⟩ := h9 j y hy
          exact ⟨u', hu', t.loc (fun b' hb' => hsame b' (h7 j b' hb').1 (fun hc => hij (h8 _ _ b' hc hb'))) hE2⟩

/-- A cell of an owned slice is written. -/
theorem own_store {α : Type} {t : Ty α} (hf : t.Flat) {S : Nat → Prop} {v u : Value} {l : List α} {i : Nat} {x : α} (h : t.sl.own S w v l) (hi : i < l.length) (hr : t.rep w u x) :
    (∃ u0, w.cell? (elA v i) = some u0) ∧ w.frozen? (elA v i) = false ∧ S (elA v i).block ∧ t.sl.own S (w.setCell (elA v i) u) v (l.set i x) := by
  rcases h with ⟨p, rfl, rfl⟩ | ⟨b, c, vs, T', Ss, rfl, h2, h3, h4, h5, h6, h7, h8, h9⟩
  · simp at hi
  · rw [elA_some]
    have hiv : i < vs.size := by omega
    have hheap : (w.setCell ⟨b, i, none⟩ u).heap[b]? = some (.cells (vs.setIfInBounds i u) T' (0, 0)) := by
      simp [World.setCell, Array.getElem?_modify, h3]
    refine ⟨⟨vs[i], by simp [World.cell?, h3, hiv]⟩, by simp [World.frozen?, h3], h2, .inr ⟨b, c, vs.setIfInBounds i u, T', Ss, by rw [List.length_set], h2, hheap, by simpa using h4, by rw [List.length_set]; exact h5, h6, h7, h8, fun j y hy => ?_⟩⟩
    rw [List.getElem?_set] at hy
    split at hy
    · rename_i hij; subst hij
      cases hy
      refine ⟨u, by simp [hiv], hf _ _ _ _ ?_⟩
      have hflat := hf (fun _ => False) w u x hr
      exact t.toRep (t.loc (S := fun _ => False) (fun _ h => h.elim) hflat)
    · rename_i hij
      obtain ⟨u', hu', hE2⟩ := h9 j y hy
      refine ⟨u', by rw [Array.getElem?_setIfInBounds_ne (by omega)]; exact hu', t.loc (fun b' hb' => ?_) hE2⟩
      exact Below.heap_setCell w _ u b' (h7 j b' hb').2

theorem op_store {a x : Operand} {t : TypeId} {p : Addr} {u u0 : Value} (hsz : (P.info? t).map (·.size) = some 1) (ha : ev f a = .pointer (some p)) (hx : ev f x = u) (hone : u.oneCell' = true) (hc : w.cell? p = some u0) (hfz : w.frozen? p = false) :
    OpS P (.store t a x) T f w (w.setCell p u) := fun _ _ _ _ => by
  cases hi : P.info? t with
  | none => simp [hi] at hsz
  | some i =>
    have hs : i.size = 1 := by simpa [hi] using hsz
    have hcs := oneCell_of hone
    have hadd : p.add 0 = p := by simp [Addr.add]
    simp [execOp, Instr.storeAt, ha, hx, Instr.sureAddr, storeVar, sizeOf, typeInfo, hi, hs, hcs, storeCells, hadd, run_store P w p u _ hone, hc, hfz]

theorem setCell_size (w : World) (a : Addr) (u : Value) : (w.setCell a u).heap.size = w.heap.size := by simp [World.setCell]

/-- A cell of an owned slice at the first level. -/
theorem St.storeEl {α : Type} {t : Ty α} (hf : t.Flat) {a x : Operand} {tt k : Nat} {v u : Value} {l : List α} {i : Nat} {y : α} (h : St w0 w As) (hk : As[k]? = some (t.sl.at v l)) (hsz : (P.info? tt).map (·.size) = some 1)
    (ha : ev f a = .pointer (some (elA v i))) (hx : ev f x = u) (hi : i < l.length) (hr : t.rep w u y) :
    ∃ w', OpS P (.store tt a x) T f w w' ∧ St w0 w' (As.set k (t.sl.at v (l.set i y))) ∧ w'.heap.size = w.heap.size := by
  obtain ⟨S, hA, _, hS⟩ := h.sep.get k hk
  obtain ⟨⟨u0, hc⟩, hfz, _, _⟩ := own_store hf hA hi hr
  refine ⟨_, op_store hsz ha hx (t.one hr) hc hfz, h.upd k hk (Ty.at_local _ _ _) rfl rfl rfl (by rw [setCell_size]; exact Nat.le_refl _) fun S hA hS => ?_, setCell_size _ _ _⟩
  obtain ⟨_, _, hSb, hown⟩ := own_store hf hA hi hr
  exact ⟨fun b hb hn => Below.heap_setCell _ _ _ _ (fun e => hn (e ▸ hSb)), S, hown, fun b hb => ⟨.inl hb, by rw [setCell_size]; exact (hS b hb).2⟩⟩

/-- .. at the second level: u1 is the row's value, as it was read. -/
theorem St.storeEl2 {α : Type} {t : Ty α} (hf : t.Flat) {a x : Operand} {tt k : Nat} {v u u1 : Value} {ll : List (List α)} {i j : Nat} {l : List α} {y : α} (h : St w0 w As) (hk : As[k]? = some (t.sl.sl.at v ll)) (hsz : (P.info? tt).map (·.size) = some 1)
    (hl : ll[i]? = some l) (hu1 : w.cell? (elA v i) = some u1) (ha : ev f a = .pointer (some (elA u1 j))) (hx : ev f x = u) (hj : j < l.length) (hr : t.rep w u y) :
    ∃ w', OpS P (.store tt a x) T f w w' ∧ St w0 w' (As.set k (t.sl.sl.at v (ll.set i (l.set j y)))) ∧ w'.heap.size = w.heap.size := by
  obtain ⟨S, hA, _, hS⟩ := h.sep.get k hk
  obtain ⟨u', Si, hu', hSi, hE, _⟩ := own_focus hA hl
  rw [hu1] at hu'; cases hu'
  obtain ⟨⟨u0, hc⟩, hfz, _, _⟩ := own_store hf hE hj hr
  refine ⟨_, op_store hsz ha hx (t.one hr) hc hfz, h.upd k hk (Ty.at_local _ _ _) rfl rfl rfl (by rw [setCell_size]; exact Nat.le_refl _) fun S hA hS => ?_, setCell_size _ _ _⟩
  obtain ⟨u', Si, hu', hSi, hE, hback⟩ := own_focus hA hl
  rw [hu1] at hu'; cases hu'
  obtain ⟨_, _, hSb, hown⟩ := own_store hf hE hj hr
  exact ⟨fun b hb hn => Below.heap_setCell _ _ _ _ (fun e => hn (hSi _ (e ▸ hSb))), S,
    hback _ _ (fun b hb hn => Below.heap_setCell _ _ _ _ (fun e => hn (e ▸ hSb))) hown, fun b hb => ⟨.inl hb, by rw [setCell_size]; exact (hS b hb).2⟩⟩

/-- .. at the third level. -/
theorem St.storeEl3 {α : Type} {t : Ty α} (hf : t.Flat) {a x : Operand} {tt k : Nat} {v u u1 u2 : Value} {lll : List (List (List α))} {i j m : Nat} {ll : List (List α)} {l : List α} {y : α} (h : St w0 w As) (hk : As[k]? = some (t.sl.sl.sl.at v lll)) (hsz : (P.info? tt).map (·.size) = some 1)
    (hll : lll[i]? = some ll) (hl : ll[j]? = some l) (hu1 : w.cell? (elA v i) = some u1) (hu2 : w.cell? (elA u1 j) = some u2) (ha : ev f a = .pointer (some (elA u2 m))) (hx : ev f x = u) (hm : m < l.length) (hr : t.rep w u y) :
    ∃ w', OpS P (.store tt a x) T f w w' ∧ St w0 w' (As.set k (t.sl.sl.sl.at v (lll.set i (ll.set j (l.set m y))))) ∧ w'.heap.size = w.heap.size := by
  obtain ⟨S, hA, _, hS⟩ := h.sep.get k hk
  obtain ⟨u', Si, hu', hSi, hE, _⟩ := own_focus hA hll
  rw [hu1] at hu'; cases hu'
  obtain ⟨u', Sj, hu', hSj, hE2, _⟩ := own_focus hE hl
  rw [hu2] at hu'; cases hu'
  obtain ⟨⟨u0, hc⟩, hfz, _, _⟩ := own_store hf hE2 hm hr
  refine ⟨_, op_store hsz ha hx (t.one hr) hc hfz, h.upd k hk (Ty.at_local _ _ _) rfl rfl rfl (by rw [setCell_size]; exact Nat.le_refl _) fun S hA hS => ?_, setCell_size _ _ _⟩
  obtain ⟨u', Si, hu', hSi, hE, hback⟩ := own_focus hA hll
  rw [hu1] at hu'; cases hu'
  obtain ⟨u', Sj, hu', hSj, hE2, hback2⟩ := own_focus hE hl
  rw [hu2] at hu'; cases hu'
  obtain ⟨_, _, hSb, hown⟩ := own_store hf hE2 hm hr
  exact ⟨fun b hb hn => Below.heap_setCell _ _ _ _ (fun e => hn (hSi _ (hSj _ (e ▸ hSb)))), S,
    hback _ _ (fun b hb hn => Below.heap_setCell _ _ _ _ (fun e => hn (hSj _ (e ▸ hSb)))) (hback2 _ _ (fun b hb hn => Below.heap_setCell _ _ _ _ (fun e => hn (e ▸ hSb))) hown), fun b hb => ⟨.inl hb, by rw [setCell_size]; exact (hS b hb).2⟩⟩

/-- append of one row of the call's own: 's' and the literal's block 'b2' that holds the row's value. -/
theorem St.appendRow {α : Type} {t : Ty α} {s x : Operand} {st e : TypeId} {zv : Value} {bytes k k2 k3 b2 : Nat} {v u : Value} {l : List α} {y : α} (h : St w0 w As) (hne : k ≠ k2) (hk : As[k]? = some (t.sl.at v l)) (hk2 : As[k2]? = some (t.at u y)) (hk3 : As[k3]? = some (bx b2 [u]))
    (hT : SlE P st e zv bytes) (hzc : zv.cells = #[zv]) (hby : bytes ≤ 64) (hs : ev f s = v) (hx : ev f x = .slice (some ⟨b2, 0, none⟩) 1 1) (hm : l.length + 1 ≤ 1099511627776) :
    ∃ v' w', OpV P (.call { callee := .builtin .append, args := #[s, x], argTypes := #[st, st] }) T f w v' w' ∧ St w0 w' ((As.set k2 emp).set k (t.sl.at v' (l ++ [y]))) ∧ w.heap.size ≤ w'.heap.size := by
  have hr : t.rep w u y := h.rep k2 hk2
  obtain ⟨T3, hb3⟩ := h.box k3 hk3
  refine h.mergeE (A' := fun v' => t.sl.at v' (l ++ [y])) k k2 hne hk hk2 (fun v => Ty.at_local _ _ _) fun S S2 hA hA2 hdis hS hS2 => ?_
  obtain ⟨olds, ob, hol, hparts, hown, Ss, hSs, hinj, hels⟩ := own_parts hA
  have hnews' : ∀ (j : Nat) u', [u][j]? = some u' → w.cell? (elA (.slice (some ⟨b2, 0, none⟩) [u].length 1) j) = some u' := by
    intro j u' hu
    rw [elA_some]
    exact cell_in hb3 hu
  obtain ⟨v', w', hrun, hos, htape, hout, hsz, hsame, hres⟩ := run_app (w := w) (ty := T) hT hzc hby v ob l.length olds [u] (some ⟨b2, 0, none⟩) 1 hparts hol (fun _ => by simp) hnews' (by simpa using t.one hr) (by simpa using hm)
  have hsame' : ∀ b, b < w.heap.size → ¬ S b → w'.heap[b]? = w.heap[b]? := fun b hb hn => hsame b hb (fun e => hn (hown b e))
  refine ⟨v', w', fun _ _ _ _ => ?_, hos, htape, hout, hsz, hsame', fun b => S b ∨ S2 b ∨ (w.heap.size ≤ b ∧ b < w'.heap.size), ?_, fun b hb => ?_⟩
  · simp only [List.length_cons, List.length_nil, Nat.zero_add] at hrun
    simp [execOp, resolve, invoke, builtin, hs, hx, hrun]
  · rcases hres with ⟨p, rfl, h0⟩ | ⟨b, c, vs, T', rfl, hbb, hbl, hheap, hvs, hlc, hcm, hcells⟩
    · simp at h0
    · right
      have hlen : (l ++ [y]).length = l.length + [u].length := by simp
      refine ⟨b, c, vs, T', fun i b' => (i < l.length ∧ Ss i b') ∨ (i = l.length ∧ S2 b'), by rw [hlen], ?_, hheap, hvs, by rw [hlen]; exact hlc, hcm, ?_, ?_, ?_⟩
      · rcases hbb with h' | h'
        · exact .inl (hown b h')
        · exact .inr (.inr ⟨h', hbl⟩)
      · rintro i b' (⟨hi, hb'⟩ | ⟨hi, hb'⟩)
        · refine ⟨.inl (hSs i b' hb').1, fun e => ?_⟩
          subst e
          rcases hbb with h' | h'
          · exact (hSs i b' hb').2 h'
          · have := hS b' (hSs i b' hb').1; omega
        · refine ⟨.inr (.inl hb'), fun e => ?_⟩
          subst e
          rcases hbb with h' | h'
          · exact hdis b' (hown b' h') hb'
          · have := hS2 b' hb'; omega
      · rintro i j b' (⟨h1, h2⟩ | ⟨h1, h2⟩) (⟨h3, h4⟩ | ⟨h3, h4⟩)
        · exact hinj i j b' h2 h4
        · exact (hdis b' (hSs i b' h2).1 h4).elim
        · exact (hdis b' (hSs j b' h4).1 h2).elim
        · omega
      · intro i x hx
        have hil : i < l.length + [u].length := by rw [← hlen]; exact (List.getElem?_eq_some_iff.1 hx).1
        rw [hcells i hil]
        rw [List.getElem?_append] at hx
        by_cases hi : i < l.length
        · rw [if_pos hi] at hx
          obtain ⟨u', hu, hE⟩ := hels i x hx
          refine ⟨u', by rw [List.getElem?_append_left (by omega)]; exact hu, ?_⟩
          refine t.mono (S := Ss i) (fun b' hb' => .inl ⟨hi, hb'⟩) ?_
          exact t.loc (fun b' hb' => hsame b' (hS b' (hSs i b' hb').1) (hSs i b' hb').2) hE
        · rw [if_neg hi] at hx
          have hie : i = l.length := by simp at hil; omega
          subst hie
          simp at hx
          subst hx
          refine ⟨u, by rw [List.getElem?_append_right (by omega), hol]; simp, ?_⟩
          refine t.mono (S := S2) (fun b' hb' => .inr ⟨rfl, hb'⟩) ?_
          exact t.loc (fun b' hb' => hsame' b' (hS2 b' hb') (fun hc => hdis b' hc hb')) hA2
  · rcases hb with hb | hb | hb
    · exact ⟨.inl hb, by have := hS b hb; omega⟩
    · exact ⟨.inr (.inl hb), by have := hS2 b hb; omega⟩
    · exact ⟨.inr (.inr hb.1), hb.2⟩

/-! ### Slices of slices -/

theorem rep_slice {α : Type} {t : Ty α} {v : Value} {l : List α} (h : t.sl.rep w v l) {lo hi : Nat} (h1 : lo ≤ hi) (h2 : hi ≤ l.length) : ∃ p c, v = .slice p l.length c ∧ l.length ≤ c ∧
    t.sl.rep w (.slice (if c = lo then p else p.map (·.add (lo * 1))) (hi - lo) (c - lo)) ((l.take hi).drop lo) := by
  obtain ⟨p, c, hv, hlc, hcm, hp, hel⟩ := h
  refine ⟨p, c, hv, hlc, ?_⟩
  have hlen : ((l.take hi).drop lo).length = hi - lo := by simp; omega
  refine ⟨_, _, by rw [hlen], by rw [hlen]; omega, by omega, fun hne => ?_, fun i x hx => ?_⟩
  · have hl : l ≠ [] := by intro e; subst e; simp at hne
    have := hp hl
    split
    · exact this
    · cases p with
      | none => exact absurd rfl this
      | some a => simp
  · have hi' : i < hi - lo := by rw [← hlen]; exact (List.getElem?_eq_some_iff.1 hx).1
    rw [List.getElem?_drop, List.getElem?_take] at hx
    rw [if_pos (by omega)] at hx
    obtain ⟨u, hu, hE⟩ := hel (lo + i) x hx
    refine ⟨u, ?_, hE⟩
    have hne : ¬ c = lo := by omega
    simp only [hne, if_false]
    subst hv
    cases p with
    | none => exact absurd rfl (hp (by intro e; subst e; simp at hx))
    | some a =>
      simp only [elA] at hu ⊢
      rw [← hu]
      congr 1
      have hs : a.spot = none := by
        cases hsp : a.spot with
        | none => rfl
        | some s =>
          exfalso
          obtain ⟨u1, hu1, _⟩ := hel 0 _ (List.getElem?_eq_getElem (by have := (List.getElem?_eq_some_iff.1 hx).1; omega))
          simp only [elA, Addr.add, if_true] at hu1
          unfold World.cell? at hu1
          split at hu1
          · simp [hsp] at hu1
          · cases hu1
      obtain ⟨b, o, s⟩ := a
      simp only at hs; subst hs
      simp only [Option.map_some, elA, Addr.add]
      (repeat' split) <;> simp_all <;> omega

theorem op_slice {α : Type} {t : Ty α} {v : Value} {l : List α} {x : Operand} {lo hi : Option Operand} {st e : TypeId} {zv : Value} {bytes : Nat} {a b : Int} {kd : IntKind} (hT : SlE P st e zv bytes) (hx : ev f x = v) (h : t.sl.rep w v l)
    (hlo : match lo with | some o => ev f o = .int kd a | none => a = 0) (hhi : match hi with | some o => ev f o = .int kd b | none => b = l.length) (h0 : 0 ≤ a) (h1 : a ≤ b) (h2 : b ≤ l.length) :
    ∃ v', OpV P (.slice st x lo hi none) T f w v' w ∧ t.sl.rep w v' ((l.take b.toNat).drop a.toNat) := by
  obtain ⟨i, hi', hiz, his, hib⟩ := hT.info
  obtain ⟨p, c, hv, hlc, hrep⟩ := rep_slice h (lo := a.toNat) (hi := b.toNat) (by omega) (by omega)
  refine ⟨_, fun _ _ _ _ => ?_, hrep⟩
  have hel : P.elem st = e := by simp [Program.elem, hT.1]
  have hel' : P.underlying st = some (.slice (P.elem st)) := by rw [hel]; exact hT.1
  have hsz : (sizeOf (P.elem st)).run P w = .ok 1 w := by rw [hel]; simp [sizeOf, typeInfo, hi', his]
  have key : (Instr.slice st (.slice p l.length c) (lo.map (ev f)) (hi.map (ev f)) none).run P w = .ok (.slice (if c = a.toNat then p else p.map (·.add (a.toNat * 1))) (b.toNat - a.toNat) (c - a.toNat)) w := by
    cases lo with
    | none =>
      simp only at hlo; subst hlo
      cases hi with
      | none =>
        simp only at hhi; subst hhi
        simp only [Option.map_none]
        rw [run_slice_all w st p l.length c hel', hsz]
        simp [sliced]
      | some oh =>
        simp only at hhi
        simp only [Option.map_none, Option.map_some, hhi]
        rw [run_slice_h w st p l.length c hel' kd b (by omega) (by omega), hsz]
        simp [sliced]
    | some ol =>
      simp only at hlo
      cases hi with
      | none =>
        simp only at hhi; subst hhi
        simp only [Option.map_none, Option.map_some, hlo]
        rw [run_slice_l w st p l.length c hel' kd a h0 h1, hsz]
        simp [sliced]
      | some oh =>
        simp only at hhi
        simp only [Option.map_some, hlo, hhi]
        rw [run_slice_lh w st p l.length c hel' kd kd a b h0 h1 (by omega), hsz]
        simp [sliced]
  subst hv
  have hat : (Instr.sliceAt st (.slice p l.length c) (lo.map (ev f)) (hi.map (ev f)) none).run P w = (Instr.slice st (.slice p l.length c) (lo.map (ev f)) (hi.map (ev f)) none).run P w := by
    simp [Instr.sliceAt, run_underlying hT.1]
  simp [execOp, hx, hat, key]
end
end Go.VG
