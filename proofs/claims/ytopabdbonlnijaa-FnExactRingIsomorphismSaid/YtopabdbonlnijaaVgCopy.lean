/- The builtin copy into a slice that the call owns, or into its rest from a place on; regions that draw their order, each order by itself. No condition. -/
import Derived.Test.YtopabdbonlnijaaVgIn
import Derived.Test.YtopabdbonlnijaaVgDr
import Derived.Laws.IdiomCopy
import Derived.Laws.CopyRow
set_option linter.all false
namespace Go.VG
open Go.RowKit (Below)

theorem pickL {α : Type} (Q : Nat → α → Prop) : ∀ (n : Nat), (∀ i, i < n → ∃ x, Q i x) → ∃ l : List α, l.length = n ∧ ∀ i x, l[i]? = some x → Q i x
  | 0, _ => ⟨[], rfl, fun i x h => by simp at h⟩
  | n + 1, h => by
    obtain ⟨l, h1, h2⟩ := pickL Q n (fun i hi => h i (by omega))
    obtain ⟨x, hx⟩ := h n (by omega)
    refine ⟨l ++ [x], by simp [h1], fun i y hy => ?_⟩
    rw [List.getElem?_append] at hy
    split at hy
    · exact h2 i y hy
    · have := (List.getElem?_eq_some_iff.1 hy).1
      have hi : i = n := by simp at this; omega
      subst hi
      rw [h1] at hy
      simp at hy
      exact hy ▸ hx

/-- dv is v from place a on. -/
def Win (v : Value) (L a : Nat) (dv : Value) : Prop := ∃ p c, v = .slice p L c ∧ dv = .slice (if c = a then p else p.map (·.add (a * 1))) (L - a) (c - a)

section
variable {P : Program} {n : Nat} {Q : Post} {f : Fr} {w w0 : World} {T : TypeId} {As : List Ent} {ops : Array Oper} {rest : List Oper} {pos : String} {after : Array Edge}

theorem addr_zero (b : Nat) : (⟨b, 0, none⟩ : Addr).add (0 * 1) = ⟨b, 0, none⟩ := by simp [Addr.add]
theorem addr_off (b a : Nat) : (⟨b, 0, none⟩ : Addr).add (a * 1) = ⟨b, a, none⟩ := by unfold Addr.add; split <;> simp_all
theorem addr_off' (b a j : Nat) : (⟨b, a, none⟩ : Addr).add j = ⟨b, a + j, none⟩ := by unfold Addr.add; split <;> simp_all

theorem Win.whole {α : Type} {t : Ty α} {S : Nat → Prop} {v : Value} {l : List α} (h : t.sl.own S w v l) : Win v l.length 0 v := by
  rcases h with ⟨p, rfl, rfl⟩ | ⟨b, c, vs, T, Ss, rfl, h2, h3, h4, h5, h6, h7, h8, h9⟩
  · exact ⟨p, 0, rfl, by simp⟩
  · refine ⟨_, c, rfl, ?_⟩
    simp only [Nat.sub_zero]
    split
    · rfl
    · simp [addr_zero, Addr.add]
theorem St.winWhole {α : Type} {t : Ty α} {v : Value} {l : List α} (h : St w0 w As) (k : Nat) (hk : As[k]? = some (t.sl.at v l)) : Win v l.length 0 v := by
  obtain ⟨S, hA, _⟩ := h.sep.get k hk
  exact Win.whole hA

theorem op_sliceWin {α : Type} {t : Ty α} {v : Value} {l : List α} {x o : Operand} {st e : TypeId} {zv : Value} {bytes : Nat} {a : Int} {kd : IntKind} (hT : SlE P st e zv bytes) (hx : ev f x = v) (h : t.sl.rep w v l)
    (hlo : ev f o = .int kd a) (h0 : 0 ≤ a) (h1 : a ≤ l.length) :
    ∃ v', (∀ w', OpV P (.slice st x (some o) none none) T f w' v' w') ∧ Win v l.length a.toNat v' := by
  obtain ⟨i, hi', hiz, his, hib⟩ := hT.info
  obtain ⟨p, c, hv, hlc, hrep⟩ := rep_slice h (lo := a.toNat) (hi := l.length) (by omega) (by omega)
  refine ⟨_, fun w' _ _ _ _ => ?_, p, c, hv, rfl⟩
  have hel : P.elem st = e := by simp [Program.elem, hT.1]
  have hel' : P.underlying st = some (.slice (P.elem st)) := by rw [hel]; exact hT.1
  have hsz : (sizeOf (P.elem st)).run P w' = .ok 1 w' := by rw [hel]; simp [sizeOf, typeInfo, hi', his]
  have key : (Instr.slice st (.slice p l.length c) (some (.int kd a)) none none).run P w' = .ok (.slice (if c = a.toNat then p else p.map (·.add (a.toNat * 1))) (l.length - a.toNat) (c - a.toNat)) w' := by
    rw [run_slice_l w' st p l.length c hel' kd a h0 (by omega), hsz]
    simp [sliced]
  subst hv
  have hat : (Instr.sliceAt st (.slice p l.length c) (some (.int kd a)) none none).run P w' = (Instr.slice st (.slice p l.length c) (some (.int kd a)) none none).run P w' := by
    simp [Instr.sliceAt, run_underlying hT.1]
  simp [execOp, hx, hlo, hat, key]
/-- A reslice's value, in whatever world. -/
theorem op_sliceA {α : Type} {t : Ty α} {v : Value} {l : List α} {x : Operand} {lo hi : Option Operand} {st e : TypeId} {zv : Value} {bytes : Nat} {a b : Int} {kd : IntKind} (hT : SlE P st e zv bytes) (hx : ev f x = v) (h : t.sl.rep w v l)
    (hlo : match lo with | some o => ev f o = .int kd a | none => a = 0) (hhi : match hi with | some o => ev f o = .int kd b | none => b = l.length) (h0 : 0 ≤ a) (h1 : a ≤ b) (h2 : b ≤ l.length) :
    ∃ v', (∀ w', OpV P (.slice st x lo hi none) T f w' v' w') ∧ t.sl.rep w v' ((l.take b.toNat).drop a.toNat) := by
  obtain ⟨i, hi', hiz, his, hib⟩ := hT.info
  obtain ⟨p, c, hv, hlc, hrep⟩ := rep_slice h (lo := a.toNat) (hi := b.toNat) (by omega) (by omega)
  refine ⟨_, fun w' _ _ _ _ => ?_, hrep⟩
  have hel : P.elem st = e := by simp [Program.elem, hT.1]
  have hel' : P.underlying st = some (.slice (P.elem st)) := by rw [hel]; exact hT.1
  have hsz : (sizeOf (P.elem st)).run P w' = .ok 1 w' := by rw [hel]; simp [sizeOf, typeInfo, hi', his]
  have key : (Instr.slice st (.slice p l.length c) (lo.map (ev f)) (hi.map (ev f)) none).run P w' = .ok (.slice (if c = a.toNat then p else p.map (·.add (a.toNat * 1))) (b.toNat - a.toNat) (c - a.toNat)) w' := by
    cases lo with
    | none =>
      simp only at hlo; subst hlo
      cases hi with
      | none =>
        simp only at hhi; subst hhi
        simp only [Option.map_none]
        rw [run_slice_all w' st p l.length c hel', hsz]
        simp [sliced]
      | some oh =>
        simp only at hhi
        simp only [Option.map_none, Option.map_some, hhi]
        rw [run_slice_h w' st p l.length c hel' kd b (by omega) (by omega), hsz]
        simp [sliced]
    | some ol =>
      simp only at hlo
      cases hi with
      | none =>
        simp only at hhi; subst hhi
        simp only [Option.map_none, Option.map_some, hlo]
        rw [run_slice_l w' st p l.length c hel' kd a h0 h1, hsz]
        simp [sliced]
      | some oh =>
        simp only at hhi
        simp only [Option.map_some, hlo, hhi]
        rw [run_slice_lh w' st p l.length c hel' kd kd a b h0 h1 (by omega), hsz]
        simp [sliced]
  subst hv
  have hat : (Instr.sliceAt st (.slice p l.length c) (lo.map (ev f)) (hi.map (ev f)) none).run P w' = (Instr.slice st (.slice p l.length c) (lo.map (ev f)) (hi.map (ev f)) none).run P w' := by
    simp [Instr.sliceAt, run_underlying hT.1]
  simp [execOp, hx, hat, key]
/-- The address of an element, in whatever world. -/
theorem op_idxA {α : Type} {t : Ty α} {x i : Operand} {st e : TypeId} {z : Value} {by_ : Nat} {v : Value} {l : List α} {k : IntKind} {j : Int} (ht : SlE P st e z by_) (hr : t.sl.rep w v l) (hx : ev f x = v) (hi : ev f i = .int k j) (h0 : 0 ≤ j) (h1 : j < l.length) :
    ∀ w', OpV P (.indexAddr st x i) T f w' (.pointer (some (elA v j.toNat))) w' := by
  obtain ⟨p, c, h1', h2, h3, h4, h5⟩ := hr
  intro w'
  have hne : l ≠ [] := by intro e; subst e; simp at h1; omega
  refine op_indexAddr ht hx h1' (fun _ => h4 hne) hi h0 (by simpa using h1)

theorem cpyL_len {α : Type} (l : List α) (a : Int) (xs : List α) (h : a.toNat ≤ l.length) : (cpyL l a xs).length = l.length := by
  have h1 : Nat.min xs.length (l.length - a.toNat) ≤ xs.length := Nat.min_le_left _ _
  have h2 : Nat.min xs.length (l.length - a.toNat) ≤ l.length - a.toNat := Nat.min_le_right _ _
  simp only [cpyL, List.length_append, List.length_take, List.length_drop]
  generalize Nat.min xs.length (l.length - a.toNat) = m at *
  omega
theorem inR_cpyN {α : Type} {t : Ty α} {v : Value} {l : List α} (a : Int) {xs : List α} (hr : t.sl.rep w v l) : InR .i64 (cpyN l a xs) := by
  have h0 := inR_len hr
  rw [inR_i64] at h0 ⊢
  have h2 : Nat.min xs.length (l.length - a.toNat) ≤ l.length - a.toNat := Nat.min_le_right _ _
  unfold cpyN
  generalize Nat.min xs.length (l.length - a.toNat) = m at *
  omega

theorem St.copy {α : Type} {t : Ty α} (hf : t.Flat) {d s : Operand} {st e : TypeId} {zv : Value} {bytes k : Nat} {v dv sv : Value} {l xs : List α} {a : Int} (h : St w0 w As) (hk : As[k]? = some (t.sl.at v l)) (hT : SlE P st e zv bytes)
    (ha : a.toNat ≤ l.length) (hw : Win v l.length a.toNat dv) (hd : ev f d = dv) (hs : ev f s = sv) (hr : t.sl.rep w sv xs) :
    ∃ w', OpV P (.call { callee := .builtin .copy, args := #[d, s], argTypes := #[st, st] }) T f w (.int .i64 (cpyN l a xs)) w' ∧ St w0 w' (As.set k (t.sl.at v (cpyL l a xs))) ∧ w'.heap.size = w.heap.size := by
  obtain ⟨i, hi, hiz, his, hib⟩ := hT.info
  have hsz1 : (P.info? e).map (·.size) = some 1 := by simp [hi, his]
  obtain ⟨sp, sc, rfl, hs2, hs3, hs4, hs5⟩ := hr
  have hm1 : Nat.min xs.length (l.length - a.toNat) ≤ xs.length := Nat.min_le_left _ _
  have hm2 : Nat.min xs.length (l.length - a.toNat) ≤ l.length - a.toNat := Nat.min_le_right _ _
  obtain ⟨p, c, hv, hdv⟩ := hw
  by_cases hm : Nat.min xs.length (l.length - a.toNat) = 0
  · -- nothing goes over
    have e1 : cpyL l a xs = l := by simp [cpyL, hm]
    have e2 : cpyN l a xs = 0 := by simp [cpyN, hm]
    rw [e1, e2]
    refine ⟨w, fun _ _ _ _ => ?_, ?_, rfl⟩
    · have hrun := run_copy_none (P := P) w st st T e (if c = a.toNat then p else p.map (·.add (a.toNat * 1))) sp (l.length - a.toNat) (c - a.toNat) xs.length sc hT.1 hsz1 hm
      simp [execOp, resolve, invoke, builtin, hd, hs, hdv]
      simp at hrun
      simp [hrun, goInt]
    · have : As.set k (t.sl.at v l) = As := by
        apply List.ext_getElem?
        intro j
        rw [List.getElem?_set]
        split
        · rename_i hkj; subst hkj
          split
          · rw [hk]
          · rename_i hlt
            exact absurd (List.getElem?_eq_some_iff.1 hk).1 hlt
        · rfl
      rw [this]; exact h
  · obtain ⟨S0, hA0, _, hS0⟩ := h.sep.get k hk
    have hne : l ≠ [] := by intro e; subst e; simp only [List.length_nil] at hm2 hm; omega
    rcases hA0 with ⟨p0, hp0, rfl⟩ | ⟨b, c0, vs, T', Ss, hvb, g2, g3, g4, g5, g6, g7, g8, g9⟩
    · exact absurd rfl hne
    · rw [hvb] at hv
      cases hv
      have hca : ¬ c = a.toNat := by omega
      simp only [hca, if_false, Option.map_some, addr_off] at hdv
      have hspn : sp ≠ none := hs4 (by intro e; subst e; simp only [List.length_nil] at hm1 hm; omega)
      obtain ⟨sa, rfl⟩ : ∃ sa, sp = some sa := by cases sp with | none => exact absurd rfl hspn | some x => exact ⟨x, rfl⟩
      obtain ⟨cs, hcs1, hcs2⟩ := pickL (fun j u => ∃ x, xs[j]? = some x ∧ w.cell? (elA (.slice (some sa) xs.length sc) j) = some u ∧ t.rep w u x) (Nat.min xs.length (l.length - a.toNat)) (fun j hj => by
        have hjx : j < xs.length := by omega
        obtain ⟨u, h1, h2⟩ := hs5 j xs[j] (List.getElem?_eq_getElem hjx)
        exact ⟨u, xs[j], List.getElem?_eq_getElem hjx, h1, h2⟩)
      have hone : ∀ u ∈ cs, u.oneCell' = true := by
        intro u hu
        obtain ⟨j, hj, hju⟩ := List.getElem_of_mem hu
        obtain ⟨x, _, _, hx⟩ := hcs2 j u (by rw [List.getElem?_eq_getElem hj, hju])
        exact t.one hx
      have hrun := run_copy_row (P := P) w st st T e b a.toNat (l.length - a.toNat) (c - a.toNat) sa xs.length sc vs T' cs hT.1 hsz1 g3 hcs1 (fun j u hu => by
        obtain ⟨x, _, h1, _⟩ := hcs2 j u hu
        simpa only [elA] using h1) (by omega) hone
      have hheap := setRow_heap w b vs (vs.toList.take a.toNat ++ cs ++ vs.toList.drop (a.toNat + cs.length)).toArray T' (0, 0) g3
      refine ⟨w.setRow b (vs.toList.take a.toNat ++ cs ++ vs.toList.drop (a.toNat + cs.length)).toArray, fun _ _ _ _ => ?_, h.upd k hk (Ty.at_local _ _ _) rfl rfl rfl (by simp [World.setRow]) fun S hA hS => ?_, by simp [World.setRow]⟩
      · simp [execOp, resolve, invoke, builtin, hd, hs, hdv, hrun, goInt, cpyN, hcs1]
      · have hSb : S b := by
          rcases hA with ⟨q, hq, hl0⟩ | ⟨b1, c1, vs1, T1, Ss1, hv1, k2, _⟩
          · exact absurd hl0 hne
          · rw [hvb] at hv1; cases hv1; exact k2
        refine ⟨fun b' hb' hn => setRow_other w b b' _ (fun e => hn (e ▸ hSb)), S, .inr ⟨b, c, _, T', fun _ _ => False, by rw [cpyL_len l a xs ha]; exact hvb, hSb, hheap, ?_, by rw [cpyL_len l a xs ha]; exact g5, g6, fun _ _ h => h.elim, fun _ _ _ h => h.elim, fun j x hx => ?_⟩, fun b' hb' => ⟨.inl hb', by simp [World.setRow]; exact (hS b' hb').2⟩⟩
        · simp [hcs1]; omega
        · -- the element at place j
          have flat : ∀ u, t.rep w u x → t.own (fun _ => False) (w.setRow b (vs.toList.take a.toNat ++ cs ++ vs.toList.drop (a.toNat + cs.length)).toArray) u x := fun u hu => t.loc (fun _ h => h.elim) (hf _ w u x hu)
          have old : ∀ (i : Nat), l[i]? = some x → ∃ u, vs[i]? = some u ∧ t.rep w u x := fun i hi => by
            obtain ⟨u, hu, hE⟩ := g9 i x hi
            exact ⟨u, hu, t.toRep hE⟩
          have hjl : j < l.length := by rw [← cpyL_len l a xs ha]; exact (List.getElem?_eq_some_iff.1 hx).1
          unfold cpyL at hx
          rw [List.append_assoc, List.getElem?_append] at hx
          simp only [List.length_take] at hx
          have e1 : Nat.min a.toNat l.length = a.toNat := Nat.min_eq_left ha
          have ecs : cs.length = Nat.min xs.length (l.length - a.toNat) := hcs1
          have tl : vs.toList.length = c := by simpa using g4
          rw [show min a.toNat l.length = a.toNat from e1] at hx
          split at hx
          · rename_i hja
            rw [List.getElem?_take, if_pos hja] at hx
            obtain ⟨u, hu, hE⟩ := old j hx
            refine ⟨u, ?_, flat u hE⟩
            rw [List.getElem?_toArray, List.append_assoc, List.getElem?_append_left (by simp; omega), List.getElem?_take, if_pos hja]
            simpa using hu
          · rename_i hja
            rw [List.getElem?_append] at hx
            simp only [List.length_take] at hx
            split at hx
            · rename_i hjm
              have hjm' : j - a.toNat < Nat.min xs.length (l.length - a.toNat) := by
                have : min (Nat.min xs.length (l.length - a.toNat)) xs.length = Nat.min xs.length (l.length - a.toNat) := Nat.min_eq_left hm1
                omega
              rw [List.getElem?_take, if_pos hjm'] at hx
              have hjc : j - a.toNat < cs.length := by omega
              obtain ⟨x', hx', _, hE⟩ := hcs2 (j - a.toNat) cs[j - a.toNat] (List.getElem?_eq_getElem hjc)
              rw [hx] at hx'; cases hx'
              refine ⟨cs[j - a.toNat], ?_, flat _ hE⟩
              rw [List.getElem?_toArray, List.append_assoc, List.getElem?_append_right (by simp; omega)]
              simp only [List.length_take, tl]
              rw [show min a.toNat c = a.toNat from Nat.min_eq_left (by omega), List.getElem?_append_left hjc, List.getElem?_eq_getElem hjc]
            · rename_i hjm
              have hmx : min (Nat.min xs.length (l.length - a.toNat)) xs.length = Nat.min xs.length (l.length - a.toNat) := Nat.min_eq_left hm1
              rw [hmx] at hx hjm
              rw [List.getElem?_drop] at hx
              rw [show a.toNat + Nat.min xs.length (l.length - a.toNat) + (j - a.toNat - Nat.min xs.length (l.length - a.toNat)) = j from by omega] at hx
              obtain ⟨u, hu, hE⟩ := old j hx
              refine ⟨u, ?_, flat u hE⟩
              rw [List.getElem?_toArray, List.append_assoc, List.getElem?_append_right (by simp; omega)]
              simp only [List.length_take, tl]
              rw [show min a.toNat c = a.toNat from Nat.min_eq_left (by omega), List.getElem?_append_right (by omega), List.getElem?_drop]
              rw [show a.toNat + cs.length + (j - a.toNat - cs.length) = j from by omega]
              simpa using hu

theorem WL.copy {α : Type} {t : Ty α} (hf : t.Flat) {d s : Operand} {st e : TypeId} {zv : Value} {bytes k dd : Nat} {v dv sv : Value} {l xs : List α} {a : Int} (h : St w0 w As) (hk : As[k]? = some (t.sl.at v l)) (hT : SlE P st e zv bytes)
    (ha : a.toNat ≤ l.length) (hw : Win v l.length a.toNat dv) (hd : ev f d = dv) (hs : ev f s = sv) (hr : t.sl.rep w sv xs) (hdd : Nat.blt dd n = true)
    (kk : ∀ w', St w0 w' (As.set k (t.sl.at v (cpyL l a xs))) → WL P n ops Q rest (upd f dd (.int .i64 (cpyN l a xs))) w') :
    WL P n ops Q (⟨some dd, .call { callee := .builtin .copy, args := #[d, s], argTypes := #[st, st] }, T, pos, after, none⟩ :: rest) f w := by
  obtain ⟨w', ho, hS, _⟩ := St.copy (P := P) (T := T) hf h hk hT ha hw hd hs hr
  exact WL.val _ w' ho hdd (kk w' hS)
theorem WL.copy0 {α : Type} {t : Ty α} (hf : t.Flat) {d s : Operand} {st e : TypeId} {zv : Value} {bytes k : Nat} {v dv sv : Value} {l xs : List α} {a : Int} (h : St w0 w As) (hk : As[k]? = some (t.sl.at v l)) (hT : SlE P st e zv bytes)
    (ha : a.toNat ≤ l.length) (hw : Win v l.length a.toNat dv) (hd : ev f d = dv) (hs : ev f s = sv) (hr : t.sl.rep w sv xs)
    (kk : ∀ w', St w0 w' (As.set k (t.sl.at v (cpyL l a xs))) → WL P n ops Q rest f w') :
    WL P n ops Q (⟨none, .call { callee := .builtin .copy, args := #[d, s], argTypes := #[st, st] }, T, pos, after, none⟩ :: rest) f w := by
  obtain ⟨w', ho, hS, _⟩ := St.copy (P := P) (T := T) hf h hk hT ha hw hd hs hr
  exact fun a' ha' => wpList_plain rfl fun K hK => by
    have he : (execOp a'.eval ⟨none, .call { callee := .builtin .copy, args := #[d, s], argTypes := #[st, st] }, T, pos, after, none⟩).run P w = .ok (.value (.int .i64 (cpyN l a xs))) w' := by rw [ha'.eval]; exact ho _ _ _ _
    show Oper.upon P _ a' K _ ((execOp a'.eval _).run P w)
    rw [he]
    exact hK _ _ (kk w' hS _ (ha'.putNone undef))

/-! ### Every order by itself -/

/-- What is left of a region that draws: in every order. -/
def WA (P : Program) (n : Nat) (l : List Oper) (K : Fr → World → Prop) (fuel : Nat) (listed : Array Bool) (f : Fr) (w : World) : Prop :=
  ∀ a, Agree n a f → wpAny P .any l.toArray (lift n (nrm K)) fuel listed a w
theorem W.orders {id : Nat} {l : List Oper} (hm : P.follows .mixedOrders = true) (h : ∀ w', Ext w w' → WA P n l (Q .normal) l.length (Array.replicate l.length false) f w') : W P n (.region id l.toArray true) Q f w :=
  W.ofNrm fun a ha => wp_region_any hm (by
    have hsz : (Array.replicate l.toArray.size false) = Array.replicate l.length false := by simp
    rw [hsz]
    simpa using h { w with drawn := w.drawn + 1 } ⟨rfl, rfl, rfl, Nat.le_refl _, fun _ _ => rfl⟩ a ha)
/-- An operation that touches no memory is taken. -/
theorem WA.take {l : List Oper} {K : Fr → World → Prop} {fuel : Nat} {listed : Array Bool} {i d : Nat} {o : Oper} (v : Value) (hi : l[i]? = some o) (hd : o.dst = some d) (hg : o.guard = none) (hn : Nat.blt d n = true)
    (hs : (Region.noSelect l.toArray && Region.free .any l.toArray listed i && (Region.ready .any l.toArray listed).contains i) = true) (hv : ∀ w', OpV P o.op o.type f w' v w')
    (k : WA P n l K fuel (listed.setIfInBounds i true) (upd f d v) w) : WA P n l K (fuel + 1) listed f w := fun a ha => by
  simp only [Bool.and_eq_true] at hs
  refine wpAny_take (oi := o) (v := v) (by simpa using hi) hs.1.1 hs.1.2 hs.2 ?_ (.inl ⟨by simp [Region.wanted, hg], fun w' => ?_⟩) (by rw [hd]; exact k _ (ha.put d v hn))
  · rintro c a w ⟨f1, _, hq⟩
    exact hq.elim
  · have := hv w' o.dst o.pos o.after o.guard
    rw [ha.eval]
    exact this
theorem WA.slice {α : Type} {t : Ty α} {l : List Oper} {K : Fr → World → Prop} {fuel : Nat} {listed : Array Bool} {i d : Nat} {v : Value} {xs xs' : List α} {x : Operand} {lo hi : Option Operand} {st e : TypeId} {zv : Value} {bytes : Nat} {a b : Int} (kd : IntKind)
    (hi' : l[i]? = some ⟨some d, .slice st x lo hi none, T, pos, after, none⟩) (hn : Nat.blt d n = true) (hs : (Region.noSelect l.toArray && Region.free .any l.toArray listed i && (Region.ready .any l.toArray listed).contains i) = true)
    (hT : SlE P st e zv bytes) (hx : ev f x = v) (h : t.sl.rep w v xs) (hlo : match (generalizing := false) lo with | some o => ev f o = .int kd a | none => a = 0) (hhi : match (generalizing := false) hi with | some o => ev f o = .int kd b | none => b = xs.length) (hc : cutL xs a b = some xs')
    (k : ∀ u, t.sl.rep w u xs' → WA P n l K fuel (listed.setIfInBounds i true) (upd f d u) w) : WA P n l K (fuel + 1) listed f w := by
  obtain ⟨h0, h1, h2, rfl⟩ := cutL_some hc
  obtain ⟨u, ho, hr⟩ := op_sliceA (P := P) (f := f) (w := w) (T := T) hT hx h hlo hhi h0 h1 h2
  exact WA.take u hi' rfl rfl hn hs ho (k u hr)
/-- The rest of a slice from a place on, its window told. -/
theorem WA.win {α : Type} {t : Ty α} {l : List Oper} {K : Fr → World → Prop} {fuel : Nat} {listed : Array Bool} {i d : Nat} {v : Value} {xs xs' : List α} {x o : Operand} {st e : TypeId} {zv : Value} {bytes : Nat} {a : Int} (kd : IntKind)
    (hi' : l[i]? = some ⟨some d, .slice st x (some o) none none, T, pos, after, none⟩) (hn : Nat.blt d n = true) (hs : (Region.noSelect l.toArray && Region.free .any l.toArray listed i && (Region.ready .any l.toArray listed).contains i) = true)
    (hT : SlE P st e zv bytes) (hx : ev f x = v) (h : t.sl.rep w v xs) (hlo : ev f o = .int kd a) (hc : cutL xs a xs.length = some xs')
    (k : ∀ u, Win v xs.length a.toNat u → WA P n l K fuel (listed.setIfInBounds i true) (upd f d u) w) : WA P n l K (fuel + 1) listed f w := by
  obtain ⟨h0, h1, h2, rfl⟩ := cutL_some hc
  obtain ⟨u, ho, hw⟩ := op_sliceWin (P := P) (f := f) (w := w) (T := T) hT hx h hlo h0 h1
  exact WA.take u hi' rfl rfl hn hs ho (k u hw)
theorem cutL_le {α : Type} {l l' : List α} {a b : Int} (h : cutL l a b = some l') : a.toNat ≤ l.length := by
  obtain ⟨h0, h1, h2, _⟩ := cutL_some h
  omega
/-- What may come, each by itself. -/
def WAs (P : Program) (n : Nat) (l : List Oper) (K : Fr → World → Prop) (fuel : Nat) (listed : Array Bool) (f : Fr) (w : World) : List Nat → Prop
  | [] => True
  | i :: is => (∃ o, l[i]? = some o ∧ WL P n l.toArray (nrm fun f' w' => WA P n l K fuel (listed.setIfInBounds i true) f' w') [o] f w) ∧ WAs P n l K fuel listed f w is
theorem WAs.get {l : List Oper} {K : Fr → World → Prop} {fuel : Nat} {listed : Array Bool} : ∀ {is : List Nat}, WAs P n l K fuel listed f w is → ∀ i ∈ is, ∃ o, l[i]? = some o ∧ WL P n l.toArray (nrm fun f' w' => WA P n l K fuel (listed.setIfInBounds i true) f' w') [o] f w
  | [], _, i, h => by cases h
  | j :: is, h, i, hi => by
    rcases List.mem_cons.1 hi with rfl | hi
    · exact h.1
    · exact WAs.get h.2 i hi
theorem WA.all {l : List Oper} {K : Fr → World → Prop} {fuel : Nat} {listed : Array Bool} (is : List Nat) (hr : Region.ready .any l.toArray listed = is) (hne : is.isEmpty = false) (h : WAs P n l K fuel listed f w is) : WA P n l K (fuel + 1) listed f w := fun a ha => by
  refine wpAny_all hr (by intro e; subst e; cases hne) fun i hi => ?_
  obtain ⟨o, ho, hw⟩ := h.get i hi
  have h1 := hw a ha
  unfold wpOp
  simp only [List.getElem?_toArray, ho]
  unfold wpList at h1
  split
  · rename_i hwant
    rw [if_pos hwant] at h1
    refine h1.imp (fun h2 => ?_) (fun h2 => ?_)
    · refine Oper.wp_mono2 (Q := lift n (nrm fun f' w' => WA P n l K fuel (listed.setIfInBounds i true) f' w')) (fun a w h3 => ?_) (fun e a w h3 => ?_) h2
      · obtain ⟨f', hf, h4⟩ := h3
        exact h4 a hf
      · obtain ⟨f', hf, h4⟩ := h3
        exact nrm_normal _ _ _ h4
    · obtain ⟨_, a', w', h3⟩ := h2
      obtain ⟨f', _, h4⟩ := h3
      exact h4.elim
  · rename_i hwant
    rw [if_neg hwant] at h1
    obtain ⟨f', hf, h4⟩ := h1
    exact h4 _ hf
theorem WA.done {l : List Oper} {K : Fr → World → Prop} {fuel : Nat} {listed : Array Bool} (hr : (Region.ready .any l.toArray listed).isEmpty = true) (h : K f w) : WA P n l K fuel listed f w := fun a ha =>
  wpAny_done (List.isEmpty_iff.1 hr) ⟨f, ha, h⟩ fuel
/-- An empty literal of whatever elements, where the order is drawn. -/
theorem mk_lit0 {α : Type} {t : Ty α} {P : Program} {f : Fr} {w : World} {T st e : TypeId} {zv : Value} {bytes : Nat} (hT : SlE P st e zv bytes) (hzc : zv.cells = #[zv]) :
    ∃ v w', OpV P (.buildSlice st 0 #[]) T f w v w' ∧ Ext w w' ∧ Sep w.heap.size w' [t.sl.at v []] :=
  ⟨_, _, mk_lit (ps := #[]) (us := []) hT hzc (Nat.zero_le _) (by simp [Instr.fill]) rfl, Ext.alloc w _, Sep.one (S := fun _ => False) (.inl ⟨_, rfl, rfl⟩) (Ty.at_local _ _ _) (fun b hb => hb.elim)⟩
end
end Go.VG
