/- Operations on the call's own memory. No condition. -/
import Derived.Test.YtjjjljlobfpbnaaVgOps
import Derived.Laws.OwnMore
set_option linter.all false
namespace Go.VG
open Go.RowKit (Below)

def Ty.Flat {α : Type} (t : Ty α) : Prop := ∀ S w v x, t.rep w v x → t.own S w v x
theorem flat_i (k : IntKind) : (Ty.i k).Flat := fun _ _ _ _ h => h
section
variable {P : Program} {n : Nat} {f : Fr} {w w0 : World} {T : TypeId} {As : List Ent}

/-! ### A variable's block -/

theorem sep_box (w : World) (cs : List Value) (t : TypeId) : Sep w.heap.size (w.alloc (.cells cs.toArray t)) [bx w.heap.size cs] :=
  Sep.one (S := fun b => b = w.heap.size) ⟨rfl, t, heap_alloc_new w _⟩ (bx_local _ _) (fun b hb => by subst hb; simp)

/-- A block is laid for a value. -/
theorem St.newBox (h : St w0 w As) (cs : List Value) (t : TypeId) : St w0 (w.alloc (.cells cs.toArray t)) (As ++ [bx w.heap.size cs]) :=
  h.join (Ext.alloc w _) (sep_box w cs t)

theorem setCells_at {b : Nat} {vs : List Value} {T' : TypeId} (us : List Value) (o : Nat) (hb : w.heap[b]? = some (.cells vs.toArray T' (0, 0))) (hlen : o + us.length ≤ vs.length) (h1 : ∀ u ∈ us, u.oneCell' = true) :
    ∃ w', (storeCells ⟨b, o, none⟩ us).run P w = .ok () w' ∧ w'.heap[b]? = some (.cells (vs.take o ++ us ++ vs.drop (o + us.length)).toArray T' (0, 0)) ∧ w'.os = w.os ∧ w'.tape = w.tape ∧ w'.output = w.output ∧ w'.heap.size = w.heap.size ∧ ∀ k, k ≠ b → w'.heap[k]? = w.heap[k]? := by
  have hr := run_storeCells_at P b o T' us 0 vs.toArray w hb (by simpa using hlen) h1
  refine ⟨_, hr, ?_, rfl, rfl, rfl, by simp [World.setRow], fun k hk => setRow_other w b k _ hk⟩
  have := setRow_heap w b vs.toArray (vs.toArray.toList.take (o + 0) ++ us ++ vs.toArray.toList.drop (o + 0 + us.length)).toArray T' (0, 0) hb
  simpa using this

/-- A store into a variable's block: one cell, or the cells of a struct. -/
theorem St.storeBox {a x : Operand} {t b o m : Nat} {vs us vs' : List Value} {v : Value} (h : St w0 w As) (k : Nat) (hk : As[k]? = some (bx b vs)) (ha : ev f a = .pointer (some ⟨b, o, none⟩)) (hx : ev f x = v)
    (hv : v.cells = us.toArray) (hsz : (P.info? t).map (·.size) = some m) (hm : us.length = m) (hlen : o + m ≤ vs.length) (h1 : us.all (·.oneCell') = true) (hvs : vs.take o ++ us ++ vs.drop (o + m) = vs') :
    ∃ w', OpS P (.store t a x) T f w w' ∧ St w0 w' (As.set k (bx b vs')) ∧ w'.heap.size = w.heap.size ∧ ∀ k, k ≠ b → w'.heap[k]? = w.heap[k]? := by
  obtain ⟨T', hb⟩ := h.box k hk
  obtain ⟨w', hr, hheap, hos, htape, hout, hsize, hoth⟩ := setCells_at (P := P) us o hb (by omega) (fun u hu => by have := List.all_eq_true.1 h1 u hu; simpa using this)
  refine ⟨w', fun _ _ _ _ => ?_, ?_, hsize, hoth⟩
  · cases hi : P.info? t with
    | none => simp [hi] at hsz
    | some i =>
      have hs : i.size = m := by simpa [hi] using hsz
      have hcs : v.cells.size = m := by rw [hv]; simpa using hm
      have hcl : v.cells.toList = us := by rw [hv]
      simp [execOp, Instr.storeAt, ha, hx, Instr.sureAddr, storeVar, sizeOf, typeInfo, hi, hs, hcs, hcl, hr]
  · refine h.upd k hk (bx_local _ _) hos htape hout (by omega) fun S hA hS => ⟨fun b' hb' hn => hoth b' (fun e => hn (e ▸ hA.1)), S, ⟨hA.1, T', ?_⟩, fun b' hb' => ⟨.inl hb', by have := (hS b' hb').2; omega⟩⟩
    rw [hheap, ← hvs, ← hm]

/-! ### make, literals -/

theorem own_replicate {α : Type} {t : Ty α} {z : α} {zv : Value} {S : Nat → Prop} {w : World} {b c T' : Nat} {vs : Array Value} (hz : ∀ S w, t.own S w zv z) (m : Nat) (hS : S b) (hb : w.heap[b]? = some (.cells vs T' (0, 0)))
    (hvs : ∀ i, i < m → vs[i]? = some zv) (hc : vs.size = c) (hmc : m ≤ c) (hcm : c ≤ maxLen) : t.sl.own S w (.slice (some ⟨b, 0, none⟩) m c) (List.replicate m z) := by
  refine .inr ⟨b, c, vs, T', fun _ _ => False, by simp, hS, hb, hc, by simpa using hmc, hcm, fun _ _ h => h.elim, fun _ _ _ h => h.elim, fun i x hx => ?_⟩
  rw [List.getElem?_replicate] at hx
  split at hx
  · cases hx; exact ⟨zv, hvs i (by assumption), hz _ _⟩
  · cases hx

theorem mk_make {α : Type} {t : Ty α} {z : α} {x : Operand} {st e : TypeId} {zv : Value} {bytes : Nat} {kd : IntKind} {m : Int} (hT : SlE P st e zv bytes) (hz : ∀ S w, t.own S w zv z) (hzc : zv.cells = #[zv])
    (hx : ev f x = .int kd m) (h0 : 0 ≤ m) (hm : m ≤ 1099511627776) (hby : bytes ≤ 256) :
    ∃ v w', OpV P (.makeSlice st x x) T f w v w' ∧ Ext w w' ∧ Sep w.heap.size w' [t.sl.at v (List.replicate m.toNat z)] := by
  obtain ⟨i, hi, hiz, his, hib⟩ := hT.info
  have hb1 : (i.bytes : Int) * m ≤ 256 * m := Int.mul_le_mul_of_nonneg_right (by omega) h0
  have hr := run_make (P := P) w st e i zv hT.1 hi hiz kd kd m m h0 (Int.le_refl _) (by omega) (by omega)
  refine ⟨.slice (some ⟨w.heap.size, 0, none⟩) m.toNat m.toNat, _, fun _ _ _ _ => ?_, Ext.alloc w (.cells (madeCells zv.cells (m.toNat * i.size)) e), Sep.one (S := fun b => b = w.heap.size) ?_ (Ty.at_local _ _ _) (fun b hb => by subst hb; simp)⟩
  · simp only [execOp, hx, Sem.run_bind, hr, Result.andThen_ok]; rfl
  · refine own_replicate hz m.toNat rfl (heap_alloc_new w _) (fun j hj => ?_) (by rw [size_madeCells, his, Nat.mul_one]) (Nat.le_refl _) (by simp [maxLen]; omega)
    rw [his, Nat.mul_one, hzc, ← Array.getElem?_toList, toList_madeCells_one]
    simp [hj]

/-- A literal slice: a block with its values. -/
theorem mk_lit {ps : Array (Nat × Operand)} {st e : TypeId} {zv : Value} {bytes m : Nat} {us : List Value} (hT : SlE P st e zv bytes) (hzc : zv.cells = #[zv]) (hm : m ≤ 4096) 
    (hp : Instr.fill (fun i => some (i * 1, 1)) (List.replicate m zv).toArray (ps.map fun (i, x) => (i, ev f x)).toList = some us.toArray) (hl : us.length = m) :
    OpV P (.buildSlice st m ps) T f w (.slice (some ⟨w.heap.size, 0, none⟩) m m) (w.alloc (.cells us.toArray e)) := fun _ _ _ _ => by
  obtain ⟨i, hi, hiz, his, hib⟩ := hT.info
  have hle : ¬ (16777216 < m) := by omega
  have hz : (Array.map (fun x => #[zv][x % 1]!) (Array.range m)) = (List.replicate m zv).toArray := by
    have := toList_madeCells_one zv m
    unfold madeCells at this
    apply Array.toList_inj.1
    simpa using this
  by_cases h0 : m = 0
  · subst h0
    simp at hp
    have hr0 : Array.range 0 = (#[] : Array Nat) := rfl
    simp [execOp, Instr.buildSlice, run_underlying hT.1, sizeOf, typeInfo, hi, his, newRow, hr0, hp]
  · have hr1 : (zeroValue e).run P w = .ok zv w := by simp [zeroValue, typeInfo, hi, hiz]
    simp [execOp, Instr.buildSlice, run_underlying hT.1, sizeOf, typeInfo, hi, his, hle, h0, hr1, hzc, newRow]
    have hz' : (Array.range m).map (fun x => [zv][x % 1]?.getD default) = (List.replicate m zv).toArray := by
      rw [← hz]
      refine congrArg (fun g => Array.map g (Array.range m)) (funext fun x => ?_)
      simp
    rw [hz']
    simp at hp
    simp [hp]

/-- The entries of a literal as an owned slice, where the elements want no memory. -/
theorem own_of_bx {α : Type} {t : Ty α} (hf : t.Flat) {S : Nat → Prop} {b : Nat} {us : List Value} {xs : List α} (h : bx b us S w) (hl : us.length ≤ maxLen) (hx : us.length = xs.length) (hr : ∀ (i : Nat) u x, us[i]? = some u → xs[i]? = some x → t.rep w u x) :
    t.sl.own S w (.slice (some ⟨b, 0, none⟩) xs.length xs.length) xs := by
  obtain ⟨hS, T', hb⟩ := h
  refine .inr ⟨b, xs.length, us.toArray, T', fun _ _ => False, rfl, hS, hb, by simpa using hx, Nat.le_refl _, by omega, fun _ _ h => h.elim, fun _ _ _ h => h.elim, fun i x hxi => ?_⟩
  have hi : i < us.length := by rw [hx]; exact (List.getElem?_eq_some_iff.1 hxi).1
  exact ⟨us[i], by simp [hi], hf _ _ _ _ (hr i _ x (List.getElem?_eq_getElem hi) hxi)⟩

theorem mk_litFlat {α : Type} {t : Ty α} (hf : t.Flat) {ps : Array (Nat × Operand)} {st e : TypeId} {zv : Value} {bytes m : Nat} {us : List Value} (xs : List α) (hT : SlE P st e zv bytes) (hzc : zv.cells = #[zv]) (hm : m ≤ 4096)
    (hp : Instr.fill (fun i => some (i * 1, 1)) (List.replicate m zv).toArray (ps.map fun (i, x) => (i, ev f x)).toList = some us.toArray) (hl : us.length = m) (hxs : xs.length = m) (hr : ∀ (i : Nat) u x, us[i]? = some u → xs[i]? = some x → t.rep w u x) :
    ∃ v w', OpV P (.buildSlice st m ps) T f w v w' ∧ Ext w w' ∧ Sep w.heap.size w' [t.sl.at v xs] := by
  refine ⟨_, _, mk_lit hT hzc hm hp hl, Ext.alloc w _, ?_⟩
  refine Sep.one (S := fun b => b = w.heap.size) ?_ (Ty.at_local _ _ _) (fun b hb => by subst hb; simp)
  have h := own_of_bx (w := w.alloc (.cells us.toArray e)) hf (S := fun b => b = w.heap.size) (b := w.heap.size) (us := us) (xs := xs) ⟨rfl, e, heap_alloc_new w _⟩ (by simp [maxLen]; omega) (by omega)
    (fun i u x hu hx => t.lift (Ext.alloc w _) (hr i u x hu hx))
  rw [hxs] at h
  exact h

/-! ### append -/

theorem oneCell_of {v : Value} (h : v.oneCell' = true) : v.cells = #[v] := by cases v <;> simp_all [Value.oneCell', Value.cells]

/-- append, the memory told by blocks. -/
theorem run_app {st ty e : TypeId} {zv : Value} {bytes : Nat} (hT : SlE P st e zv bytes) (hzc : zv.cells = #[zv]) (hby : bytes ≤ 64) (v : Value) (ob : Option Nat) (nl : Nat) (olds news : List Value) (p2 : Option Addr) (c2 : Nat)
    (hv : (∃ p, v = .slice p 0 0 ∧ nl = 0 ∧ ob = none) ∨ ∃ b c vs T', ob = some b ∧ v = .slice (some ⟨b, 0, none⟩) nl c ∧ w.heap[b]? = some (.cells vs T' (0, 0)) ∧ vs.size = c ∧ nl ≤ c ∧ c ≤ maxLen ∧ vs.toList.take nl = olds)
    (hol : olds.length = nl) (hp2 : news ≠ [] → p2 ≠ none) (hnews : ∀ (j : Nat) u, news[j]? = some u → w.cell? (elA (.slice p2 news.length c2) j) = some u) (h1 : ∀ u ∈ news, u.oneCell' = true)
    (hm : nl + news.length ≤ 1099511627776) :
    ∃ v' w', (Builtin.append_ #[st, st] ty #[v, .slice p2 news.length c2]).run P w = .ok v' w' ∧ w'.os = w.os ∧ w'.tape = w.tape ∧ w'.output = w.output ∧ w.heap.size ≤ w'.heap.size ∧
      (∀ k, k < w.heap.size → ob ≠ some k → w'.heap[k]? = w.heap[k]?) ∧
      ((∃ p, v' = .slice p 0 0 ∧ nl + news.length = 0) ∨ ∃ b c vs T', v' = .slice (some ⟨b, 0, none⟩) (nl + news.length) c ∧ (ob = some b ∨ w.heap.size ≤ b) ∧ b < w'.heap.size ∧ w'.heap[b]? = some (.cells vs T' (0, 0)) ∧ vs.size = c ∧ nl + news.length ≤ c ∧ c ≤ maxLen ∧
        ∀ i, i < nl + news.length → vs[i]? = (olds ++ news)[i]?) := by
  obtain ⟨i, hi, hiz, his, hib⟩ := hT.info
  subst hib
  have hb64 : (nl + news.length) * i.bytes ≤ 140737488355328 := by
    have := Nat.mul_le_mul hm hby
    omega
  have hcapmax : ∀ old, grownCap w (nl + news.length) old e ≤ maxLen := fun old => grownCap_le_maxLen w _ _ _ (by simp [maxLen]; omega)
  have hcapge : ∀ old, nl + news.length ≤ grownCap w (nl + news.length) old e := fun old => grownCap_ge w _ _ _
  have hfresh : ∀ (old : Nat) (cs : Array Value), cs = (olds.toArray ++ news.toArray ++ Builtin.zeroCells zv.cells (grownCap w (nl + news.length) old e - (nl + news.length))) →
      ∃ b c vs T', (Value.slice (some ⟨w.heap.size, 0, none⟩) (nl + news.length) (grownCap w (nl + news.length) old e)) = .slice (some ⟨b, 0, none⟩) (nl + news.length) c ∧ (ob = some b ∨ w.heap.size ≤ b) ∧ b < (w.drew.alloc (.cells cs e)).heap.size ∧
        (w.drew.alloc (.cells cs e)).heap[b]? = some (.cells vs T' (0, 0)) ∧ vs.size = c ∧ nl + news.length ≤ c ∧ c ≤ maxLen ∧ ∀ i, i < nl + news.length → vs[i]? = (olds ++ news)[i]? := by
    intro old cs hcs
    refine ⟨w.heap.size, _, cs, e, rfl, .inr (Nat.le_refl _), by simp, heap_alloc_new w.drew _, ?_, hcapge old, hcapmax old, fun k hk => ?_⟩
    · rw [hcs]
      have := hcapge old
      simp [size_zeroCells, hzc, hol]
      omega
    · rw [hcs, Array.getElem?_append, if_pos (by simp [hol]; omega)]
      rw [← Array.getElem?_toList]
      simp
  rcases hv with ⟨p, rfl, rfl, rfl⟩ | ⟨b, c, vs, T', rfl, rfl, hb, hvs, hnc, hcm, htake⟩
  · have ho : olds = [] := List.eq_nil_of_length_eq_zero hol
    subst ho
    cases hnn : news with
    | nil =>
      subst hnn
      refine ⟨.slice p 0 0, w, ?_, rfl, rfl, rfl, Nat.le_refl _, fun _ _ _ => rfl, .inl ⟨p, rfl, rfl⟩⟩
      cases p <;> cases p2 <;> simp [Builtin.append_, run_underlying hT.1, sizeOf, typeInfo, hi, Builtin.lenOf, Builtin.firstCells, loadCells, loadCellsFrom, storeCells]
    | cons u us =>
      rw [← hnn]
      have hne : news ≠ [] := by rw [hnn]; simp
      cases p2 with
      | none => exact absurd rfl (hp2 hne)
      | some ad =>
        have hpos : 0 < news.length := List.length_pos_iff.2 hne
        have hf := hfresh 0 _ rfl
        simp only [Nat.zero_add] at hf ⊢
        cases p with
        | none =>
          have hr := run_append_nil (P := P) w st ty e i zv hT.1 hi hiz ad news.length c2 news (by rw [his]; omega) (fun j u hu => hnews j u hu) hpos (by omega) (by simp only [Nat.zero_add] at hb64; omega)
          refine ⟨_, _, hr, rfl, rfl, rfl, by simp, fun k hk _ => Below.heap_alloc w.drew _ k hk, .inr ?_⟩
          have e1 : ([] : List Value).toArray ++ news.toArray = news.toArray := by simp
          rw [e1] at hf
          exact hf
        | some a0 =>
          have hr := run_append_grow (P := P) w st ty e i zv hT.1 hi hiz a0 0 0 [] (by simp) (fun j u hu => by simp at hu) ad news.length c2 news (by rw [his]; omega) (fun j u hu => hnews j u hu) (by omega) (by omega) (growslice_fits (by omega) hb64)
          simp only [Nat.zero_add] at hr
          exact ⟨_, _, hr, rfl, rfl, rfl, by simp, fun k hk _ => Below.heap_alloc w.drew _ k hk, .inr (by
            have e1 : ([] : List Value).toArray ++ news.toArray = news.toArray := by simp
            simpa using hf)⟩
  · by_cases hroom : nl + news.length ≤ c
    · have hrun : ∃ w', (Builtin.append_ #[st, st] ty #[.slice (some ⟨b, 0, none⟩) nl c, .slice p2 news.length c2]).run P w = .ok (.slice (some ⟨b, 0, none⟩) (nl + news.length) c) w' ∧ w' = w.setRow b (vs.toList.take nl ++ news ++ vs.toList.drop (nl + news.length)).toArray := by
        have hst := run_storeCells_at P b nl T' news 0 vs w hb (by omega) h1
        simp only [Nat.add_zero] at hst
        cases p2 with
        | none =>
          have hnn : news = [] := by
            cases news with
            | nil => rfl
            | cons u us => exact absurd rfl (hp2 (by simp))
          subst hnn
          refine ⟨_, ?_, rfl⟩
          have h0 : nl ≤ c := hnc
          simp [Builtin.append_, run_underlying hT.1, sizeOf, typeInfo, hi, his, Builtin.lenOf, Builtin.firstCells, h0, storeCells]
          rw [setRow_self w b vs T' (0, 0) hb]
        | some ad =>
          have hfc := run_firstCells_some (P := P) w i.size news.length ad news.length c2 news (by rw [his]; omega) (fun j u hu => hnews j u hu)
          rw [his] at hfc
          refine ⟨_, ?_, rfl⟩
          have hadd : (⟨b, 0, none⟩ : Addr).add nl = ⟨b, nl, none⟩ := by unfold Addr.add; split <;> simp_all
          simp [Builtin.append_, run_underlying hT.1, sizeOf, typeInfo, hi, his, Builtin.lenOf, hroom, hfc, hadd, hst]
      obtain ⟨w', hr, rfl⟩ := hrun
      have hheap := setRow_heap w b vs (vs.toList.take nl ++ news ++ vs.toList.drop (nl + news.length)).toArray T' (0, 0) hb
      refine ⟨_, _, hr, rfl, rfl, rfl, by simp [World.setRow], fun k hk hne => setRow_other w b k _ (fun e => hne (by rw [e])), .inr ⟨b, c, _, T', rfl, .inl rfl, ?_, hheap, ?_, hroom, hcm, fun k hk => ?_⟩⟩
      · exact (Array.getElem?_eq_some_iff.1 hheap).1
      · have : vs.toList.length = c := by simpa using hvs
        simp
        omega
      · rw [htake]
        simp only [List.getElem?_toArray]
        rw [List.getElem?_append_left (by simp [hol]; omega)]
    · have hp2' : news ≠ [] := by intro e; subst e; simp at hroom; omega
      cases p2 with
      | none => exact absurd rfl (hp2 hp2')
      | some ad =>
        have holds : ∀ (j : Nat) u, olds[j]? = some u → w.cell? ((⟨b, 0, none⟩ : Addr).add j) = some u := by
          intro j u hu
          have hadd : (⟨b, 0, none⟩ : Addr).add j = ⟨b, j, none⟩ := by unfold Addr.add; split <;> simp_all
          rw [hadd]
          rw [← htake, List.getElem?_take] at hu
          split at hu
          · simp [World.cell?, hb, ← Array.getElem?_toList, hu]
          · cases hu
        have hr := run_append_grow (P := P) w st ty e i zv hT.1 hi hiz ⟨b, 0, none⟩ nl c olds (by rw [his]; omega) holds ad news.length c2 news (by rw [his]; omega) (fun j u hu => hnews j u hu) (by omega) (by omega) (growslice_fits (by omega) hb64)
        exact ⟨_, _, hr, rfl, rfl, rfl, by simp, fun k hk _ => Below.heap_alloc w.drew _ k hk, .inr (hfresh c _ rfl)⟩

/-- What an owned slice is, for append's law. -/
theorem own_parts {α : Type} {t : Ty α} {S : Nat → Prop} {v : Value} {l : List α} (h : t.sl.own S w v l) :
    ∃ olds ob, olds.length = l.length ∧ ((∃ p, v = .slice p 0 0 ∧ l.length = 0 ∧ ob = none) ∨ ∃ b c vs T', ob = some b ∧ v = .slice (some ⟨b, 0, none⟩) l.length c ∧ w.heap[b]? = some (.cells vs T' (0, 0)) ∧ vs.size = c ∧ l.length ≤ c ∧ c ≤ maxLen ∧ vs.toList.take l.length = olds) ∧
      (∀ k, ob = some k → S k) ∧ ∃ Ss : Nat → Nat → Prop, (∀ i b', Ss i b' → S b' ∧ ob ≠ some b') ∧ (∀ i j b', Ss i b' → Ss j b' → i = j) ∧ ∀ (i : Nat) x, l[i]? = some x → ∃ u, olds[i]? = some u ∧ t.own (Ss i) w u x := by
  rcases h with ⟨p, rfl, rfl⟩ | ⟨b, c, vs, T', Ss, rfl, h2, h3, h4, h5, h6, h7, h8, h9⟩
  · exact ⟨[], none, rfl, .inl ⟨p, rfl, rfl, rfl⟩, fun k hk => by simp at hk, fun _ _ => False, fun _ _ h => h.elim, fun _ _ _ h => h.elim, fun i x h => by simp at h⟩
  · refine ⟨vs.toList.take l.length, some b, by simp; omega, .inr ⟨b, c, vs, T', rfl, rfl, h3, h4, h5, h6, rfl⟩, fun k hk => by simp at hk; subst hk; exact h2, Ss, fun i b' hb' => ⟨(h7 i b' hb').1, fun e => (h7 i b' hb').2 (by simpa using e.symm)⟩, h8, fun i x hx => ?_⟩
    obtain ⟨u, hu, hE⟩ := h9 i x hx
    exact ⟨u, by rw [List.getElem?_take, if_pos (List.getElem?_eq_some_iff.1 hx).1]; simpa using hu, hE⟩

theorem St.append {α : Type} {t : Ty α} (hf : t.Flat) {s x : Operand} {st e : TypeId} {zv : Value} {bytes k : Nat} {v v2 : Value} {l xs : List α} (h : St w0 w As) (hk : As[k]? = some (t.sl.at v l)) (hT : SlE P st e zv bytes) (hzc : zv.cells = #[zv]) (hby : bytes ≤ 64)
    (hs : ev f s = v) (hx : ev f x = v2) (hr : t.sl.rep w v2 xs) (hm : l.length + xs.length ≤ 1099511627776) :
    ∃ v' w', OpV P (.call { callee := .builtin .append, args := #[s, x], argTypes := #[st, st] }) T f w v' w' ∧ St w0 w' (As.set k (t.sl.at v' (l ++ xs))) ∧ w.heap.size ≤ w'.heap.size := by
  refine h.updE (A' := fun v' => t.sl.at v' (l ++ xs)) k hk (fun v => Ty.at_local _ _ _) fun S hA hS => ?_
  obtain ⟨p2, c2, hv2, hlc2, hcm2, hp2, hel2⟩ := hr
  subst hv2
  -- the cells of what is appended
  obtain ⟨news, hnl, hnews⟩ : ∃ news : List Value, news.length = xs.length ∧ ∀ (i : Nat) x, xs[i]? = some x → ∃ u, news[i]? = some u ∧ w.cell? (elA (.slice p2 xs.length c2) i) = some u ∧ t.rep w u x := by
    refine ⟨(List.range xs.length).map fun i => (w.cell? (elA (.slice p2 xs.length c2) i)).getD undef, by simp, fun i x hx => ?_⟩
    obtain ⟨u, hu, hE⟩ := hel2 i x hx
    exact ⟨u, by simp [(List.getElem?_eq_some_iff.1 hx).1, hu], hu, hE⟩
  obtain ⟨olds, ob, hol, hparts, hown, Ss, hSs, hinj, hels⟩ := own_parts hA
  have hnews' : ∀ (j : Nat) u, news[j]? = some u → w.cell? (elA (.slice p2 news.length c2) j) = some u := by
    intro j u hu
    have hj : j < xs.length := by rw [← hnl]; exact (List.getElem?_eq_some_iff.1 hu).1
    obtain ⟨u', h1, h2, _⟩ := hnews j _ (List.getElem?_eq_getElem hj)
    rw [hu] at h1; cases h1
    rw [hnl]; exact h2
  have h1 : ∀ u ∈ news, u.oneCell' = true := by
    intro u hu
    obtain ⟨j, hj, rfl⟩ := List.getElem_of_mem hu
    obtain ⟨u', h1, _, h3⟩ := hnews j _ (List.getElem?_eq_getElem (by omega))
    rw [List.getElem?_eq_getElem hj] at h1; cases h1
    exact t.one h3
  obtain ⟨v', w', hrun, hos, htape, hout, hsz, hsame, hres⟩ := run_app (w := w) (ty := T) hT hzc hby v ob l.length olds news p2 c2 hparts hol (fun hne => hp2 (fun e => hne (List.eq_nil_of_length_eq_zero (by rw [hnl, e]; rfl)))) hnews' h1 (by rw [hnl]; exact hm)
  refine ⟨v', w', fun _ _ _ _ => ?_, hos, htape, hout, hsz, fun b hb hn => hsame b hb (fun e => hn (hown b e)), fun b => S b ∨ (w.heap.size ≤ b ∧ b < w'.heap.size), ?_, fun b hb => ?_⟩
  · simp only [hnl] at hrun
    simp [execOp, resolve, invoke, builtin, hs, hx, hrun]
  · rcases hres with ⟨p, rfl, h0⟩ | ⟨b, c, vs, T', rfl, hbb, hbl, hheap, hvs, hlc, hcm, hcells⟩
    · left
      exact ⟨p, rfl, List.eq_nil_of_length_eq_zero (by rw [List.length_append, ← hnl]; exact h0)⟩
    · right
      have hlen : (l ++ xs).length = l.length + news.length := by rw [List.length_append, hnl]
      refine ⟨b, c, vs, T', fun i b' => i < l.length ∧ Ss i b' , by rw [hlen], ?_, hheap, hvs, by rw [hlen]; exact hlc, hcm, ?_, ?_, ?_⟩
      · rcases hbb with h' | h'
        · exact .inl (hown b h')
        · exact .inr ⟨h', hbl⟩
      · rintro i b' ⟨hi, hb'⟩
        refine ⟨.inl (hSs i b' hb').1, fun e => ?_⟩
        subst e
        rcases hbb with h' | h'
        · exact (hSs i b' hb').2 h'
        · have := (hS b' (hSs i b' hb').1).2; omega
      · rintro i j b' ⟨_, h2⟩ ⟨_, h4⟩; exact hinj i j b' h2 h4
      · intro i x hx
        have hil : i < l.length + news.length := by rw [← hlen]; exact (List.getElem?_eq_some_iff.1 hx).1
        rw [hcells i hil]
        rw [List.getElem?_append] at hx
        by_cases hi : i < l.length
        · rw [if_pos hi] at hx
          obtain ⟨u, hu, hE⟩ := hels i x hx
          refine ⟨u, by rw [List.getElem?_append_left (by omega)]; exact hu, ?_⟩
          have := t.mono (S' := fun b' => i < l.length ∧ Ss i b') (fun b' hb' => ⟨hi, hb'⟩) hE
          refine t.loc (fun b' hb' => hsame b' (hS b' (hSs i b' hb'.2).1).2 (hSs i b' hb'.2).2) this
        · rw [if_neg hi] at hx
          obtain ⟨u, hu, hcell, hE⟩ := hnews _ x hx
          refine ⟨u, by rw [List.getElem?_append_right (by omega), hol]; exact hu, hf _ _ _ _ ?_⟩
          have hflat := hf (fun _ => False) w u x hE
          exact t.toRep (t.loc (S := fun _ => False) (fun _ h => h.elim) hflat)
  · rcases hb with hb | hb
    · exact ⟨.inl hb, by have := (hS b hb).2; omega⟩
    · exact ⟨.inr hb.1, hb.2⟩
end
end Go.VG
