/- Maps of whole numbers: made, read, written, gone through in whatever order. No condition. -/
import Derived.Test.YtbgebkgpodgjdaaVgCopy
import Derived.Maps.RangeRun
import Derived.Carry
set_option linter.all false
namespace Go.VG
open Go.RowKit (Below)
open Go.ChangeMaps (setBlock)

def mpL (off : Nat) : List (Int × Int) → List MapEntry
  | [] => []
  | p :: l => { key := .int .i64 p.1, val := .int .i64 p.2, born := off } :: mpL (off + 1) l
def mpE (l : List (Int × Int)) : Array MapEntry := (mpL 0 l).toArray
/-- The place of a key. -/
def mpAt : List (Int × Int) → Int → Option Nat
  | [], _ => none
  | p :: l, k => if k = p.1 then some 0 else (mpAt l k).map (· + 1)
def mpGet (l : List (Int × Int)) (k : Int) : Int := match mpAt l k with | some i => (l.getD i (0, 0)).2 | none => 0
def mpPut (l : List (Int × Int)) (k v : Int) : List (Int × Int) := match mpAt l k with | some i => l.set i (k, v) | none => l ++ [(k, v)]

theorem mpL_len (l : List (Int × Int)) : ∀ off, (mpL off l).length = l.length := by
  induction l with
  | nil => intro off; rfl
  | cons p l ih => intro off; simp [mpL, ih]
theorem mpL_get (l : List (Int × Int)) : ∀ off i, (mpL off l)[i]? = (l[i]?).map fun p => ({ key := .int .i64 p.1, val := .int .i64 p.2, born := off + i } : MapEntry) := by
  induction l with
  | nil => intro off i; rfl
  | cons p l ih =>
    intro off i
    cases i with
    | zero => rfl
    | succ i =>
      simp only [mpL, List.getElem?_cons_succ, ih]
      have : off + 1 + i = off + (i + 1) := by omega
      rw [this]
theorem mpL_app (l m : List (Int × Int)) : ∀ off, mpL off (l ++ m) = mpL off l ++ mpL (off + l.length) m := by
  induction l with
  | nil => intro off; simp [mpL]
  | cons p l ih =>
    intro off
    simp only [List.cons_append, mpL, ih, List.length_cons]
    have : off + 1 + l.length = off + (l.length + 1) := by omega
    rw [this]
theorem mpAt_some {l : List (Int × Int)} {k : Int} : ∀ {i : Nat}, mpAt l k = some i → i < l.length ∧ (l.getD i (0, 0)).1 = k := by
  induction l with
  | nil => intro i h; cases h
  | cons p l ih =>
    intro i h
    unfold mpAt at h
    split at h
    · rename_i e; cases h; exact ⟨by simp, by simp [e]⟩
    · cases hm : mpAt l k with
      | none => rw [hm] at h; cases h
      | some j =>
        rw [hm] at h; cases h
        obtain ⟨h1, h2⟩ := ih hm
        exact ⟨by simp; omega, by simpa using h2⟩
theorem mpAt_none {l : List (Int × Int)} {k : Int} : mpAt l k = none → ∀ p ∈ l, p.1 ≠ k := by
  induction l with
  | nil => intro _ p hp; cases hp
  | cons q l ih =>
    intro h p hp
    unfold mpAt at h
    split at h
    · cases h
    · rename_i hne
      have hm : mpAt l k = none := by
        cases hm : mpAt l k with
        | none => rfl
        | some j => rw [hm] at h; cases h
      cases hp with
      | head => exact fun e => hne e.symm
      | tail _ hp => exact ih hm p hp
theorem findNow_mp (k : Int) (l : List (Int × Int)) : ∀ off i, Instr.findNow (.int .i64) (.int .i64 k) (mpL off l) i = some ((mpAt l k).map fun j => (i + j, Value.int .i64 (l.getD j (0, 0)).2)) := by
  induction l with
  | nil => intro off i; rfl
  | cons p l ih =>
    intro off i
    simp only [mpL, Instr.findNow, Instr.sameNow, if_true]
    by_cases e : k = p.1
    · subst e
      simp [mpAt]
    · have : (k == p.1) = false := by simp [e]
      simp only [this, ih, mpAt, if_neg e]
      cases mpAt l k with
      | none => rfl
      | some j => simp; omega

/-- A map of whole numbers. -/
def Ty.mp : Ty (List (Int × Int)) where
  own := fun S w v l => ∃ b, v = .map (some b) ∧ S b ∧ w.heap[b]? = some (.map (mpE l) l.length) ∧ ∀ p ∈ l, InR .i64 p.1 ∧ InR .i64 p.2
  rep := fun w v l => ∃ b, v = .map (some b) ∧ w.heap[b]? = some (.map (mpE l) l.length) ∧ ∀ p ∈ l, InR .i64 p.1 ∧ InR .i64 p.2
  loc := fun hb ⟨b, h1, h2, h3, h4⟩ => ⟨b, h1, h2, (hb b h2).trans h3, h4⟩
  mono := fun hs ⟨b, h1, h2, h3⟩ => ⟨b, h1, hs b h2, h3⟩
  toRep := fun ⟨b, h1, _, h3⟩ => ⟨b, h1, h3⟩
  ext := fun hb ⟨b, h1, h3, h4⟩ => ⟨b, h1, (hb b (Array.getElem?_eq_some_iff.1 h3).1).trans h3, h4⟩
  one := fun ⟨_, h, _⟩ => by rw [h]; rfl
structure MpT (P : Program) (T k e : TypeId) : Prop where
  map : P.underlying T = some (.map k e)
  key : P.underlying k = some (.int .i64)
  zer : (P.info? e).map (·.zero) = some (some (.int .i64 0))

section
variable {P : Program} {n : Nat} {Q : Post} {f : Fr} {w w0 : World} {T : TypeId} {As : List Ent} {ops : Array Oper} {rest : List Oper} {pos : String} {after : Array Edge}
theorem isKey_mp (k : Int) : MapKept.IsKey (.int .i64) (.int .i64 k) := rfl

theorem op_mpGet {t kt et : TypeId} {x i : Operand} {v : Value} {l : List (Int × Int)} {k : Int} (hT : MpT P t kt et) (h : Ty.mp.rep w v l) (hx : ev f x = v) (hi : ev f i = .int .i64 k) :
    OpV P (.lookup t x i false) T f w (.int .i64 (mpGet l k)) w := fun _ _ _ _ => by
  obtain ⟨b, rfl, hb, _⟩ := h
  have hfk := MapKept.run_findKey (P := P) (w := w) hT.key (findNow_mp k l 0 0)
  have hck : (Instr.checkKey (mpE l).isEmpty 10000 kt (.int .i64 k)).run P w = .ok () w := MapKept.run_checkKey (P := P) (w := w) hT.key (isKey_mp k) (mpE l).isEmpty 9999
  have hlist : (mpE l).toList = mpL 0 l := by simp [mpE]
  rw [← hlist] at hfk
  have hz : (zeroValue et).run P w = .ok (.int .i64 0) w := by
    have hz := hT.zer
    cases hi' : P.info? et with
    | none => rw [hi'] at hz; cases hz
    | some inf =>
      rw [hi'] at hz
      have : inf.zero = some (.int .i64 0) := by simpa using hz
      simp [zeroValue, typeInfo, hi', this]
  have key : (Instr.lookup t (.map (some b)) (.int .i64 k) false).run P w = .ok (.int .i64 (mpGet l k)) w := by
    unfold mpGet
    cases hm : mpAt l k with
    | none =>
      rw [hm] at hfk
      simp [Instr.lookup, run_underlying hT.map, MapKept.run_getObj_map hb, Result.andThen, hck, hfk, hz]
    | some j =>
      rw [hm] at hfk
      simp [Instr.lookup, run_underlying hT.map, MapKept.run_getObj_map hb, Result.andThen, hck, hfk]
  simp [execOp, hx, hi, key]
theorem op_mpLen {t kt et : TypeId} {x : Operand} {v : Value} {l : List (Int × Int)} (hT : MpT P t kt et) (h : Ty.mp.rep w v l) (hx : ev f x = v) :
    OpV P (.call { callee := .builtin .len, args := #[x], argTypes := #[t] }) T f w (.int .i64 (l.length : Int)) w := fun _ _ _ _ => by
  obtain ⟨b, rfl, hb, _⟩ := h
  have hsz : (mpE l).size = l.length := by simp [mpE, mpL_len]
  have key : (Builtin.len_ #[t] T #[.map (some b)]).run P w = .ok (.int .i64 (l.length : Int)) w := by
    simp [Builtin.len_, run_underlying hT.map, MapKept.run_getObj_map hb, Result.andThen, hsz]
    try rfl
  simp [execOp, resolve, invoke, builtin, hx, key]
theorem mp_new (w : World) : Sep w.heap.size (w.alloc (.map #[] 0)) [Ty.mp.at (.map (some w.heap.size)) []] :=
  Sep.one (S := fun b => b = w.heap.size) ⟨_, rfl, rfl, heap_alloc_new w _, fun p hp => by cases hp⟩ (Ty.at_local _ _ _) (fun b hb => by subst hb; simp)
theorem WL.makeMap {t : TypeId} {d : Nat} (h : St w0 w As) (hd : Nat.blt d n = true)
    (k : ∀ v w', St w0 w' (As ++ [Ty.mp.at v []]) → Ext w w' → WL P n ops Q rest (upd f d v) w') :
    WL P n ops Q (⟨some d, .makeMap t none, T, pos, after, none⟩ :: rest) f w := by
  have ho : OpV P (.makeMap t none) T f w (.map (some w.heap.size)) (w.alloc (.map #[] 0)) := fun _ _ _ _ => by
    have : (Instr.makeMap t none).run P w = .ok (.map (some w.heap.size)) (w.alloc (.map #[] 0)) := rfl
    simp [execOp, this]
  exact WL.val _ _ ho hd (k _ _ (h.join (Ext.alloc w _) (mp_new w)) (Ext.alloc w _))

theorem mpE_set {l : List (Int × Int)} {j : Nat} (hj : j < l.length) (k v : Int) (hk : (l.getD j (0, 0)).1 = k) : (mpE l).modify j (fun e => { e with key := .int .i64 k, val := .int .i64 v }) = mpE (l.set j (k, v)) := by
  apply Array.ext_getElem?
  intro i
  simp only [mpE, Array.getElem?_modify, List.getElem?_toArray, mpL_get, List.getElem?_set]
  by_cases e : j = i
  · subst e
    simp [hj, List.getElem?_eq_getElem hj]
  · simp [e]
theorem mpE_push (l : List (Int × Int)) (k v : Int) : (mpE l).push { key := .int .i64 k, val := .int .i64 v, born := l.length } = mpE (l ++ [(k, v)]) := by
  simp [mpE, mpL_app, mpL]
theorem WL.mapUpdate {t kt et : TypeId} {m i x : Operand} {k : Nat} {v : Value} {l : List (Int × Int)} {a c : Int} (h : St w0 w As) (hk : As[k]? = some (Ty.mp.at v l)) (hT : MpT P t kt et) (hm : ev f m = v) (hi : ev f i = .int .i64 a) (hx : ev f x = .int .i64 c) (ra : InR .i64 a) (rc : InR .i64 c)
    (kk : ∀ w', St w0 w' (As.set k (Ty.mp.at v (mpPut l a c))) → WL P n ops Q rest f w') :
    WL P n ops Q (⟨none, .mapUpdate t m i x, T, pos, after, none⟩ :: rest) f w := by
  obtain ⟨b, hv, hb, hr⟩ := h.rep (t := Ty.mp) k hk
  have hfk := MapKept.run_findKey (P := P) (w := w) hT.key (findNow_mp a l 0 0)
  have hck : (Instr.checkKey false 10000 kt (.int .i64 a)).run P w = .ok () w := MapKept.run_checkKey (P := P) (w := w) hT.key (isKey_mp a) false 9999
  have hlist : (mpE l).toList = mpL 0 l := by simp [mpE]
  rw [← hlist] at hfk
  have key : (Instr.mapUpdate t (.map (some b)) (.int .i64 a) (.int .i64 c)).run P w = .ok () { w with heap := w.heap.setIfInBounds b (.map (mpE (mpPut l a c)) (mpPut l a c).length) } := by
    unfold mpPut
    cases hm : mpAt l a with
    | none =>
      simp only [hm, Option.map_none] at hfk
      simp [Instr.mapUpdate, run_underlying hT.map, MapKept.run_getObj_map hb, hck, hfk, MapKept.run_setObj_map _ hb, Result.andThen, mpE_push]
    | some j =>
      simp only [hm, Option.map_some, Nat.zero_add] at hfk
      obtain ⟨hj, hjk⟩ := mpAt_some hm
      have hge : (mpE l)[j]? = some { key := .int .i64 (l.getD j (0, 0)).1, val := .int .i64 (l.getD j (0, 0)).2, born := j } := by
        simp [mpE, mpL_get, List.getElem?_eq_getElem hj]
      rw [hjk] at hge
      simp [Instr.mapUpdate, run_underlying hT.map, MapKept.run_getObj_map hb, hck, hfk, hge, MapKept.run_keyThatStays (isKey_mp a), MapKept.run_setObj_map _ hb, Result.andThen]
      rw [mpE_set hj a c hjk]
  have hs := MapKept.heap_set (o' := .map (mpE (mpPut l a c)) (mpPut l a c).length) hb
  subst hv
  refine WL.skp { w with heap := w.heap.setIfInBounds b (.map (mpE (mpPut l a c)) (mpPut l a c).length) } (fun _ _ _ _ => by simp only [execOp, hm, hi, hx, Sem.run_bind, key, Result.andThen_ok]; rfl) (kk _ (h.upd k hk (Ty.at_local _ _ _) rfl rfl rfl (by simp) fun S hA hS => ?_))
  obtain ⟨b', e1, e2, e3, e4⟩ := hA
  cases e1
  refine ⟨fun b' _ hn => hs.2 b' (fun e => hn (e ▸ e2)), S, ⟨b, rfl, e2, hs.1, fun p hp => ?_⟩, fun b' hb' => ⟨.inl hb', by simpa using (hS b' hb').2⟩⟩
  unfold mpPut at hp
  split at hp
  · rcases List.mem_or_eq_of_mem_set hp with hp | rfl
    · exact e4 p hp
    · exact ⟨ra, rc⟩
  · rcases List.mem_append.1 hp with hp | hp
    · exact e4 p hp
    · simp at hp; subst hp; exact ⟨ra, rc⟩

/-! ### A map gone through -/
/-- The way through a map: whose entries have been handed out. -/
def itAt (r b N : Nat) (seen : List Nat) : Ent := fun S w => S r ∧ w.heap[r]? = some (.mapIter (some b) N seen.toArray N)
theorem itAt_local (r b N : Nat) (seen : List Nat) : Local (itAt r b N seen) := ⟨fun S w w' h ⟨h1, h2⟩ => ⟨h1, (h r h1).trans h2⟩, fun S S' w h ⟨h1, h2⟩ => ⟨h r h1, h2⟩⟩
theorem WL.range {t kt et : TypeId} {x : Operand} {d k : Nat} {v : Value} {l : List (Int × Int)} (h : St w0 w As) (hk : As[k]? = some (Ty.mp.at v l)) (hT : MpT P t kt et) (hx : ev f x = v) (hd : Nat.blt d n = true)
    (kk : ∀ r b w', v = .map (some b) → St w0 w' (As ++ [itAt r b l.length []]) → Ext w w' → WL P n ops Q rest (upd f d (.pointer (some ⟨r, 0, none⟩))) w') :
    WL P n ops Q (⟨some d, .range t x, T, pos, after, none⟩ :: rest) f w := by
  obtain ⟨b, hv, hb, hr⟩ := h.rep (t := Ty.mp) k hk
  have key := run_range_map (P := P) w t kt et b _ _ hT.map hb
  refine WL.val _ _ (fun _ _ _ _ => ?_) hd (kk w.heap.size b _ hv (h.join (Ext.alloc w _) (Sep.one (S := fun b => b = w.heap.size) ⟨rfl, heap_alloc_new w _⟩ (itAt_local _ _ _ _) (fun b hb => by subst hb; simp))) (Ext.alloc w _))
  simp [execOp, hx, hv, key]
theorem leftOf_mem {l : List (Int × Int)} {seen : List Nat} {e : MapEntry} (h : e ∈ (leftOf (mpE l) seen.toArray).toList) : ∃ i, i < l.length ∧ i ∉ seen ∧ e = { key := .int .i64 (l.getD i (0, 0)).1, val := .int .i64 (l.getD i (0, 0)).2, born := i } := by
  unfold leftOf at h
  simp only [Array.toList_filter, List.mem_filter] at h
  obtain ⟨h1, h2⟩ := h
  have hl : (mpE l).toList = mpL 0 l := by simp [mpE]
  rw [hl] at h1
  obtain ⟨i, hi⟩ := List.mem_iff_getElem?.1 h1
  rw [mpL_get] at hi
  cases hli : l[i]? with
  | none => rw [hli] at hi; cases hi
  | some p =>
    rw [hli] at hi
    simp only [Option.map_some, Option.some.injEq] at hi
    subst hi
    refine ⟨i, (List.getElem?_eq_some_iff.1 hli).1, by simpa using h2, ?_⟩
    have : l.getD i (0, 0) = p := by simp [List.getD, hli]
    rw [this]
    simp
theorem leftOf_none {l : List (Int × Int)} {seen : List Nat} (h : (leftOf (mpE l) seen.toArray).size = 0) : ∀ i, i < l.length → i ∈ seen := by
  intro i hi
  apply Decidable.byContradiction
  intro hn
  have hm : ({ key := .int .i64 (l[i]).1, val := .int .i64 (l[i]).2, born := i } : MapEntry) ∈ leftOf (mpE l) seen.toArray := by
    unfold leftOf
    rw [Array.mem_filter]
    refine ⟨?_, by simpa using hn⟩
    rw [Array.mem_def]
    have hl : (mpE l).toList = mpL 0 l := by simp [mpE]
    rw [hl]
    refine List.mem_iff_getElem?.2 ⟨i, ?_⟩
    rw [mpL_get, List.getElem?_eq_getElem hi]
    simp
  have := Array.size_pos_of_mem hm
  omega
theorem WL.next {x : Operand} {d k k2 r b : Nat} {seen : List Nat} {v : Value} {l : List (Int × Int)} (h : St w0 w As) (hk : As[k]? = some (Ty.mp.at v l)) (hk2 : As[k2]? = some (itAt r b l.length seen)) (hv : v = .map (some b)) (hx : ev f x = .pointer (some ⟨r, 0, none⟩)) (hd : Nat.blt d n = true)
    (kend : (∀ i, i < l.length → i ∈ seen) → WL P n ops Q rest (upd f d (.tuple #[.bool false])) w)
    (kstep : ∀ i w', i < l.length → i ∉ seen → St w0 w' (As.set k2 (itAt r b l.length (seen ++ [i]))) → WL P n ops Q rest (upd f d (.tuple #[.bool true, .int .i64 (l.getD i (0, 0)).1, .int .i64 (l.getD i (0, 0)).2])) w') :
    WL P n ops Q (⟨some d, .next x false, T, pos, after, none⟩ :: rest) f w := by
  obtain ⟨b', hv', hb, hr⟩ := h.rep (t := Ty.mp) k hk
  rw [hv] at hv'; cases hv'
  obtain ⟨S, ⟨_, hit⟩, _, hS⟩ := h.sep.get k2 hk2
  have hborn : ∀ x ∈ (mpE l).toList, x.born < l.length := fun x hx => by
    have hl : (mpE l).toList = mpL 0 l := by simp [mpE]
    rw [hl] at hx
    obtain ⟨i, hi⟩ := List.mem_iff_getElem?.1 hx
    rw [mpL_get] at hi
    cases hli : l[i]? with
    | none => rw [hli] at hi; cases hi
    | some p =>
      rw [hli] at hi
      simp only [Option.map_some, Option.some.injEq] at hi
      subst hi
      have := (List.getElem?_eq_some_iff.1 hli).1
      simpa using this
  rcases run_next_at (P := P) w T r b l.length l.length seen.toArray (mpE l) l.length hit hb hborn (Nat.le_refl _) with ⟨h0, hrun⟩ | ⟨e, he, w1, hw1, hrun⟩
  · exact WL.val _ w (fun _ _ _ _ => by simp [execOp, hx, hrun]) hd (kend (leftOf_none h0))
  · obtain ⟨i, hi, hns, rfl⟩ := leftOf_mem he
    have hh : (setBlock w1 r (.mapIter (some b) l.length (seen.toArray.push i) l.length)).heap = w.heap.setIfInBounds r (.mapIter (some b) l.length (seen.toArray.push i) l.length) := by
      rcases hw1 with rfl | rfl <;> rfl
    have hset := MapKept.heap_set (o' := .mapIter (some b) l.length (seen.toArray.push i) l.length) hit
    have hos : (setBlock w1 r (.mapIter (some b) l.length (seen.toArray.push i) l.length)).os = w.os ∧ (setBlock w1 r (.mapIter (some b) l.length (seen.toArray.push i) l.length)).tape = w.tape ∧ (setBlock w1 r (.mapIter (some b) l.length (seen.toArray.push i) l.length)).output = w.output := by
      rcases hw1 with rfl | rfl <;> exact ⟨rfl, rfl, rfl⟩
    refine WL.val _ _ (fun _ _ _ _ => by simp only [execOp, hx, hrun, Sem.run_bind, Result.andThen_ok]; rfl) hd (kstep i _ hi hns (h.upd k2 hk2 (itAt_local _ _ _ _) hos.1 hos.2.1 hos.2.2 (by rw [hh]; simp) fun S hA hS => ?_))
    refine ⟨fun b' _ hn => by rw [hh]; exact hset.2 b' (fun e => hn (e ▸ hA.1)), S, ⟨hA.1, by rw [hh, hset.1]; simp⟩, fun b' hb' => ⟨.inl hb', by rw [hh]; simpa using (hS b' hb').2⟩⟩
theorem op_entry {x : Operand} {k k2 r b i : Nat} {seen : List Nat} {v : Value} {l : List (Int × Int)} (h : St w0 w As) (hk : As[k]? = some (Ty.mp.at v l)) (hk2 : As[k2]? = some (itAt r b l.length (seen ++ [i]))) (hv : v = .map (some b)) (hi : i < l.length) (hx : ev f x = .pointer (some ⟨r, 0, none⟩)) :
    OpV P (.entry x) T f w (.tuple #[.int .i64 (l.getD i (0, 0)).1, .int .i64 (l.getD i (0, 0)).2]) w := fun _ _ _ _ => by
  obtain ⟨b', hv', hb, hr⟩ := h.rep (t := Ty.mp) k hk
  rw [hv] at hv'; cases hv'
  obtain ⟨S, ⟨_, hit⟩, _, hS⟩ := h.sep.get k2 hk2
  have hl : (mpE l).toList = mpL 0 l := by simp [mpE]
  have hge : (mpL 0 l)[i]? = some { key := .int .i64 (l.getD i (0, 0)).1, val := .int .i64 (l.getD i (0, 0)).2, born := i } := by
    rw [mpL_get, List.getElem?_eq_getElem hi]; simp [List.getElem?_eq_getElem hi]
  have hnd : ((mpE l).toList.map (·.born)).Nodup := by
    have : (mpE l).toList.map (·.born) = List.range l.length := by
      rw [hl]
      apply List.ext_getElem?
      intro j
      rw [List.getElem?_map, mpL_get]
      by_cases hj : j < l.length
      · simp [List.getElem?_eq_getElem hj, List.getElem?_range hj]
      · simp [List.getElem?_eq_none (by omega : l.length ≤ j)]
        omega
    rw [this]; exact List.nodup_range
  have key := run_entry_at (P := P) w r b l.length seen.toArray (mpE l) l.length { key := .int .i64 (l.getD i (0, 0)).1, val := .int .i64 (l.getD i (0, 0)).2, born := i } (by rw [hit]; simp) hb (by rw [hl]; exact List.mem_iff_getElem?.2 ⟨i, hge⟩) hnd
  simp only [execOp, hx, key, Sem.run_bind, Result.andThen_ok]
  rfl
end

/-! ### The loop through a map -/
open Classical in
/-- What a loop through a map gives, if it is all one in which order. -/
noncomputable def rangeM {R : Type} (g : Int → Int → Option (Ctl Unit R)) (l : List (Int × Int)) (r0 : R) : Option (Res Unit R) :=
  if ∀ p ∈ l, g p.1 p.2 = some (.next ()) then some (.fin ()) else if ∀ p ∈ l, g p.1 p.2 = some (.next ()) ∨ g p.1 p.2 = some (.ret r0) then some (.ret r0) else none
theorem getD_mem2 {l : List (Int × Int)} {i : Nat} (h : i < l.length) : l.getD i (0, 0) ∈ l := by
  simp [List.getD, List.getElem?_eq_getElem h]
section
variable {R : Type} {g : Int → Int → Option (Ctl Unit R)} {l : List (Int × Int)} {r0 : R} {res : Res Unit R}
theorem rangeM_some (h : rangeM g l r0 = some res) {i : Nat} (hi : i < l.length) : ∃ ct, g (l.getD i (0, 0)).1 (l.getD i (0, 0)).2 = some ct ∧ (ct = .next () ∨ (ct = .ret r0 ∧ res = .ret r0)) := by
  unfold rangeM at h
  have hm := getD_mem2 hi
  split at h
  · rename_i hall; exact ⟨_, hall _ hm, .inl rfl⟩
  · split at h
    · rename_i hall
      cases h
      rcases hall _ hm with h1 | h1
      · exact ⟨_, h1, .inl rfl⟩
      · exact ⟨_, h1, .inr ⟨rfl, rfl⟩⟩
    · cases h
theorem rangeM_end (h : rangeM g l r0 = some res) (hall : ∀ i, i < l.length → g (l.getD i (0, 0)).1 (l.getD i (0, 0)).2 = some (.next ())) : res = .fin () := by
  unfold rangeM at h
  rw [if_pos (fun p hp => by
    obtain ⟨i, hi⟩ := List.mem_iff_getElem?.1 hp
    have hl := (List.getElem?_eq_some_iff.1 hi).1
    have := hall i hl
    simpa [List.getD, hi] using this)] at h
  exact (Option.some.inj h).symm
end
section
variable {P : Program} {n : Nat} {Q : Post} {f : Fr} {w : World}
theorem W.rangeMap {R : Type} {g : Int → Int → Option (Ctl Unit R)} {l : List (Int × Int)} {r0 : R} {res : Res Unit R} {c : Code} (I : List Nat → Fr → World → Prop) (hres : rangeM g l r0 = some res) (h0 : I [] f w)
    (hstep : ∀ seen f w, I seen f w → (∀ i, i ∈ seen → g (l.getD i (0, 0)).1 (l.getD i (0, 0)).2 = some (.next ())) → W P n c (thenQ (fun f' w' => ∃ i, i < l.length ∧ i ∉ seen ∧ g (l.getD i (0, 0)).1 (l.getD i (0, 0)).2 = some (.next ()) ∧ I (seen ++ [i]) f' w') Q) f w) : W P n (.loop c) Q f w := by
  refine W.loop (fun m f w => ∃ seen, m = ((List.range l.length).filter fun j => !seen.contains j).length ∧ I seen f w ∧ ∀ i, i ∈ seen → g (l.getD i (0, 0)).1 (l.getD i (0, 0)).2 = some (.next ())) _ ⟨[], rfl, h0, fun i hi => by cases hi⟩ ?_
  rintro m f w ⟨seen, rfl, hI, hg⟩
  refine (hstep seen f w hI hg).mono fun e f' w' h => ?_
  cases e <;> try exact h
  obtain ⟨i, hi, hns, hgi, hI'⟩ := h
  refine ⟨_, ?_, seen ++ [i], rfl, hI', fun j hj => ?_⟩
  · have e1 : ((List.range l.length).filter fun j => !(seen ++ [i]).contains j) = ((List.range l.length).filter fun j => !seen.contains j).filter fun j => decide (j ≠ i) := by
      rw [List.filter_filter]
      refine List.filter_congr fun j _ => ?_
      by_cases h1 : j = i
      · subst h1; simp
      · simp [h1]
    rw [e1]
    refine List.length_filter_lt_length_iff_exists.2 ⟨i, ?_, by simp⟩
    rw [List.mem_filter]
    exact ⟨List.mem_range.2 hi, by simpa using hns⟩
  · rcases List.mem_append.1 hj with hj | hj
    · exact hg j hj
    · simp at hj; subst hj; exact hgi
theorem mp_in {v : Value} {l : List (Int × Int)} (h : Ty.mp.rep w v l) {i : Nat} (hi : i < l.length) : InR .i64 (l.getD i (0, 0)).1 ∧ InR .i64 (l.getD i (0, 0)).2 := by
  obtain ⟨b, _, _, hr⟩ := h
  exact hr _ (getD_mem2 hi)
theorem mpGet_in {v : Value} {l : List (Int × Int)} (h : Ty.mp.rep w v l) (k : Int) : InR .i64 (mpGet l k) := by
  unfold mpGet
  split
  · rename_i i hm; exact (mp_in h (mpAt_some hm).1).2
  · exact inR_i64.2 (by omega)
end
def mpLen (l : List (Int × Int)) : Option Int := if l.length ≤ 1048576000 then some (l.length : Int) else none
theorem mpLen_some {l : List (Int × Int)} {x : Int} (h : mpLen l = some x) : x = (l.length : Int) ∧ InR .i64 x := by
  unfold mpLen at h
  split at h
  · cases h; exact ⟨rfl, inR_i64.2 (by omega)⟩
  · cases h

/-! ### An array of whole numbers in a variable -/
def ArT (P : Program) (T n E : Nat) : Prop := P.underlying T = some (.array n E) ∧ (P.info? E).map (·.size) = some 1
/-- A variable that holds an array of whole numbers. -/
def Ty.ar (m : Nat) : Ty (List Int) where
  own := fun S w v l => ∃ b T, v = .pointer (some ⟨b, 0, none⟩) ∧ S b ∧ w.heap[b]? = some (.cells (l.map (Value.int .i64)).toArray T (0, 0)) ∧ (∀ x ∈ l, InR .i64 x) ∧ l.length = m
  rep := fun w v l => ∃ b T, v = .pointer (some ⟨b, 0, none⟩) ∧ w.heap[b]? = some (.cells (l.map (Value.int .i64)).toArray T (0, 0)) ∧ (∀ x ∈ l, InR .i64 x) ∧ l.length = m
  loc := fun hb ⟨b, T, h1, h2, h3, h4⟩ => ⟨b, T, h1, h2, (hb b h2).trans h3, h4⟩
  mono := fun hs ⟨b, T, h1, h2, h3⟩ => ⟨b, T, h1, hs b h2, h3⟩
  toRep := fun ⟨b, T, h1, _, h3⟩ => ⟨b, T, h1, h3⟩
  ext := fun hb ⟨b, T, h1, h3, h4⟩ => ⟨b, T, h1, (hb b (Array.getElem?_eq_some_iff.1 h3).1).trans h3, h4⟩
  one := fun ⟨_, _, h, _⟩ => by rw [h]; rfl
section
variable {P : Program} {n : Nat} {Q : Post} {f : Fr} {w w0 : World} {T : TypeId} {As : List Ent} {ops : Array Oper} {rest : List Oper} {pos : String} {after : Array Edge}
theorem St.boxAr {m b k : Nat} {l : List Int} (h : St w0 w As) (hk : As[k]? = some (bx b (l.map (Value.int .i64)))) (hr : ∀ x ∈ l, InR .i64 x) (hm : l.length = m) : St w0 w (As.set k ((Ty.ar m).at (.pointer (some ⟨b, 0, none⟩)) l)) :=
  h.upd k hk (Ty.at_local _ _ _) rfl rfl rfl (Nat.le_refl _) fun S ⟨h1, T', h2⟩ hS => ⟨fun _ _ _ => rfl, S, ⟨b, T', rfl, h1, h2, hr, hm⟩, fun b hb => ⟨.inl hb, (hS b hb).2⟩⟩
theorem ar_len {m : Nat} {v : Value} {l : List Int} (h : (Ty.ar m).rep w v l) : l.length = m := by
  obtain ⟨_, _, _, _, _, hm⟩ := h
  exact hm
theorem ar_cell {m b : Nat} {l : List Int} {i : Nat} {x : Int} (h : (Ty.ar m).rep w (.pointer (some ⟨b, 0, none⟩)) l) (hx : l[i]? = some x) : w.cell? ⟨b, i, none⟩ = some (.int .i64 x) ∧ InR .i64 x := by
  obtain ⟨b', T', e, hb, hr, _⟩ := h
  cases e
  exact ⟨by simp [World.cell?, hb, hx], hr x (List.mem_of_getElem? hx)⟩
theorem op_idxAr {x i : Operand} {t e n b : Nat} {k : IntKind} {j : Int} {l : List Int} (ht : ArT P t n e) (hl : l.length = n) (hx : ev f x = .pointer (some ⟨b, 0, none⟩)) (hi : ev f i = .int k j) (h0 : 0 ≤ j) (h1 : j < l.length) :
    OpV P (.indexAddr t x i) T f w (.pointer (some ⟨b, j.toNat, none⟩)) w := fun _ _ _ _ => by
  obtain ⟨hu, hs⟩ := ht
  cases hinf : P.info? e with
  | none => simp [hinf] at hs
  | some inf =>
    have hs' : inf.size = 1 := by simpa [hinf] using hs
    have h1' : j < (n : Int) := by omega
    simp [execOp, Instr.indexAt, hx, hi, asIntOf, run_underlying hu, h0, h1', sizeOf, typeInfo, hinf, hs', Instr.sureAddr, Addr.add]
    try omega
theorem WL.storeAr {a x : Operand} {t k b m : Nat} {l : List Int} {i y : Int} (h : St w0 w As) (hk : As[k]? = some ((Ty.ar m).at (.pointer (some ⟨b, 0, none⟩)) l)) (hsz : (P.info? t).map (·.size) = some 1) (ha : ev f a = .pointer (some ⟨b, i.toNat, none⟩)) (hx : ev f x = .int .i64 y) (hi : i.toNat < l.length) (hy : InR .i64 y)
    (kk : ∀ w', St w0 w' (As.set k ((Ty.ar m).at (.pointer (some ⟨b, 0, none⟩)) (l.set i.toNat y))) → WL P n ops Q rest f w') :
    WL P n ops Q (⟨none, .store t a x, T, pos, after, none⟩ :: rest) f w := by
  have hr := h.rep (t := Ty.ar m) k hk
  obtain ⟨hc, _⟩ := ar_cell hr (List.getElem?_eq_getElem hi)
  have hfz : w.frozen? ⟨b, i.toNat, none⟩ = false := by
    obtain ⟨b', T', e, hb, _⟩ := hr
    cases e
    simp [World.frozen?, hb]
  refine WL.skp _ (op_store (T := T) hsz ha hx rfl hc hfz) (kk _ (h.upd k hk (Ty.at_local _ _ _) rfl rfl rfl (by rw [setCell_size]; exact Nat.le_refl _) fun S hA hS => ?_))
  obtain ⟨b', T', e, h2, h3, h4, h5⟩ := hA
  cases e
  refine ⟨fun b' hb' hn => Below.heap_setCell _ _ _ _ (fun e => hn (e ▸ h2)), S, ⟨b, T', rfl, h2, ?_, fun x hx => ?_, by rw [List.length_set]; exact h5⟩, fun b' hb' => ⟨.inl hb', by rw [setCell_size]; exact (hS b' hb').2⟩⟩
  · have : (w.setCell ⟨b, i.toNat, none⟩ (.int .i64 y)).heap[b]? = some (.cells ((l.map (Value.int .i64)).toArray.setIfInBounds i.toNat (.int .i64 y)) T' (0, 0)) := by
      simp [World.setCell, Array.getElem?_modify, h3]
    rw [this]
    simp [List.map_set]
  · rcases List.mem_or_eq_of_mem_set hx with hx | rfl
    · exact h4 x hx
    · exact hy
theorem op_buildZ {t : TypeId} {m e : Nat} {zc : Array Value} (hu : P.underlying t = some (.array m e)) (hs : (P.info? e).map (·.size) = some 1) (hz : (P.info? t).map (fun i => i.zero.map (·.cells)) = some (some zc)) : OpV P (.build t #[]) T f w (.agg zc) w := fun _ _ _ _ => by
  cases hi : P.info? t with
  | none => simp [hi] at hz
  | some it =>
    cases hi2 : P.info? e with
    | none => simp [hi2] at hs
    | some ie =>
      cases hzz : it.zero with
      | none => simp [hi, hzz] at hz
      | some z =>
        have hzc : z.cells = zc := by simpa [hi, hzz] using hz
        have key : (Instr.build t #[]).run P w = .ok (.agg zc) w := by
          simp [Instr.build, zeroValue, typeInfo, hi, hzz, run_underlying hu, sizeOf, hi2, Result.andThen, Instr.fill, hzc]
        simp [execOp, key]
end
end Go.VG
