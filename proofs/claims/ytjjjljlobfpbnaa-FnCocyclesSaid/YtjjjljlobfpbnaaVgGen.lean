/- Small laws that the printed walks name: literals, arguments, counters, the state's last form. No condition. -/
import Derived.Test.YtjjjljlobfpbnaaVgWalk
import Derived.Great.FillDense
import Derived.Laws.Tables
set_option linter.all false
namespace Go.VG
open Go.RowKit (Below)

theorem wrap_id {k : IntKind} {a : Int} (h : InR k a) : k.wrap a = a := by
  obtain ⟨h1, h2⟩ := h
  cases k <;> simp [IntKind.min, IntKind.max, IntKind.wrap, IntKind.signed, IntKind.bits] at h1 h2 ⊢ <;> (try split) <;> omega
theorem w64_id {a : Int} (h : InR .i64 a) : w64 a = a := wrap_id h

section
variable {P : Program} {n : Nat} {Q : Post} {f : Fr} {w w' w0 : World} {T : TypeId} {As : List Ent}

theorem op_loadBox {a : Operand} {t m b o : Nat} {vs us : List Value} (ht : StT P t m) (ha : ev f a = .pointer (some ⟨b, o, none⟩)) (hb : BoxAt w b vs)
    (hu : (vs.drop o).take m = us) (hm : us.length = m) : OpV P (.load t a) T f w (.agg us.toArray) w := by
  obtain ⟨T', hb⟩ := hb
  exact op_loadAgg ht ha hb hu hm

/-! ### Literals of structs and of slices -/

def CellsOk : List (Nat × Value × List Value) → Prop
  | [] => True
  | (_, v, cs) :: l => v.cells = cs.toArray ∧ CellsOk l
def layL (pl : List (Nat × Nat)) : List Value → List (Nat × Value × List Value) → Option (List Value)
  | cells, [] => some cells
  | cells, (i, _, cs) :: rest => match pl[i]? with
    | none => none
    | some (off, size) => bif Nat.beq cs.length size && Nat.ble (off + cs.length) cells.length then layL pl (cells.take off ++ cs ++ cells.drop (off + cs.length)) rest else none

theorem foldl_set (off : Nat) : ∀ (cs : List Value) (k : Nat) (cells : List Value), off + k + cs.length ≤ cells.length →
    ((cs.zipIdx k).foldl (fun (a : Array Value) x => a.setIfInBounds (off + x.2) x.1) cells.toArray) = (cells.take (off + k) ++ cs ++ cells.drop (off + k + cs.length)).toArray
  | [], k, cells, h => by simp
  | c :: cs, k, cells, h => by
    simp only [List.length_cons] at h
    simp only [List.zipIdx_cons, List.foldl_cons, List.setIfInBounds_toArray, List.length_cons]
    rw [foldl_set off cs (k + 1) (cells.set (off + k) c) (by simp; omega)]
    congr 1
    apply List.ext_getElem?
    intro i
    simp only [List.getElem?_append, List.length_append, List.length_take, List.length_set, List.getElem?_take, List.getElem?_drop, List.getElem?_set, List.length_cons, List.getElem?_cons]
    repeat' split
    all_goals first | rfl | omega | (congr 1; omega) | skip

theorem fill_lay (pl : List (Nat × Nat)) : ∀ (parts : List (Nat × Value × List Value)) (cells r : List Value), CellsOk parts → layL pl cells parts = some r →
    Instr.fill (pl.toArray[·]?) cells.toArray (parts.map fun x => (x.1, x.2.1)) = some r.toArray
  | [], cells, r, _, h => by simp [layL] at h; simp [Instr.fill, h]
  | (i, v, cs) :: rest, cells, r, hc, h => by
    obtain ⟨hv, hc⟩ := hc
    simp only [layL] at h
    simp only [List.map_cons, Instr.fill, List.getElem?_toArray]
    cases hp : pl[i]? with
    | none => rw [hp] at h; cases h
    | some os =>
      obtain ⟨off, size⟩ := os
      rw [hp] at h
      simp only at h ⊢
      cases hb : (Nat.beq cs.length size && Nat.ble (off + cs.length) cells.length) with
      | false => rw [hb] at h; cases h
      | true =>
        rw [hb] at h
        simp only [Bool.and_eq_true] at hb
        have h1 : cs.length = size := Nat.eq_of_beq_eq_true hb.1
        have h2 := Nat.le_of_ble_eq_true hb.2
        have hs : v.cells.size = cs.length := by rw [hv]; simp
        have hn : (decide (v.cells.size ≠ size) || decide (off + v.cells.size > cells.toArray.size)) = false := by
          simp [hs, h1]; omega
        rw [hn]
        simp only [Bool.false_eq_true, if_false]
        have hf := foldl_set off cs 0 cells (by omega)
        rw [hv]
        have e : (cs.toArray.zipIdx.foldl (fun (a : Array Value) x => a.setIfInBounds (off + x.2) x.1) cells.toArray) = (cells.take off ++ cs ++ cells.drop (off + cs.length)).toArray := by
          rw [← Array.foldl_toList]
          simpa using hf
        have := fill_lay pl rest _ r hc h
        rw [← this]
        congr 1
        funext y; simp

def BdT (P : Program) (t : TypeId) (zc : List Value) (pl : List (Nat × Nat)) : Prop :=
  (P.info? t).map (fun i => i.zero.map (·.cells)) = some (some zc.toArray) ∧ (match P.underlying t with | some (.struct fs) => fs.toList.mapM (fun f => (P.info? f.type).map fun i => (f.offset, i.size)) | _ => none) = some pl

theorem op_build {t : TypeId} {ps : Array (Nat × Operand)} {zc cells : List Value} {pl : List (Nat × Nat)} (hb : BdT P t zc pl) {parts : List (Nat × Value × List Value)}
    (hp : (ps.map fun (i, x) => (i, ev f x)).toList = parts.map fun x => (x.1, x.2.1)) (hc : CellsOk parts) (hl : layL pl zc parts = some cells) :
    OpV P (.build t ps) T f w (.agg cells.toArray) w := fun _ _ _ _ => by
  obtain ⟨h1, h2⟩ := hb
  have hbt : P.built t (ps.map fun (i, x) => (i, ev f x)).toList = some cells.toArray := by
    unfold Program.built
    cases hi : P.info? t with
    | none => simp [hi] at h1
    | some it =>
      simp only [hi, Option.map_some, Option.some.injEq] at h1
      cases hz : it.zero with
      | none => simp [hz] at h1
      | some z =>
        simp only [hz, Option.map_some, Option.some.injEq] at h1
        cases hu : P.underlying t with
        | none => simp [hu] at h2
        | some d =>
          cases d <;> simp [hu] at h2
          rename_i fs
          have h3 := fill_lay pl parts zc cells hc hl
          simp only [h2, hp, hz]
          rw [h1]
          exact h3
  simp only [execOp]
  simp only [Sem.run_bind, run_build w t _ cells.toArray hbt, Result.andThen_ok]
  rfl

def LitOk (f : Fr) : Nat → List (Nat × Operand) → List Value → Prop
  | _, [], [] => True
  | k, (i, x) :: ps, u :: us => Nat.beq i k = true ∧ ev f x = u ∧ u.cells = #[u] ∧ LitOk f (k + 1) ps us
  | _, _, _ => False
theorem litOk_map : ∀ (ps : List (Nat × Operand)) (k : Nat) (us : List Value), LitOk f k ps us → (ps.map fun (i, x) => (i, ev f x)) = (us.zipIdx k).map (fun x => (x.2, x.1)) ∧ ∀ v ∈ us, v.cells = #[v]
  | [], k, [], _ => ⟨rfl, fun v hv => by cases hv⟩
  | (i, x) :: ps, k, u :: us, h => by
    obtain ⟨h1, h2, h3, h4⟩ := h
    have h1 := Nat.eq_of_beq_eq_true h1
    obtain ⟨e1, e2⟩ := litOk_map ps (k + 1) us h4
    refine ⟨by simp [h1, h2, e1], fun v hv => ?_⟩
    rcases List.mem_cons.1 hv with rfl | hv
    · exact h3
    · exact e2 v hv
  | [], _, _ :: _, h => h.elim
  | _ :: _, _, [], h => h.elim
theorem fillL {ps : Array (Nat × Operand)} {m : Nat} {zv : Value} {us : List Value} (hm : us.length = m) (h : LitOk f 0 ps.toList us) :
    Instr.fill (fun i => some (i * 1, 1)) (List.replicate m zv).toArray (ps.map fun (i, x) => (i, ev f x)).toList = some us.toArray := by
  obtain ⟨e1, e2⟩ := litOk_map _ _ _ h
  rw [Array.toList_map]
  refine Eq.trans (congrArg _ e1) (Great.fill_flat us _ e2 (by simp [hm]))

theorem cells_rep {α : Type} {t : Ty α} {v : Value} {x : α} (h : t.rep w v x) : v.cells = [v].toArray := oneCell_of (t.one h)
theorem all_nil : ([] : List Value).all (·.oneCell') = true := rfl
theorem all_cons {v : Value} {l : List Value} (h : v.oneCell' = true) (hl : l.all (·.oneCell') = true) : (v :: l).all (·.oneCell') = true := by
  rw [List.all_cons, h, hl]; rfl
theorem all_rep {α : Type} {t : Ty α} {v : Value} {x : α} {l : List Value} (h : t.rep w v x) (hl : l.all (·.oneCell') = true) : (v :: l).all (·.oneCell') = true := all_cons (t.one h) hl

theorem args0 {g : Operand → Value} : (#[] : Array Operand).map g = #[] := by simp
theorem args1 {x : Operand} {a : Value} (h : ev f x = a) : #[x].map (ev f) = #[a] := by simp [h]
theorem args2 {x y : Operand} {a b : Value} (h : ev f x = a) (h2 : ev f y = b) : #[x, y].map (ev f) = #[a, b] := by simp [h, h2]
theorem args3 {x y z : Operand} {a b c : Value} (h : ev f x = a) (h2 : ev f y = b) (h3 : ev f z = c) : #[x, y, z].map (ev f) = #[a, b, c] := by simp [h, h2, h3]
theorem args4 {x y z s : Operand} {a b c d : Value} (h : ev f x = a) (h2 : ev f y = b) (h3 : ev f z = c) (h4 : ev f s = d) : #[x, y, z, s].map (ev f) = #[a, b, c, d] := by simp [h, h2, h3, h4]
def PartsOk (f : Fr) : List (Nat × Operand) → List (Nat × Value × List Value) → Prop
  | [], [] => True
  | (i, x) :: ps, (j, v, _) :: l => Nat.beq i j = true ∧ ev f x = v ∧ PartsOk f ps l
  | _, _ => False
theorem parts_map : ∀ (ps : List (Nat × Operand)) (l : List (Nat × Value × List Value)), PartsOk f ps l → (ps.map fun (i, x) => (i, ev f x)) = l.map (fun x => (x.1, x.2.1))
  | [], [], _ => rfl
  | (i, x) :: ps, (j, v, cs) :: l, h => by
    obtain ⟨h1, h2, h3⟩ := h
    have h1 := Nat.eq_of_beq_eq_true h1
    simp [h1, h2, parts_map ps l h3]
  | [], _ :: _, h => h.elim
  | _ :: _, [], h => h.elim
theorem partsL {ps : Array (Nat × Operand)} {l : List (Nat × Value × List Value)} (h : PartsOk f ps.toList l) : (ps.map fun (i, x) => (i, ev f x)).toList = l.map (fun x => (x.1, x.2.1)) := by
  rw [Array.toList_map]; exact parts_map _ _ h

def ElsOk {α : Type} (t : Ty α) (w : World) : List Value → List α → Prop
  | [], [] => True
  | u :: us, x :: xs => t.rep w u x ∧ ElsOk t w us xs
  | _, _ => False
theorem litL {α : Type} {t : Ty α} : ∀ {us : List Value} {xs : List α}, ElsOk t w us xs → ∀ (i : Nat) u x, us[i]? = some u → xs[i]? = some x → t.rep w u x
  | [], [], _, i, u, x, h, _ => by simp at h
  | u0 :: us, x0 :: xs, h, 0, u, x, h1, h2 => by simp at h1 h2; subst h1; subst h2; exact h.1
  | u0 :: us, x0 :: xs, h, i + 1, u, x, h1, h2 => litL h.2 i u x (by simpa using h1) (by simpa using h2)
  | [], _ :: _, h, _, _, _, _, _ => h.elim
  | _ :: _, [], h, _, _, _, _, _ => h.elim

/-! ### Small things -/

theorem lt_of_idx {i : Int} {m : Nat} (ha : 0 ≤ i) (hb : i < m) : i.toNat < m := by omega
theorem inR_ite {k : IntKind} {c : Prop} [Decidable c] {a b : Int} (ha : InR k a) (hb : InR k b) : InR k (if c then a else b) := by split <;> assumption
theorem inegb {α : Type} {b : Bool} {x y r : α} (h : (if b = true then x else y) = r) (hb : b = false) : y = r := by subst hb; simpa using h
theorem bool_of {t : Nat} {b c : Bool} (h : f t = .bool c) (hc : c = b) : f t = .bool b := by rw [h, hc]
theorem evb_of {x : Operand} {b c : Bool} (h : ev f x = .bool c) (hc : c = b) : ev f x = .bool b := by rw [h, hc]
theorem andT {a b : Bool} (h : a = true) : Value.bool b = Value.bool (a && b) := by rw [h]; rfl
theorem andF {a b : Bool} (h : a = false) : Value.bool false = Value.bool (a && b) := by rw [h]; rfl
theorem orF {a b : Bool} (h : a = false) : Value.bool b = Value.bool (a || b) := by rw [h]; rfl
theorem orT {a b : Bool} (h : a = true) : Value.bool true = Value.bool (a || b) := by rw [h]; rfl
theorem W.condT {c : Operand} {x y : Code} (b : Bool) (hc : ev f c = .bool b) (hb : b = true) (h : W P n x Q f w) : W P n (.cond c x y) Q f w := W.cond b hc (fun _ => h) (fun hf => by rw [hb] at hf; cases hf)
theorem W.condF {c : Operand} {x y : Code} (b : Bool) (hc : ev f c = .bool b) (hb : b = false) (h : W P n y Q f w) : W P n (.cond c x y) Q f w := W.cond b hc (fun ht => by rw [hb] at ht; cases ht) (fun _ => h)
theorem ctr_next {k : Nat} {m : Int} (h : (k : Int) < m) (hm : InR .i64 m) : Value.int .i64 (w64 ((k : Int) + 1)) = Value.int .i64 (((k + 1 : Nat) : Int)) := by
  rw [inR_i64] at hm
  rw [w64_id (inR_i64.2 ⟨by omega, by omega⟩)]; rfl
theorem ctr_rng {k : Nat} {m : Int} (h : (k : Int) < m) (hm : InR .i64 m) : InR .i64 (((k + 1 : Nat) : Int)) := by
  rw [inR_i64] at hm ⊢; omega
theorem ctrS_next {k : Nat} {m s : Int} (h : s + (k : Int) < m) (hm : InR .i64 m) (hs : InR .i64 s) : Value.int .i64 (w64 ((s + (k : Int)) + 1)) = Value.int .i64 (s + ((k + 1 : Nat) : Int)) := by
  rw [inR_i64] at hm hs
  rw [w64_id (inR_i64.2 ⟨by omega, by omega⟩)]
  congr 1
  omega
theorem ctrS_rng {k : Nat} {m s : Int} (h : s + (k : Int) < m) (hm : InR .i64 m) (hs : InR .i64 s) : InR .i64 (s + ((k + 1 : Nat) : Int)) := by
  rw [inR_i64] at hm hs ⊢; omega
theorem nil_cons {α : Type} {v : Value} {x : α} {l : List α} : NilIff v (x :: l) := fun h => by cases h

/-! ### The state's last form -/

def pickOk : List Nat → Nat → Bool
  | [], _ => true
  | j :: js, m => Nat.blt j m && !(js.any (Nat.beq j)) && pickOk js m
theorem pickOk_nodup : ∀ {js : List Nat} {m : Nat}, pickOk js m = true → js.Nodup ∧ ∀ j ∈ js, j < m
  | [], _, _ => ⟨List.nodup_nil, fun _ h => by cases h⟩
  | j :: js, m, h => by
    simp only [pickOk, Bool.and_eq_true, Bool.not_eq_true'] at h
    obtain ⟨⟨h1, h2⟩, h3⟩ := h
    obtain ⟨h4, h5⟩ := pickOk_nodup h3
    refine ⟨List.nodup_cons.2 ⟨fun hm => ?_, h4⟩, fun i hi => ?_⟩
    · have := List.any_eq_false.1 h2 j hm
      exact this (Nat.beq_refl j)
    · rcases List.mem_cons.1 hi with rfl | hi
      · simpa [Nat.blt_eq] using h1
      · exact h5 i hi
theorem St.pick (h : St w0 w As) (js : List Nat) (hn : pickOk js As.length = true) : St w0 w (js.map fun j => As.getD j emp) := by
  obtain ⟨h1, h2⟩ := pickOk_nodup hn
  refine h.sub js h1 fun i A hA => ?_
  simp only [List.getElem?_map, Option.map_eq_some_iff] at hA
  obtain ⟨j, hj, rfl⟩ := hA
  have hlt := h2 j (List.mem_of_getElem? hj)
  exact ⟨j, hj, by simp [List.getElem?_eq_getElem hlt]⟩
theorem Sep.pick {B : Nat} (h : Sep B w As) (js : List Nat) (hn : pickOk js As.length = true) : Sep B w (js.map fun j => As.getD j emp) := by
  obtain ⟨h1, h2⟩ := pickOk_nodup hn
  refine h.sub js h1 fun i A hA => ?_
  simp only [List.getElem?_map, Option.map_eq_some_iff] at hA
  obtain ⟨j, hj, rfl⟩ := hA
  have hlt := h2 j (List.mem_of_getElem? hj)
  exact ⟨j, hj, by simp [List.getElem?_eq_getElem hlt]⟩
theorem St.out {w1 : World} (h : St w0 w As) (he : Ext w1 w0) : Sep w1.heap.size w As := h.sep.low he.size
end

end Go.VG
namespace Go.VG
theorem Sep.rep {α : Type} {t : Ty α} {B : Nat} {w : World} {As : List Ent} {v : Value} {x : α} (h : Sep B w As) (k : Nat) (hk : As[k]? = some (t.at v x)) : t.rep w v x := by
  obtain ⟨S, hA, _⟩ := h.get k hk
  exact t.toRep hA
theorem Ext.size {w w' : World} (h : Ext w w') : w.heap.size ≤ w'.heap.size := Go.RowKit.Below.size h
end Go.VG
namespace Go.VG
theorem wanted_run {l : List Oper} {o : Oper} {f : Fr} {j t : Nat} {b c : Bool} (hg : o.guard = some (j, b)) (hd : dstOf l j = some t) (hv : f t = .bool c) (hc : c = b) : wantedF l o f = true := by
  subst hc; simp [wantedF, hg, hd, hv]
theorem wanted_skip {l : List Oper} {o : Oper} {f : Fr} {j t : Nat} {b c : Bool} (hg : o.guard = some (j, b)) (hd : dstOf l j = some t) (hv : f t = .bool c) (hc : c = !b) : wantedF l o f = false := by
  subst hc; simp [wantedF, hg, hd, hv]
end Go.VG
