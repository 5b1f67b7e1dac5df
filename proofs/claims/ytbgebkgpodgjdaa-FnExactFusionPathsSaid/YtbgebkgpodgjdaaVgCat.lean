/- slices.Grow of nil, and rows joined: a row as an opaque value, builtin cap, append of made zeros. No condition. -/
import Derived.Test.YtbgebkgpodgjdaaVgCopy
import Derived.Lib.AppendZeros
set_option linter.all false
namespace Go.VG
open Go.RowKit (Below)

/-- A value of one cell, whatever it is. -/
def Ty.opq : Ty Value where
  own := fun _ _ v x => v = x ∧ x.oneCell' = true
  rep := fun _ v x => v = x ∧ x.oneCell' = true
  loc := fun _ h => h
  mono := fun _ h => h
  toRep := fun h => h
  ext := fun _ h => h
  one := fun h => by rw [h.1]; exact h.2
theorem flat_o : Ty.opq.Flat := fun _ _ _ _ h => h

section
variable {P : Program} {f : Fr} {w : World} {T : TypeId}
theorem op_cut0 {x o : Operand} {st e : TypeId} {zv : Value} {bytes : Nat} {p : Option Addr} {n c : Nat} {kd : IntKind} (hT : SlE P st e zv bytes) (hx : ev f x = .slice p n c) (ho : ev f o = .int kd 0) (hp : p = none ∨ ∃ b, p = some ⟨b, 0, none⟩) :
    OpV P (.slice st x none (some o) none) T f w (.slice p 0 c) w := fun _ _ _ _ => by
  obtain ⟨i, hi', hiz, his, hib⟩ := hT.info
  have hel : P.elem st = e := by simp [Program.elem, hT.1]
  have hel' : P.underlying st = some (.slice (P.elem st)) := by rw [hel]; exact hT.1
  have hsz : (sizeOf (P.elem st)).run P w = .ok 1 w := by rw [hel]; simp [sizeOf, typeInfo, hi', his]
  have key : (Instr.slice st (.slice p n c) none (some (.int kd 0)) none).run P w = .ok (.slice p 0 c) w := by
    rw [run_slice_h w st p n c hel' kd 0 (by omega) (by omega), hsz]
    rcases hp with rfl | ⟨b, rfl⟩
    · simp [sliced]
    · simp [sliced, Addr.add]
  have hat : (Instr.sliceAt st (.slice p n c) none (some (.int kd 0)) none).run P w = (Instr.slice st (.slice p n c) none (some (.int kd 0)) none).run P w := by
    simp [Instr.sliceAt, run_underlying hT.1]
  simp [execOp, hx, ho, hat, key]
/-- append(nil, make([]T, n)...), n at least one: a block of n zeros and some more. -/
theorem op_appMake {s x : Operand} {st tn e : TypeId} {zv : Value} {bytes n : Nat} {k : IntKind} (hT : SlE P st e zv bytes) (hzc : zv.cells = #[zv]) (hby : bytes ≤ 256) (htn : P.underlying tn = some (.int k)) (hs : ev f s = .slice none 0 0) (hx : ev f x = .int k (n : Int)) (h0 : 0 < n) (hn : n ≤ 1099511627776) :
    ∃ c w', OpV P (.call { callee := .builtin .append, args := #[s, x], argTypes := #[st, tn] }) T f w (.slice (some ⟨w.heap.size, 0, none⟩) n c) w' ∧ Ext w w' ∧ ∃ vs T', w'.heap[w.heap.size]? = some (.cells vs T' (0, 0)) ∧ vs.size = c ∧ c ≤ maxLen ∧ w.heap.size < w'.heap.size := by
  obtain ⟨i, hi, hiz, his, hib⟩ := hT.info
  subst hib
  have hb64 : n * i.bytes ≤ 281474976710656 := by
    have := Nat.mul_le_mul hn hby
    omega
  have hr := Go.Lib.run_append_nil_zeros (P := P) w st tn T e i zv k k hT.1 htn hi hiz n h0 (by rw [his]; omega) (by omega) hb64
  have hge := grownCap_ge w n 0 e
  refine ⟨grownCap w n 0 e, w.drew.alloc (.cells (Builtin.zeroCells zv.cells n ++ Builtin.zeroCells zv.cells (grownCap w n 0 e - n)) e), fun _ _ _ _ => ?_, ?_, _, e, heap_alloc_new w.drew _, ?_, grownCap_le_maxLen w _ _ _ (by simp [maxLen]; omega), by simp⟩
  · simp [execOp, resolve, invoke, builtin, hs, hx, hr]
  · exact Ext.trans (Ext.drew w) (Ext.alloc _ _)
  · simp [size_zeroCells, hzc]; omega
theorem WL.appMake {n : Nat} {Q : Post} {ops : Array Oper} {rest : List Oper} {pos : String} {after : Array Edge} {d : Nat} {s x : Operand} {st tn e : TypeId} {zv : Value} {bytes m : Nat} {k : IntKind} {M : Int} (hT : SlE P st e zv bytes) (hzc : zv.cells = #[zv]) (hby : Nat.ble bytes 256 = true) (htn : IntT P tn k) (hs : ev f s = .slice none 0 0) (hx : ev f x = .int k M) (hM : M = (m : Int)) (h0 : 0 < m) (hn : m ≤ 1099511627776) (hd : Nat.blt d n = true)
    (kk : ∀ c w', Ext w w' → (∃ vs T', w'.heap[w.heap.size]? = some (.cells vs T' (0, 0)) ∧ vs.size = c ∧ c ≤ maxLen ∧ w.heap.size < w'.heap.size) → WL P n ops Q rest (upd f d (.slice (some ⟨w.heap.size, 0, none⟩) m c)) w') :
    WL P n ops Q (⟨some d, .call { callee := .builtin .append, args := #[s, x], argTypes := #[st, tn] }, T, pos, after, none⟩ :: rest) f w := by
  subst hM
  obtain ⟨c, w', ho, he, hr⟩ := op_appMake (T := T) hT hzc (Nat.le_of_ble_eq_true hby) htn hs hx h0 hn
  exact WL.val _ w' ho hd (kk c w' he hr)
def growP {α : Type} (s : List α) (n : Int) : Option (List α) := if s.isEmpty = true ∧ 0 ≤ n ∧ n ≤ 1099511627776 then some [] else none
theorem growP_some {α : Type} {s r : List α} {n : Int} (h : growP s n = some r) : s = [] ∧ 0 ≤ n ∧ n ≤ 1099511627776 ∧ r = [] := by
  unfold growP at h
  split at h
  · rename_i h0; cases h; exact ⟨List.isEmpty_iff.1 h0.1, h0.2.1, h0.2.2, rfl⟩
  · cases h
theorem grow_sep {α : Type} {t : Ty α} {w w' : World} {b c : Nat} {vs : Array Value} {T' : TypeId} {B : Nat} (hB : B ≤ b) (hb : w'.heap[b]? = some (.cells vs T' (0, 0))) (hv : vs.size = c) (hc : c ≤ maxLen) (hl : b < w'.heap.size) : Sep B w' [t.sl.at (.slice (some ⟨b, 0, none⟩) 0 c) []] :=
  Sep.one (S := fun x => x = b) (.inr ⟨b, c, vs, T', fun _ _ => False, rfl, rfl, hb, hv, Nat.zero_le _, hc, fun _ _ h => h.elim, fun _ _ _ h => h.elim, fun i x hx => by simp at hx⟩) (Ty.at_local _ _ _) (fun x hx => by subst hx; exact ⟨hB, hl⟩)
theorem nil_sep {α : Type} {t : Ty α} {w' : World} {B : Nat} : Sep B w' [t.sl.at (.slice none 0 0) []] :=
  Sep.one (S := fun _ => False) (.inl ⟨none, rfl, rfl⟩) (Ty.at_local _ _ _) (fun b hb => hb.elim)
theorem grow_len {n : Int} (h0 : 0 ≤ n) (h1 : n ≤ 1099511627776) {α : Type} : w64 (n - w64 (((0 : Nat) : Int) - (([] : List α).length : Int))) = n := by
  have e : w64 (((0 : Nat) : Int) - (([] : List α).length : Int)) = 0 := rfl
  rw [e]; unfold w64; rw [wrap_id (inR_i64.2 (by omega))]; omega
end

theorem forN_tell {S R : Type} {body : Nat → S → Option (Ctl S R)} {N : Nat} (g : Nat → S) (hb : ∀ j, j < N → body j (g j) = some (.next (g (j + 1)))) : forN body N 0 (g 0) = some (.fin (g N)) := by
  have key : ∀ c k, k + c = N → forN body c k (g k) = some (.fin (g N)) := by
    intro c
    induction c with
    | zero => intro k hk; have : k = N := by omega
              subst this; rfl
    | succ c ih => intro k hk; simp only [forN, hb k (by omega)]; exact ih (k + 1) (by omega)
  exact key N 0 (by omega)

/-! ### Lists element by element -/
inductive L2 {α β : Type} (R : α → β → Prop) : List α → List β → Prop
  | nil : L2 R [] []
  | cons {a b l m} (h : R a b) (k : L2 R l m) : L2 R (a :: l) (b :: m)
section
variable {α β : Type} {R : α → β → Prop}
theorem L2.len {l : List α} {m : List β} (h : L2 R l m) : l.length = m.length := by
  induction h with
  | nil => rfl
  | cons _ _ ih => simp [ih]
theorem L2.app {l l' : List α} {m m' : List β} (h : L2 R l m) (k : L2 R l' m') : L2 R (l ++ l') (m ++ m') := by
  induction h with
  | nil => exact k
  | cons h _ ih => exact .cons h ih
theorem L2.flat {l : List (List α)} {m : List (List β)} (h : L2 (L2 R) l m) : L2 R l.flatten m.flatten := by
  induction h with
  | nil => exact .nil
  | cons h _ ih => rw [List.flatten_cons, List.flatten_cons]; exact L2.app h ih
theorem L2.imp {S : α → β → Prop} (h : ∀ a b, R a b → S a b) {l : List α} {m : List β} (k : L2 R l m) : L2 S l m := by
  induction k with
  | nil => exact .nil
  | cons g _ ih => exact .cons (h _ _ g) ih
theorem L2.at {l : List α} {m : List β} (h : L2 R l m) : ∀ {i : Nat} {b : β}, m[i]? = some b → ∃ a, l[i]? = some a ∧ R a b := by
  induction h with
  | nil => intro i b hb; simp at hb
  | cons h _ ih =>
    intro i b hb
    cases i with
    | zero => simp at hb; subst hb; exact ⟨_, rfl, h⟩
    | succ i => simp at hb; obtain ⟨a, h1, h2⟩ := ih hb; exact ⟨a, by simpa using h1, h2⟩
theorem L2.of : ∀ {l : List α} {m : List β}, l.length = m.length → (∀ (i : Nat) (a : α) (b : β), l[i]? = some a → m[i]? = some b → R a b) → L2 R l m
  | [], [], _, _ => .nil
  | [], _ :: _, h, _ => by simp at h
  | _ :: _, [], h, _ => by simp at h
  | a :: l, b :: m, h, k => .cons (k 0 a b rfl rfl) (L2.of (by simpa using h) fun i x y hx hy => k (i + 1) x y (by simpa using hx) (by simpa using hy))
end

/-- What a slice's cells hold. -/
theorem rep_vals {α : Type} {t : Ty α} {w : World} {v : Value} {l : List α} (h : t.sl.rep w v l) : ∃ us : List Value, Ty.opq.sl.rep w v us ∧ L2 (t.rep w) us l := by
  obtain ⟨p, c, h1, h2, h3, h4, h5⟩ := h
  have hlen : ((List.range l.length).map fun i => (w.cell? (elA v i)).getD undef).length = l.length := by simp
  have hat : ∀ i u, ((List.range l.length).map fun i => (w.cell? (elA v i)).getD undef)[i]? = some u → ∃ x, l[i]? = some x ∧ w.cell? (elA v i) = some u ∧ t.rep w u x := fun i u hu => by
    have hi : i < l.length := by have := (List.getElem?_eq_some_iff.1 hu).1; simpa using this
    obtain ⟨u', g1, g2⟩ := h5 i _ (List.getElem?_eq_getElem hi)
    simp [hi, g1] at hu
    subst hu
    exact ⟨_, List.getElem?_eq_getElem hi, g1, g2⟩
  refine ⟨_, ⟨p, c, ?_, by rw [hlen]; exact h2, h3, fun hne => h4 (fun e => hne (by rw [e]; rfl)), fun i x hx => ?_⟩, L2.of hlen fun i a b ha hb => ?_⟩
  · rw [hlen]; exact h1
  · obtain ⟨_, _, g1, g2⟩ := hat i x hx
    exact ⟨x, g1, rfl, t.one g2⟩
  · obtain ⟨x, g0, _, g2⟩ := hat i a ha
    rw [hb] at g0; cases g0; exact g2
theorem vals_rep {α : Type} {t : Ty α} {w : World} {v : Value} {us : List Value} {l : List α} (h : Ty.opq.sl.rep w v us) (k : L2 (t.rep w) us l) : t.sl.rep w v l := by
  obtain ⟨p, c, h1, h2, h3, h4, h5⟩ := h
  refine ⟨p, c, by rw [← k.len]; exact h1, by rw [← k.len]; exact h2, h3, fun hne => h4 (fun e => hne ?_), fun i x hx => ?_⟩
  · subst e; cases k; rfl
  · obtain ⟨u, g1, g2⟩ := k.at hx
    obtain ⟨u', g3, g4, _⟩ := h5 i u g1
    subst g4
    exact ⟨u', g3, g2⟩
/-- Rows of rows, the inner elements as values. -/
theorem rep_vals2 {α : Type} {t : Ty α} {w : World} {v : Value} {ls : List (List α)} (h : t.sl.sl.rep w v ls) : ∃ us : List (List Value), Ty.opq.sl.sl.rep w v us ∧ L2 (L2 (t.rep w)) us ls := by
  obtain ⟨vs, h1, h2⟩ := rep_vals h
  have key : ∀ {vs : List Value} {ls : List (List α)}, L2 (t.sl.rep w) vs ls → ∃ us, L2 (Ty.opq.sl.rep w) vs us ∧ L2 (L2 (t.rep w)) us ls := by
    intro vs ls k
    induction k with
    | nil => exact ⟨[], .nil, .nil⟩
    | cons g _ ih =>
      obtain ⟨us, k1, k2⟩ := ih
      obtain ⟨u, g1, g2⟩ := rep_vals g
      exact ⟨u :: us, .cons g1 k1, .cons g2 k2⟩
  obtain ⟨us, k1, k2⟩ := key h2
  exact ⟨us, vals_rep h1 k1, k2⟩
theorem cat_rep {α : Type} {t : Ty α} {w w' : World} {v : Value} {us : List (List Value)} {ls : List (List α)} (he : Ext w w') (h : Ty.opq.sl.rep w' v us.flatten) (k : L2 (L2 (t.rep w)) us ls) : t.sl.rep w' v ls.flatten :=
  vals_rep h (k.flat.imp fun _ _ g => Ty.lift _ he g)
theorem L2.flen {α β : Type} {R : α → β → Prop} {us : List (List α)} {ls : List (List β)} (k : L2 (L2 R) us ls) : us.flatten.length = ls.flatten.length := k.flat.len
end Go.VG
