/- The walk's steps, each with what follows. No condition. -/
import Derived.Test.YtjjjljlobfpbnaaVgLoop
set_option linter.all false
namespace Go.VG
open Go.RowKit (Below)

def FinP (P : Program) (fn : Func) (n : Nat) (R : Value → World → Prop) : Post := fun e f w =>
  (e = .normal ∨ e = .ret) ∧ ∃ v, (∀ a, Agree n a f → (results fn a.tmps).run P w = .ok v w) ∧ R v w

def loopQ (B : Nat) (M : Fr → World → Prop) (Q : Post) : Post
  | .exit id, f, w => id = B ∧ M f w
  | .ret, f, w => Q .ret f w
  | _, _, _ => False
def cutQ (M : Fr → World → Prop) (Q : Post) : Post
  | .normal, f, w => M f w
  | .ret, f, w => Q .ret f w
  | _, _, _ => False

section
variable {P : Program} {n : Nat} {Q : Post} {f : Fr} {w w0 : World} {As : List Ent} {ops : Array Oper} {rest : List Oper} {T : TypeId} {pos : String} {after : Array Edge} {d : Nat}

theorem Ret.start {g : FuncId} {fn : Func} {c : Code} {args : Array Value} {R : Value → World → Prop}
    (hf : P.funcs[g]? = some fn) (hb : fn.body = some c) (n : Nat) (hn : fn.ntmps = n) (ha : Nat.ble args.size n = true)
    (h : W P n c (FinP P fn n R) (fr0 args) w) : Ret P g args w R := Ret.enter hf hb n hn (Nat.le_of_ble_eq_true ha) h

theorem FinP.ret {fn : Func} {R : Value → World → Prop} (v : Value) (hr : ∀ a, Agree n a f → (results fn a.tmps).run P w = .ok v w) (h : R v w) : FinP P fn n R .ret f w := ⟨.inr rfl, v, hr, h⟩
theorem FinP.end {fn : Func} {R : Value → World → Prop} (v : Value) (hr : ∀ a, Agree n a f → (results fn a.tmps).run P w = .ok v w) (h : R v w) : FinP P fn n R .normal f w := ⟨.inl rfl, v, hr, h⟩

theorem loadVar_agg {t m b o : Nat} {vs us : List Value} {T' : TypeId} {fz : Nat × Nat} (ht : StT P t m) (hb : w.heap[b]? = some (.cells vs.toArray T' fz)) (hu : (vs.drop o).take m = us) (hm : us.length = m) :
    (loadVar t ⟨b, o, none⟩).run P w = .ok (.agg us.toArray) w := by
  obtain ⟨inf, hinf, hs⟩ := ht.info
  have hl := run_loadCells_list (P := P) w ⟨b, o, none⟩ us (fun j v hj => by
    have hadd : (⟨b, o, none⟩ : Addr).add j = ⟨b, o + j, none⟩ := by unfold Addr.add; split <;> simp_all
    rw [hadd]
    refine cell_in hb ?_
    subst hu
    rw [List.getElem?_take] at hj
    split at hj
    · simpa using hj
    · cases hj)
  rw [hm] at hl
  simp [loadVar, isAgg_st ht, sizeOf, typeInfo, hinf, hs, hl]

/-- What lies in a variable's block. -/
def BoxAt (w : World) (b : Nat) (vs : List Value) : Prop := ∃ T, w.heap[b]? = some (.cells vs.toArray T (0, 0))
theorem BoxAt.lift {w' : World} {b : Nat} {vs : List Value} (he : Ext w w') (h : BoxAt w b vs) : BoxAt w' b vs := by
  obtain ⟨T, h⟩ := h
  exact ⟨T, (he.block b (Array.getElem?_eq_some_iff.1 h).1).trans h⟩
theorem St.boxAt {b : Nat} {vs : List Value} (h : St w0 w As) (k : Nat) (hk : As[k]? = some (bx b vs)) : BoxAt w b vs := h.box k hk

theorem resC {fn : Func} {a t m b : Nat} {vs : List Value} (hfn : fn.results = #[.cell a t]) (ha : f a = .pointer (some ⟨b, 0, none⟩)) (ht : StT P t m) (hb : BoxAt w b vs) (hm : vs.length = m) :
    ∀ ac, Agree n ac f → (results fn ac.tmps).run P w = .ok (.agg vs.toArray) w := fun ac hac => by
  obtain ⟨T', hb⟩ := hb
  have e1 := hac.get a
  rw [ha] at e1
  have hl := loadVar_agg (P := P) (o := 0) ht hb (us := vs) (by rw [List.drop_zero, List.take_of_length_le (by omega)]) hm
  rw [Array.getD_eq_getD_getElem?] at e1
  simp [results, hfn, e1, asAddr, hl]
theorem resCT {fn : Func} {a t m b u : Nat} {vs : List Value} {v : Value} (hfn : fn.results = #[.cell a t, .tmp u]) (ha : f a = .pointer (some ⟨b, 0, none⟩)) (ht : StT P t m) (hb : BoxAt w b vs) (hm : vs.length = m) (hv : f u = v) :
    ∀ ac, Agree n ac f → (results fn ac.tmps).run P w = .ok (.tuple #[.agg vs.toArray, v]) w := fun ac hac => by
  obtain ⟨T', hb⟩ := hb
  have e1 := hac.get a
  have e2 := hac.get u
  rw [ha] at e1
  have hl := loadVar_agg (P := P) (o := 0) ht hb (us := vs) (by rw [List.drop_zero, List.take_of_length_le (by omega)]) hm
  rw [Array.getD_eq_getD_getElem?] at e1
  simp [results, hfn, e1, asAddr, hl, ← hv, ← e2]

theorem Ext.cell {w' : World} {a : Addr} {u : Value} (he : Ext w w') (h : w.cell? a = some u) : w'.cell? a = some u := (cell_of_block (he.block _ (World.block_lt_of_cell? w _ h))).trans h
theorem BoxAt.cell {b : Nat} {vs : List Value} (h : BoxAt w b vs) {o : Nat} {u : Value} (hu : vs[o]? = some u) : w.cell? ⟨b, o, none⟩ = some u := let ⟨_, h⟩ := h; cell_in h hu

/-! ### Structure -/

theorem inBlk_self {B : Nat} {Q : Post} {f : Fr} {w : World} (h : Q .normal f w) : inBlk B Q (.exit B) f w := by
  simp only [inBlk, Nat.beq_refl, cond_true]; exact h

theorem W.blockLoop {B : Nat} {c : Code} (M : Fr → World → Prop) (hl : W P n (.loop c) (loopQ B M Q) f w) (ha : ∀ f w, M f w → Q .normal f w) : W P n (.block B (.loop c)) Q f w :=
  W.block (hl.mono fun e f w h => by
    cases e <;> first | exact h.elim | exact h | skip
    obtain ⟨rfl, hM⟩ := h
    exact inBlk_self (ha f w hM))

theorem W.cutCode {c : Code} (M : Fr → World → Prop) (h1 : W P n c (cutQ M Q) f w) (h2 : ∀ f w, M f w → Q .normal f w) : W P n c Q f w :=
  h1.mono fun e f w h => by cases e <;> first | exact h2 f w h | exact h | exact h.elim

/-! ### Steps on memory -/

theorem WL.box {x : Operand} {t : TypeId} {v : Value} {cs : List Value} (h : St w0 w As) (hx : ev f x = v) (hc : v.cells = cs.toArray) (hd : Nat.blt d n = true)
    (k : ∀ b w', St w0 w' (As ++ [bx b cs]) → Ext w w' → BoxAt w' b cs → WL P n ops Q rest (upd f d (.pointer (some ⟨b, 0, none⟩))) w') :
    WL P n ops Q (⟨some d, .box t x, T, pos, after, none⟩ :: rest) f w :=
  WL.val _ _ (op_box hx hc) hd (k _ _ (h.newBox cs t) (Ext.alloc w _) ⟨t, heap_alloc_new w _⟩)
theorem WL.alloc {t : TypeId} {z : Value} {cs : List Value} (h : St w0 w As) (hz : ZeT P t z) (hc : z.cells = cs.toArray) (hd : Nat.blt d n = true)
    (k : ∀ b w', St w0 w' (As ++ [bx b cs]) → Ext w w' → WL P n ops Q rest (upd f d (.pointer (some ⟨b, 0, none⟩))) w') :
    WL P n ops Q (⟨some d, .alloc t, T, pos, after, none⟩ :: rest) f w :=
  WL.val _ _ (op_alloc hz hc) hd (k _ _ (h.newBox cs t) (Ext.alloc w _))

theorem WL.make {α : Type} {t : Ty α} {z : α} {x : Operand} {st e : TypeId} {zv : Value} {bytes : Nat} {kd : IntKind} {m : Int} {l : List α} (h : St w0 w As) (hT : SlE P st e zv bytes) (hz : ∀ S w, t.own S w zv z) (hzc : zv.cells = #[zv])
    (hx : ev f x = .int kd m) (hm : mkL m z = some l) (hby : Nat.ble bytes 256 = true) (hd : Nat.blt d n = true)
    (k : ∀ v w', St w0 w' (As ++ [t.sl.at v l]) → Ext w w' → WL P n ops Q rest (upd f d v) w') :
    WL P n ops Q (⟨some d, .makeSlice st x x, T, pos, after, none⟩ :: rest) f w := by
  obtain ⟨h0, h1, rfl⟩ := mkL_some hm
  obtain ⟨v, w', ho, he, hs⟩ := mk_make (P := P) (f := f) (w := w) (T := T) hT hz hzc hx h0 h1 (Nat.le_of_ble_eq_true hby)
  exact WL.val v w' ho hd (k v w' (h.join he hs) he)

theorem WL.litFlat {α : Type} {t : Ty α} (hf : t.Flat) {ps : Array (Nat × Operand)} {st e : TypeId} {zv : Value} {bytes m : Nat} (us : List Value) (xs : List α) (h : St w0 w As) (hT : SlE P st e zv bytes) (hzc : zv.cells = #[zv]) (hm : Nat.ble m 4096 = true)
    (hp : Instr.fill (fun i => some (i * 1, 1)) (List.replicate m zv).toArray (ps.map fun (i, x) => (i, ev f x)).toList = some us.toArray) (hl : us.length = m) (hxs : xs.length = m) (hr : ∀ (i : Nat) u x, us[i]? = some u → xs[i]? = some x → t.rep w u x) (hd : Nat.blt d n = true)
    (k : ∀ v w', St w0 w' (As ++ [t.sl.at v xs]) → Ext w w' → WL P n ops Q rest (upd f d v) w') :
    WL P n ops Q (⟨some d, .buildSlice st m ps, T, pos, after, none⟩ :: rest) f w := by
  obtain ⟨v, w', ho, he, hs⟩ := mk_litFlat (P := P) (f := f) (w := w) (T := T) hf xs hT hzc (Nat.le_of_ble_eq_true hm) hp hl hxs hr
  exact WL.val v w' ho hd (k v w' (h.join he hs) he)
/-- An empty literal of whatever elements. -/
theorem WL.lit0 {α : Type} {t : Ty α} {st e : TypeId} {zv : Value} {bytes : Nat} (h : St w0 w As) (hT : SlE P st e zv bytes) (hzc : zv.cells = #[zv]) (hd : Nat.blt d n = true)
    (k : ∀ v w', St w0 w' (As ++ [t.sl.at v []]) → Ext w w' → WL P n ops Q rest (upd f d v) w') :
    WL P n ops Q (⟨some d, .buildSlice st 0 #[], T, pos, after, none⟩ :: rest) f w := by
  have ho := mk_lit (P := P) (f := f) (w := w) (T := T) (ps := #[]) (us := []) hT hzc (Nat.zero_le _) (by simp [Instr.fill]) rfl
  refine WL.val _ _ ho hd (k _ _ (h.join (Ext.alloc w _) ?_) (Ext.alloc w _))
  exact Sep.one (S := fun _ => False) (.inl ⟨_, rfl, rfl⟩) (Ty.at_local _ _ _) (fun b hb => hb.elim)
/-- A literal of rows: a block that holds their values. -/
theorem WL.lit {ps : Array (Nat × Operand)} {st e : TypeId} {zv : Value} {bytes m : Nat} (us : List Value) (h : St w0 w As) (hT : SlE P st e zv bytes) (hzc : zv.cells = #[zv]) (hm : Nat.ble m 4096 = true)
    (hp : Instr.fill (fun i => some (i * 1, 1)) (List.replicate m zv).toArray (ps.map fun (i, x) => (i, ev f x)).toList = some us.toArray) (hl : us.length = m) (hd : Nat.blt d n = true)
    (k : ∀ b w', St w0 w' (As ++ [bx b us]) → Ext w w' → BoxAt w' b us → WL P n ops Q rest (upd f d (.slice (some ⟨b, 0, none⟩) m m)) w') :
    WL P n ops Q (⟨some d, .buildSlice st m ps, T, pos, after, none⟩ :: rest) f w :=
  WL.val _ _ (mk_lit hT hzc (Nat.le_of_ble_eq_true hm) hp hl) hd (k _ _ (h.newBox us e) (Ext.alloc w _) ⟨e, heap_alloc_new w _⟩)

theorem WL.append {α : Type} {t : Ty α} (hf : t.Flat) {s x : Operand} {st e : TypeId} {zv : Value} {bytes k : Nat} {v v2 : Value} {l xs l' : List α} (h : St w0 w As) (hk : As[k]? = some (t.sl.at v l)) (hT : SlE P st e zv bytes) (hzc : zv.cells = #[zv]) (hby : Nat.ble bytes 64 = true)
    (hs : ev f s = v) (hx : ev f x = v2) (hr : t.sl.rep w v2 xs) (hm : appL l xs = some l') (hd : Nat.blt d n = true)
    (kk : ∀ v' w', St w0 w' (As.set k (t.sl.at v' l')) → w.heap.size ≤ w'.heap.size → WL P n ops Q rest (upd f d v') w') :
    WL P n ops Q (⟨some d, .call { callee := .builtin .append, args := #[s, x], argTypes := #[st, st] }, T, pos, after, none⟩ :: rest) f w := by
  obtain ⟨h1, rfl⟩ := appL_some hm
  obtain ⟨v', w', ho, hS, hz⟩ := St.append (T := T) hf h hk hT hzc (Nat.le_of_ble_eq_true hby) hs hx hr h1
  exact WL.val v' w' ho hd (kk v' w' hS hz)
theorem WL.appendRow {α : Type} {t : Ty α} {s x : Operand} {st e : TypeId} {zv : Value} {bytes k k2 k3 b2 : Nat} {v u : Value} {l l' : List α} {y : α} (h : St w0 w As) (hne : Nat.beq k k2 = false) (hk : As[k]? = some (t.sl.at v l)) (hk2 : As[k2]? = some (t.at u y)) (hk3 : As[k3]? = some (bx b2 [u]))
    (hT : SlE P st e zv bytes) (hzc : zv.cells = #[zv]) (hby : Nat.ble bytes 64 = true) (hs : ev f s = v) (hx : ev f x = .slice (some ⟨b2, 0, none⟩) 1 1) (hm : appL l [y] = some l') (hd : Nat.blt d n = true)
    (kk : ∀ v' w', St w0 w' ((As.set k2 emp).set k (t.sl.at v' l')) → w.heap.size ≤ w'.heap.size → WL P n ops Q rest (upd f d v') w') :
    WL P n ops Q (⟨some d, .call { callee := .builtin .append, args := #[s, x], argTypes := #[st, st] }, T, pos, after, none⟩ :: rest) f w := by
  obtain ⟨h1, rfl⟩ := appL_some hm
  obtain ⟨v', w', ho, hS, hz⟩ := St.appendRow (T := T) h (Nat.ne_of_beq_eq_false hne) hk hk2 hk3 hT hzc (Nat.le_of_ble_eq_true hby) hs hx (by simpa using h1)
  exact WL.val v' w' ho hd (kk v' w' hS hz)

theorem WL.storeBox {a x : Operand} {t b o m k : Nat} {vs us : List Value} (vs' : List Value) {v : Value} (h : St w0 w As) (hk : As[k]? = some (bx b vs)) (ha : ev f a = .pointer (some ⟨b, o, none⟩)) (hx : ev f x = v)
    (hv : v.cells = us.toArray) (hsz : (P.info? t).map (·.size) = some m) (hm : us.length = m) (hlen : Nat.ble (o + m) vs.length = true) (h1 : us.all (·.oneCell') = true) (hvs : vs.take o ++ us ++ vs.drop (o + m) = vs')
    (kk : ∀ w', St w0 w' (As.set k (bx b vs')) → WL P n ops Q rest f w') :
    WL P n ops Q (⟨none, .store t a x, T, pos, after, none⟩ :: rest) f w := by
  obtain ⟨w', ho, hS, _⟩ := St.storeBox (P := P) (f := f) (T := T) h k hk ha hx hv hsz hm (Nat.le_of_ble_eq_true hlen) h1 hvs
  exact WL.skp w' ho (kk w' hS)

theorem WL.storeEl {α : Type} {t : Ty α} (hf : t.Flat) {a x : Operand} {tt k : Nat} {v u : Value} {l : List α} {i : Int} {y : α} (h : St w0 w As) (hk : As[k]? = some (t.sl.at v l)) (hsz : (P.info? tt).map (·.size) = some 1)
    (ha : ev f a = .pointer (some (elA v i.toNat))) (hx : ev f x = u) (hi : i.toNat < l.length) (hr : t.rep w u y)
    (kk : ∀ w', St w0 w' (As.set k (t.sl.at v (l.set i.toNat y))) → WL P n ops Q rest f w') :
    WL P n ops Q (⟨none, .store tt a x, T, pos, after, none⟩ :: rest) f w := by
  obtain ⟨w', ho, hS, _⟩ := St.storeEl (T := T) hf h hk hsz ha hx hi hr
  exact WL.skp w' ho (kk w' hS)
theorem WL.storeEl2 {α : Type} {t : Ty α} (hf : t.Flat) {a x : Operand} {tt k : Nat} {v u u1 : Value} {ll : List (List α)} {i j : Int} {l : List α} {y : α} (h : St w0 w As) (hk : As[k]? = some (t.sl.sl.at v ll)) (hsz : (P.info? tt).map (·.size) = some 1)
    (hl : ll[i.toNat]? = some l) (hu1 : w.cell? (elA v i.toNat) = some u1) (ha : ev f a = .pointer (some (elA u1 j.toNat))) (hx : ev f x = u) (hj : j.toNat < l.length) (hr : t.rep w u y)
    (kk : ∀ w', St w0 w' (As.set k (t.sl.sl.at v (ll.set i.toNat (l.set j.toNat y)))) → WL P n ops Q rest f w') :
    WL P n ops Q (⟨none, .store tt a x, T, pos, after, none⟩ :: rest) f w := by
  obtain ⟨w', ho, hS, _⟩ := St.storeEl2 (T := T) hf h hk hsz hl hu1 ha hx hj hr
  exact WL.skp w' ho (kk w' hS)
theorem WL.storeEl3 {α : Type} {t : Ty α} (hf : t.Flat) {a x : Operand} {tt k : Nat} {v u u1 u2 : Value} {lll : List (List (List α))} {i j m : Int} {ll : List (List α)} {l : List α} {y : α} (h : St w0 w As) (hk : As[k]? = some (t.sl.sl.sl.at v lll)) (hsz : (P.info? tt).map (·.size) = some 1)
    (hll : lll[i.toNat]? = some ll) (hl : ll[j.toNat]? = some l) (hu1 : w.cell? (elA v i.toNat) = some u1) (hu2 : w.cell? (elA u1 j.toNat) = some u2) (ha : ev f a = .pointer (some (elA u2 m.toNat))) (hx : ev f x = u) (hm : m.toNat < l.length) (hr : t.rep w u y)
    (kk : ∀ w', St w0 w' (As.set k (t.sl.sl.sl.at v (lll.set i.toNat (ll.set j.toNat (l.set m.toNat y))))) → WL P n ops Q rest f w') :
    WL P n ops Q (⟨none, .store tt a x, T, pos, after, none⟩ :: rest) f w := by
  obtain ⟨w', ho, hS, _⟩ := St.storeEl3 (T := T) hf h hk hsz hll hl hu1 hu2 ha hx hm hr
  exact WL.skp w' ho (kk w' hS)
theorem WL.slice {α : Type} {t : Ty α} {v : Value} {l l' : List α} {x : Operand} {lo hi : Option Operand} {st e : TypeId} {zv : Value} {bytes : Nat} {a b : Int} {kd : IntKind} (hT : SlE P st e zv bytes) (hx : ev f x = v) (h : t.sl.rep w v l)
    (hlo : match lo with | some o => ev f o = .int kd a | none => a = 0) (hhi : match hi with | some o => ev f o = .int kd b | none => b = l.length) (hc : cutL l a b = some l') (hd : Nat.blt d n = true)
    (k : ∀ v', t.sl.rep w v' l' → WL P n ops Q rest (upd f d v') w) :
    WL P n ops Q (⟨some d, .slice st x lo hi none, T, pos, after, none⟩ :: rest) f w := by
  obtain ⟨h0, h1, h2, rfl⟩ := cutL_some hc
  obtain ⟨v', ho, hr⟩ := op_slice (P := P) (f := f) (w := w) (T := T) hT hx h hlo hhi h0 h1 h2
  exact WL.val v' w ho hd (k v' hr)

/-- The index of an element that is read. -/
theorem op_idx {α : Type} {t : Ty α} {x i : Operand} {st e : TypeId} {z : Value} {by_ : Nat} {v : Value} {l : List α} {k : IntKind} {j : Int} (ht : SlE P st e z by_) (hr : t.sl.rep w v l) (hx : ev f x = v) (hi : ev f i = .int k j) (h0 : 0 ≤ j) (h1 : j < l.length) :
    OpV P (.indexAddr st x i) T f w (.pointer (some (elA v j.toNat))) w := by
  obtain ⟨p, c, hv, _, _, hp, _⟩ := hr
  exact op_indexAddr ht hx hv (fun h => hp (fun e => h (by rw [e]; rfl))) hi h0 h1
theorem op_lenL {α : Type} {t : Ty α} {x : Operand} {st e : TypeId} {z : Value} {by_ : Nat} {v : Value} {l : List α} (ht : SlE P st e z by_) (hr : t.sl.rep w v l) (hx : ev f x = v) :
    OpV P (.call { callee := .builtin .len, args := #[x], argTypes := #[st] }) T f w (.int .i64 (l.length : Int)) w := by
  obtain ⟨p, c, hv, _⟩ := hr
  exact op_len (hx.trans hv) ht.1
theorem inR_len {α : Type} {t : Ty α} {v : Value} {l : List α} (hr : t.sl.rep w v l) : InR .i64 (l.length : Int) := by
  have := repSl.max hr
  simp [maxLen] at this
  rw [inR_i64]; omega
/-- A slice's nil, where nil and empty are one. -/
def NilIff {α : Type} (v : Value) (l : List α) : Prop := l = [] → ∃ n c, v = .slice none n c
theorem op_eqlNilL {α : Type} {t : Ty α} {x y : Operand} {st u e : TypeId} {z : Value} {by_ : Nat} {v : Value} {l : List α} (ht : SlE P st e z by_) (hr : t.sl.rep w v l) (hn : NilIff v l) (hx : ev f x = v) (hy : ev f y = .slice none 0 0) : OpV P (.binOp .eql st x y u) T f w (.bool l.isEmpty) w := by
  obtain ⟨p, c, hv, _, _, hp, _⟩ := hr
  have := op_eqlNil (P := P) (w := w) (u := u) (T := T) (hx.trans hv) hy ht.1
  have e1 : p.isNone = l.isEmpty := by
    cases l with
    | nil => obtain ⟨n', c', h⟩ := hn rfl; rw [hv] at h; cases h; rfl
    | cons a l => cases p with
      | none => exact absurd rfl (hp (by simp))
      | some a => rfl
  rw [← e1]; exact this
theorem nilOwn {α : Type} (t : Ty α) (S : Nat → Prop) (w : World) : t.sl.own S w (.slice none 0 0) ([] : List α) := .inl ⟨none, rfl, rfl⟩
theorem St.addNil {α : Type} (t : Ty α) (h : St w0 w As) : St w0 w (As ++ [t.sl.at (.slice none 0 0) []]) :=
  h.join (Ext.refl w) (Sep.one (S := fun _ => False) (nilOwn t _ w) (Ty.at_local _ _ _) (fun b hb => hb.elim))
theorem Sep.addNil {α : Type} (t : Ty α) {B : Nat} (h : Sep B w As) (hB : B ≤ w.heap.size) : Sep B w (As ++ [t.sl.at (.slice none 0 0) []]) :=
  h.join (Ext.refl w) (Sep.one (S := fun _ => False) (nilOwn t _ w) (Ty.at_local _ _ _) (fun b hb => hb.elim)) hB

/-- Guarded operations: carried out. -/
theorem WL.g1 {op : Op} {dst : Option Tmp} {j t : Nat} {b : Bool} (hj : (ops[j]?).bind (·.dst) = some t) (hv : f t = .bool b)
    (k : WL P n ops Q (⟨dst, op, T, pos, after, none⟩ :: rest) f w) : WL P n ops Q (⟨dst, op, T, pos, after, some (j, b)⟩ :: rest) f w := WL.grun hj hv k

end

/-! ### Function values -/

end Go.VG
