/- One lemma for each kind of operation. No condition. -/
import Derived.Test.YtjjjljlobfpbnaaVgData
import Derived.Laws.MakeOwn
import Derived.Laws.Slices
import Derived.Laws.Cells
import Derived.Laws.NewBlocks
set_option linter.all false
namespace Go.VG
open Go.RowKit (Below)

/-! ### Facts on types (each closed by the kernel, once a type) -/

def naggD : TypeDesc → Bool
  | .struct _ | .array _ _ => false
  | _ => true
/-- A type of one cell. -/
def One (P : Program) (T : TypeId) : Prop := (P.underlying T).map naggD = some true ∧ (P.info? T).map (·.size) = some 1
/-- A slice type, its element's zero and bytes (elements of one cell). -/
def SlE (P : Program) (T E : TypeId) (z : Value) (bytes : Nat) : Prop :=
  P.underlying T = some (.slice E) ∧ (P.info? E).map (fun i => (i.zero, i.size, i.bytes)) = some (some z, 1, bytes)
/-- A struct type of m cells. -/
def StT (P : Program) (T : TypeId) (m : Nat) : Prop := (P.underlying T).map naggD = some false ∧ (P.info? T).map (·.size) = some m
/-- Field number k of a struct type lies at this offset, and takes m cells. -/
def FdT (P : Program) (T k off m : Nat) : Prop :=
  (match P.underlying T with | some (.struct fs) => (fs[k]?).map (fun f => (f.offset, (P.info? f.type).map (·.size))) | _ => none) = some (off, some m) ∧ m ≠ 0
/-- The zero value of a type. -/
def ZeT (P : Program) (T : TypeId) (z : Value) : Prop := (P.info? T).map (·.zero) = some (some z)
def IntT (P : Program) (T : TypeId) (k : IntKind) : Prop := P.underlying T = some (.int k)
/-- A function that has a body. -/
def FnOk (P : Program) (g : FuncId) : Prop := (P.funcs[g]?).map (fun fn => (fn.body.isNone, fn.name == "runtime.NumGoroutine")) = some (false, false)

section
variable {P : Program} {n : Nat} {f : Fr} {w : World} {T : TypeId}

theorem One.under {t : TypeId} (h : One P t) : ∃ d, P.underlying t = some d ∧ naggD d = true := by
  have := h.1
  cases hu : P.underlying t with
  | none => simp [hu] at this
  | some d => exact ⟨d, rfl, by simpa [hu] using this⟩
theorem One.info {t : TypeId} (h : One P t) : ∃ i, P.info? t = some i ∧ i.size = 1 := by
  have := h.2
  cases hu : P.info? t with
  | none => simp [hu] at this
  | some d => exact ⟨d, rfl, by simpa [hu] using this⟩
theorem StT.under {t : TypeId} {m : Nat} (h : StT P t m) : ∃ d, P.underlying t = some d ∧ naggD d = false := by
  have := h.1
  cases hu : P.underlying t with
  | none => simp [hu] at this
  | some d => exact ⟨d, rfl, by simpa [hu] using this⟩
theorem StT.info {t : TypeId} {m : Nat} (h : StT P t m) : ∃ i, P.info? t = some i ∧ i.size = m := by
  have := h.2
  cases hu : P.info? t with
  | none => simp [hu] at this
  | some d => exact ⟨d, rfl, by simpa [hu] using this⟩
theorem SlE.info {t e : TypeId} {z : Value} {b : Nat} (h : SlE P t e z b) : ∃ i, P.info? e = some i ∧ i.zero = some z ∧ i.size = 1 ∧ i.bytes = b := by
  have := h.2
  cases hu : P.info? e with
  | none => simp [hu] at this
  | some d => simp [hu] at this; exact ⟨d, rfl, this.1, this.2.1, this.2.2⟩
theorem ZeT.info {t : TypeId} {z : Value} (h : ZeT P t z) : ∃ i, P.info? t = some i ∧ i.zero = some z := by
  unfold ZeT at h
  cases hu : P.info? t with
  | none => simp [hu] at h
  | some d => exact ⟨d, rfl, by simpa [hu] using h⟩

theorem isAgg_one {t : TypeId} (h : One P t) : (isAgg t).run P w = .ok false w := by
  obtain ⟨d, hd, hn⟩ := h.under
  unfold isAgg
  simp only [Sem.run_bind, run_underlying hd, Result.andThen_ok]
  cases d <;> simp_all [naggD]
theorem isAgg_st {t : TypeId} {m : Nat} (h : StT P t m) : (isAgg t).run P w = .ok true w := by
  obtain ⟨d, hd, hn⟩ := h.under
  unfold isAgg
  simp only [Sem.run_bind, run_underlying hd, Result.andThen_ok]
  cases d <;> simp_all [naggD]

/-! ### Operations that touch no memory -/

theorem op_move {x : Operand} {v : Value} (h : ev f x = v) : OpV P (.move x) T f w v w := fun _ _ _ _ => by simp [execOp, h]
theorem op_assign {x : Operand} {v : Value} (h : ev f x = v) : OpV P (.assign x) T f w v w := fun _ _ _ _ => by simp [execOp, h]
theorem op_pick_t {c a b : Operand} {v : Value} (hc : ev f c = .bool true) (h : ev f a = v) : OpV P (.pick c a b) T f w v w := fun _ _ _ _ => by simp [execOp, hc, h, asBool]
theorem op_pick_f {c a b : Operand} {v : Value} (hc : ev f c = .bool false) (h : ev f b = v) : OpV P (.pick c a b) T f w v w := fun _ _ _ _ => by simp [execOp, hc, h, asBool]
theorem op_extract {x : Operand} {i : Nat} {vs : Array Value} {v : Value} (hx : ev f x = .tuple vs) (h : vs[i]? = some v) : OpV P (.extract x i) T f w v w := fun _ _ _ _ => by
  simp [execOp, hx, Instr.extract, h]
theorem op_makeFunc {fn : Fn} {a b : Array Operand} {va vb : Array Value} (ha : a.map (ev f) = va) (hb : b.map (ev f) = vb) : OpV P (.makeFunc fn a b) T f w (.func fn va vb) w := fun _ _ _ _ => by
  simp [execOp, Instr.makeFunc, ha, hb]
theorem op_nilCheck {x : Operand} {a : Addr} (h : ev f x = .pointer (some a)) : OpV P (.nilCheck x) T f w (.pointer (some a)) w := fun _ _ _ _ => by simp [execOp, h]
section
variable {x y : Operand} {t u : TypeId} {k : IntKind} {a b : Int} (hx : ev f x = .int k a) (hy : ev f y = .int k b)
include hx hy
theorem op_add : OpV P (.binOp .add t x y u) T f w (.int k (k.wrap (a + b))) w := fun _ _ _ _ => by simp [execOp, hx, hy, eqGuard, binOp, Op.intArith]
theorem op_sub : OpV P (.binOp .sub t x y u) T f w (.int k (k.wrap (a - b))) w := fun _ _ _ _ => by simp [execOp, hx, hy, eqGuard, binOp, Op.intArith]
theorem op_mul : OpV P (.binOp .mul t x y u) T f w (.int k (k.wrap (a * b))) w := fun _ _ _ _ => by simp [execOp, hx, hy, eqGuard, binOp, Op.intArith]
theorem op_quo (hb : b ≠ 0) : OpV P (.binOp .quo t x y u) T f w (.int k (k.wrap (a.tdiv b))) w := fun _ _ _ _ => by simp [execOp, hx, hy, eqGuard, binOp, Op.intDiv, hb]
theorem op_rem (hb : b ≠ 0) : OpV P (.binOp .rem t x y u) T f w (.int k (a.tmod b)) w := fun _ _ _ _ => by simp [execOp, hx, hy, eqGuard, binOp, Op.intDiv, hb]
theorem op_and : OpV P (.binOp .and t x y u) T f w (.int k (k.wrap (BitVec.ofInt k.bits a &&& BitVec.ofInt k.bits b).toNat)) w := fun _ _ _ _ => by simp [execOp, hx, hy, eqGuard, binOp, Op.intBits]
theorem op_lss : OpV P (.binOp .lss t x y u) T f w (.bool (decide (a < b))) w := fun _ _ _ _ => by simp [execOp, hx, hy, eqGuard, binOp, Op.intCmp]
theorem op_leq : OpV P (.binOp .leq t x y u) T f w (.bool (decide (a ≤ b))) w := fun _ _ _ _ => by simp [execOp, hx, hy, eqGuard, binOp, Op.intCmp]
theorem op_gtr : OpV P (.binOp .gtr t x y u) T f w (.bool (decide (a > b))) w := fun _ _ _ _ => by simp [execOp, hx, hy, eqGuard, binOp, Op.intCmp]
theorem op_geq : OpV P (.binOp .geq t x y u) T f w (.bool (decide (a ≥ b))) w := fun _ _ _ _ => by simp [execOp, hx, hy, eqGuard, binOp, Op.intCmp]
theorem op_eql : OpV P (.binOp .eql t x y u) T f w (.bool (a == b)) w := fun _ _ _ _ => by simp [execOp, hx, hy, eqGuard, binOp, Op.intCmp]
theorem op_neq : OpV P (.binOp .neq t x y u) T f w (.bool (a != b)) w := fun _ _ _ _ => by simp [execOp, hx, hy, eqGuard, binOp, Op.intCmp]
end

section
variable {x y : Operand} {t u : TypeId} {k k' : IntKind} {a b : Int} (hx : ev f x = .int k a) (hy : ev f y = .int k' b)
include hx hy
theorem op_shr (hb : 0 ≤ b) : OpV P (.binOp .shr t x y u) T f w (.int k (a.fdiv (2 ^ (min b.toNat k.bits)))) w := fun _ _ _ _ => by
  have hn : ¬ b < 0 := by omega
  simp [execOp, hx, hy, eqGuard, binOp, Op.shift, hn]
end

theorem equal_def (t : TypeId) (x y : Value) : Op.equal t x y = Op.equalIn (9999 + 1) t x y := rfl
theorem equalIn_bool (d : Nat) {t : TypeId} (a b : Bool) (ht : P.underlying t = some .bool) : (Op.equalIn (d + 1) t (.bool a) (.bool b)).run P w = .ok (a == b) w := by simp [Op.equalIn, run_underlying ht]
theorem equalIn_nil (d : Nat) {t e : TypeId} (p : Option Addr) (l c : Nat) (ht : P.underlying t = some (.slice e)) : (Op.equalIn (d + 1) t (.slice p l c) (.slice none 0 0)).run P w = .ok p.isNone w := by
  cases p <;> simp [Op.equalIn, run_underlying ht]

theorem op_bneq {x y : Operand} {t u : TypeId} {a b : Bool} (hx : ev f x = .bool a) (hy : ev f y = .bool b) (ht : P.underlying t = some .bool) : OpV P (.binOp .neq t x y u) T f w (.bool (a != b)) w := fun _ _ _ _ => by
  have : (!(a == b)) = (a != b) := rfl
  simp only [execOp, hx, hy, eqGuard, binOp, equal_def]
  simp [equalIn_bool 9999 a b ht, this]

/-- A slice against nil. -/
theorem op_eqlNil {x y : Operand} {t u e : TypeId} {p : Option Addr} {l c : Nat} (hx : ev f x = .slice p l c) (hy : ev f y = .slice none 0 0) (ht : P.underlying t = some (.slice e)) : OpV P (.binOp .eql t x y u) T f w (.bool p.isNone) w := fun _ _ _ _ => by
  simp only [execOp, hx, hy, eqGuard, binOp, equal_def]
  simp [equalIn_nil 9999 p l c ht]
theorem op_not {x : Operand} {t : TypeId} {b : Bool} (hx : ev f x = .bool b) : OpV P (.unOp .not t x) T f w (.bool !b) w := fun _ _ _ _ => by simp [execOp, hx, Op.unary]
theorem op_neg {x : Operand} {t : TypeId} {k : IntKind} {a : Int} (hx : ev f x = .int k a) : OpV P (.unOp .neg t x) T f w (.int k (k.wrap (0 - a))) w := fun _ _ _ _ => by
  simp [execOp, hx, Op.unary, Op.intArith]
theorem op_convert {x : Operand} {s d : TypeId} {k k' : IntKind} {a : Int} (hx : ev f x = .int k a) (hs : IntT P s k) (hd : IntT P d k') : OpV P (.convert s d x) T f w (.int k' (k'.wrap a)) w := fun _ _ _ _ => by
  simp [execOp, hx, convert, run_underlying hs, run_underlying hd, Conv.intToInt]

theorem op_len {x : Operand} {t e : TypeId} {p : Option Addr} {l c : Nat} (hx : ev f x = .slice p l c) (ht : P.underlying t = some (.slice e)) :
    OpV P (.call { callee := .builtin .len, args := #[x], argTypes := #[t] }) T f w (.int .i64 (l : Int)) w := fun _ _ _ _ => by
  simp [execOp, resolve, invoke, builtin, hx, Builtin.len_, run_underlying ht, goInt]
theorem op_max2 {x y : Operand} {ts : Array TypeId} {k : IntKind} {a b : Int} (hx : ev f x = .int k a) (hy : ev f y = .int k b) :
    OpV P (.call { callee := .builtin .max, args := #[x, y], argTypes := ts }) T f w (.int k (if b > a then b else a)) w := fun _ _ _ _ => by
  simp [execOp, resolve, invoke, builtin, hx, hy, Builtin.max_, Builtin.max2]
theorem op_min2 {x y : Operand} {ts : Array TypeId} {k : IntKind} {a b : Int} (hx : ev f x = .int k a) (hy : ev f y = .int k b) :
    OpV P (.call { callee := .builtin .min, args := #[x, y], argTypes := ts }) T f w (.int k (if b < a then b else a)) w := fun _ _ _ _ => by
  simp [execOp, resolve, invoke, builtin, hx, hy, Builtin.min_, Builtin.min2]
/-! ### Calls -/

theorem callFunc_run {g : FuncId} (hg : FnOk P g) (args : Array Value) : (callFunc g args).run P w = .ok (.enter g args) w := by
  unfold FnOk at hg
  cases hf : P.funcs[g]? with
  | none => simp [hf] at hg
  | some fn =>
    simp [hf] at hg
    have h2 : ¬ fn.name = "runtime.NumGoroutine" := hg.2
    have h3 : ¬ fn.body = none := fun e => by simp [e] at hg
    simp [callFunc, hf, h2, h3]

theorem op_call {g : FuncId} {as : Array Operand} {ts : Array TypeId} {args : Array Value} (hg : FnOk P g) (ha : as.map (ev f) = args) :
    OpC P (.call { callee := .value (.func g), args := as, argTypes := ts }) T f w g args := fun _ _ _ _ => by
  simp [execOp, resolve, Deferred.ofValue, ev, invoke, ha, callFunc_run hg]
theorem op_callV {g : FuncId} {x : Operand} {as : Array Operand} {ts : Array TypeId} {args first cap : Array Value} (hx : ev f x = .func (.func g) first cap) (hg : FnOk P g) (ha : as.map (ev f) = args) :
    OpC P (.call { callee := .value x, args := as, argTypes := ts }) T f w g (first ++ args ++ cap) := fun _ _ _ _ => by
  simp [execOp, resolve, Deferred.ofValue, hx, invoke, ha, callFunc_run hg]

/-! ### Addresses -/

theorem op_indexAddr {x i : Operand} {t e : TypeId} {z : Value} {by_ : Nat} {v : Value} {p : Option Addr} {l c : Nat} {k : IntKind} {j : Int} (ht : SlE P t e z by_) (hx : ev f x = v) (hv : v = .slice p l c) (hp : l ≠ 0 → p ≠ none)
    (hi : ev f i = .int k j) (h0 : 0 ≤ j) (h1 : j < l) : OpV P (.indexAddr t x i) T f w (.pointer (some (elA v j.toNat))) w := fun _ _ _ _ => by
  obtain ⟨inf, hinf, _, hs, _⟩ := ht.info
  subst hv
  cases p with
  | none => exact absurd rfl (hp (by omega))
  | some a => simp [execOp, Instr.indexAt, hx, hi, asIntOf, run_underlying ht.1, h0, h1, sizeOf, typeInfo, hinf, hs, elA]

theorem op_fieldAddr {x : Operand} {t k off m b o : Nat} (hf : FdT P t k off m) (hx : ev f x = .pointer (some ⟨b, o, none⟩)) : OpV P (.fieldAddr t x k) T f w (.pointer (some ⟨b, o + off, none⟩)) w := fun _ _ _ _ => by
  obtain ⟨h, hm⟩ := hf
  cases hu : P.underlying t with
  | none => simp [hu] at h
  | some d =>
    cases d <;> simp [hu] at h
    rename_i fs
    obtain ⟨fd, hfd, h1, h2⟩ := h
    cases hi : P.info? fd.type with
    | none => simp [hi] at h2
    | some inf =>
      have hs : inf.size = m := by simpa [hi] using h2
      have hm' : ¬ inf.size = 0 := by omega
      have hadd : (⟨b, o, none⟩ : Addr).add off = ⟨b, o + off, none⟩ := by unfold Addr.add; split <;> simp_all
      simp [execOp, Instr.fieldAt, hx, run_underlying hu, hfd, Instr.sureAddr, fieldPlace, sizeOf, typeInfo, hi, hm', h1, hadd]

/-! ### Loads -/

theorem op_load {a : Operand} {t : TypeId} {p : Addr} {u : Value} (ht : One P t) (ha : ev f a = .pointer (some p)) (hc : w.cell? p = some u) : OpV P (.load t a) T f w u w := fun _ _ _ _ => by
  simp [execOp, Instr.loadAt, ha, Instr.sureAddr, loadVar, isAgg_one ht, hc]

theorem cell_in {b : Nat} {vs : List Value} {T' : TypeId} {fz : Nat × Nat} (hb : w.heap[b]? = some (.cells vs.toArray T' fz)) {o : Nat} {u : Value} (hu : vs[o]? = some u) : w.cell? ⟨b, o, none⟩ = some u := by
  simp [World.cell?, hb, hu]

theorem op_loadAgg {a : Operand} {t m b o : Nat} {vs us : List Value} {T' : TypeId} {fz : Nat × Nat} (ht : StT P t m) (ha : ev f a = .pointer (some ⟨b, o, none⟩)) (hb : w.heap[b]? = some (.cells vs.toArray T' fz))
    (hu : (vs.drop o).take m = us) (hm : us.length = m) : OpV P (.load t a) T f w (.agg us.toArray) w := fun _ _ _ _ => by
  obtain ⟨inf, hinf, hs⟩ := ht.info
  have hl := run_loadCells_list (P := P) w ⟨b, o, none⟩ us (fun j v hj => by
    have hadd : (⟨b, o, none⟩ : Addr).add j = ⟨b, o + j, none⟩ := by unfold Addr.add; split <;> simp_all
    rw [hadd]
    refine cell_in hb ?_
    subst hu
    rw [List.getElem?_take] at hj
    split at hj
    · simpa using hj
    · cases hj)
  rw [hm] at hl
  simp [execOp, Instr.loadAt, ha, Instr.sureAddr, loadVar, isAgg_st ht, sizeOf, typeInfo, hinf, hs, hl]

/-! ### New blocks -/

theorem op_box {x : Operand} {t : TypeId} {v : Value} {cs : Array Value} (hx : ev f x = v) (hc : v.cells = cs) : OpV P (.box t x) T f w (.pointer (some ⟨w.heap.size, 0, none⟩)) (w.alloc (.cells cs t)) := fun _ _ _ _ => by
  simp [execOp, Instr.box, newVar, newRow, hx, hc]
theorem op_alloc {t : TypeId} {z : Value} {cs : Array Value} (ht : ZeT P t z) (hc : z.cells = cs) : OpV P (.alloc t) T f w (.pointer (some ⟨w.heap.size, 0, none⟩)) (w.alloc (.cells cs t)) := fun _ _ _ _ => by
  obtain ⟨i, hi, hz⟩ := ht.info
  simp [execOp, Instr.alloc, zeroValue, typeInfo, hi, hz, newVar, newRow, hc]
end
end Go.VG
