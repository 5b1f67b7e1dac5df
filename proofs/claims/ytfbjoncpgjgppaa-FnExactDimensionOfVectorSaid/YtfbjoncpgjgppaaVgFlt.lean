/- Doubles: values told by their bits; the operations. No condition. -/
import Derived.Test.YtfbjoncpgjgppaaVgCopy
import Derived.Laws.FloatArith
import Derived.Laws.Externs
set_option linter.all false
namespace Go.VG
open Go.RowKit (Below)
def FV (x : Int) : Value := .float .f64 x.toNat
def InF (x : Int) : Prop := 0 ≤ x ∧ x < 18446744073709551616
def Ty.f : Ty Int where
  own := fun _ _ v x => v = FV x ∧ InF x
  rep := fun _ v x => v = FV x ∧ InF x
  loc := fun _ h => h
  mono := fun _ h => h
  toRep := fun h => h
  ext := fun _ h => h
  one := fun h => by rw [h.1]; rfl
theorem flat_f : Ty.f.Flat := fun _ _ _ _ h => h
theorem inF_nat {n : Nat} (h : n < 2 ^ 64) : InF (n : Int) := by
  have e : (2 : Nat) ^ 64 = 18446744073709551616 := by decide
  unfold InF; omega
theorem inF_zero : InF 0 := by unfold InF; omega
def fAdd (x y : Int) : Option Int := (Ieee.double.add x.toNat y.toNat).map Int.ofNat
def fMul (x y : Int) : Option Int := (Ieee.double.mul x.toNat y.toNat).map Int.ofNat
def fQuo (x y : Int) : Option Int := (Ieee.double.div x.toNat y.toNat).map Int.ofNat
def fOf (n : Int) : Int := ((FloatKind.f64.nearest n : Nat) : Int)
def fTo (x : Int) : Option Int := floatToIntVal .f64 x.toNat .i64
def fMax (x y : Int) : Option Int :=
  match Ieee.double.order x.toNat y.toNat with
  | none => none
  | some .lt => some y
  | some .gt => some x
  | some .eq => some (if (FloatKind.f64.decode x.toNat).neg then y else x)
theorem fAdd_in {x y r : Int} (h : fAdd x y = some r) : InF r := by
  unfold fAdd at h
  obtain ⟨n, h1, rfl⟩ := Option.map_eq_some_iff.1 h
  exact inF_nat (Ieee.double.add_lt h1)
theorem fMul_in {x y r : Int} (h : fMul x y = some r) : InF r := by
  unfold fMul at h
  obtain ⟨n, h1, rfl⟩ := Option.map_eq_some_iff.1 h
  exact inF_nat (Ieee.double.mul_lt h1)
theorem fQuo_in {x y r : Int} (h : fQuo x y = some r) : InF r := by
  unfold fQuo at h
  obtain ⟨n, h1, rfl⟩ := Option.map_eq_some_iff.1 h
  exact inF_nat (Ieee.double.div_lt h1)
theorem fOf_in (n : Int) : InF (fOf n) := inF_nat (Ieee.double.write_lt (.number (n < 0) n.natAbs 0))
theorem fTo_in {x r : Int} (h : fTo x = some r) : InR .i64 r := by
  unfold fTo floatToIntVal at h
  split at h
  · split at h
    · rename_i hb; cases h; exact hb
    · cases h
  · cases h
theorem fMax_in {x y r : Int} (hx : InF x) (hy : InF y) (h : fMax x y = some r) : InF r := by
  unfold fMax at h
  split at h
  · cases h
  · cases h; exact hy
  · cases h; exact hx
  · cases h
    split
    · exact hy
    · exact hx
section
variable {P : Program} {f : Fr} {w : World} {T t u : TypeId} {x y : Operand} {a b r : Int}
theorem op_fadd (hx : ev f x = FV a) (hy : ev f y = FV b) (h : fAdd a b = some r) : OpV P (.binOp .add t x y u) T f w (FV r) w := fun _ _ _ _ => by
  unfold fAdd at h
  obtain ⟨n, h1, rfl⟩ := Option.map_eq_some_iff.1 h
  have := run_float_arith (P := P) w .add t .f64 a.toNat b.toNat n h1
  simp [execOp, hx, hy, FV, eqGuard, this]
theorem op_fmul (hx : ev f x = FV a) (hy : ev f y = FV b) (h : fMul a b = some r) : OpV P (.binOp .mul t x y u) T f w (FV r) w := fun _ _ _ _ => by
  unfold fMul at h
  obtain ⟨n, h1, rfl⟩ := Option.map_eq_some_iff.1 h
  have := run_float_arith (P := P) w .mul t .f64 a.toNat b.toNat n h1
  simp [execOp, hx, hy, FV, eqGuard, this]
theorem op_fquo (hx : ev f x = FV a) (hy : ev f y = FV b) (h : fQuo a b = some r) : OpV P (.binOp .quo t x y u) T f w (FV r) w := fun _ _ _ _ => by
  unfold fQuo at h
  obtain ⟨n, h1, rfl⟩ := Option.map_eq_some_iff.1 h
  have := run_float_arith (P := P) w .quo t .f64 a.toNat b.toNat n h1
  simp [execOp, hx, hy, FV, eqGuard, this]
def FltT (P : Program) (T : TypeId) : Prop := P.underlying T = some (.float .f64)
theorem op_fof {k : IntKind} (hx : ev f x = .int k a) (hs : IntT P t k) (hd : FltT P u) : OpV P (.convert t u x) T f w (FV (fOf a)) w := fun _ _ _ _ => by
  simp [execOp, hx, convert, run_underlying hs, run_underlying hd, Conv.intToFloat, FV, fOf]
theorem op_fto (hx : ev f x = FV a) (hs : FltT P t) (hd : IntT P u .i64) (h : fTo a = some r) : OpV P (.convert t u x) T f w (.int .i64 r) w := fun _ _ _ _ => by
  have := run_convert_float_int (P := P) w t u .f64 .i64 a.toNat r (by rw [hs]; rfl) hd h
  simp [execOp, hx, FV, this]
theorem op_fmax {ts : Array TypeId} (hx : ev f x = FV a) (hy : ev f y = FV b) (h : fMax a b = some r) :
    OpV P (.call { callee := .builtin .max, args := #[x, y], argTypes := ts }) T f w (FV r) w := fun _ _ _ _ => by
  unfold fMax at h
  have e : FloatKind.f64.format = Ieee.double := rfl
  cases ho : Ieee.double.order a.toNat b.toNat with
  | none => rw [ho] at h; cases h
  | some c =>
    rw [ho] at h
    cases c <;> simp only at h <;> cases h <;> simp [execOp, resolve, invoke, builtin, hx, hy, FV, Builtin.max_, Builtin.max2, e, ho]
    split <;> rfl
/-- A function without a body, which the machine carries out. -/
def ExtB (P : Program) (g : FuncId) (e : Array Value → Sem Value) : Prop := ∃ fn, P.funcs[g]? = some fn ∧ (fn.name == "runtime.NumGoroutine") = false ∧ fn.body.isNone = true ∧ Extern.findNext fn = none ∧ Extern.find fn = some e
theorem op_fbits {g : FuncId} {ts : Array TypeId} (hg : ExtB P g Extern.MathFloatBits.float64bits) (hx : ev f x = FV a) (ha : InF a) :
    OpV P (.call { callee := .value (.func g), args := #[x], argTypes := ts }) T f w (.int .u64 a) w := fun _ _ _ _ => by
  obtain ⟨fn, hf, hn, hb, hnx, he⟩ := hg
  have := run_callFunc_extern (P := P) hf hn hb hnx he #[FV a] w
  have e2 : (a.toNat : Int) = a := Int.toNat_of_nonneg ha.1
  have hev : ev f (.func g) = .func (.func g) #[] #[] := rfl
  simp [execOp, resolve, Deferred.ofValue, hev, invoke, hx, this]
  have hr : Extern.MathFloatBits.float64bits #[FV a] = pure (.int .u64 (a.toNat : Int)) := rfl
  rw [hr, e2]
  simp
theorem op_ffrom {g : FuncId} {ts : Array TypeId} (hg : ExtB P g Extern.MathFloatBits.float64frombits) (hx : ev f x = .int .u64 a) :
    OpV P (.call { callee := .value (.func g), args := #[x], argTypes := ts }) T f w (FV a) w := fun _ _ _ _ => by
  obtain ⟨fn, hf, hn, hb, hnx, he⟩ := hg
  have := run_callFunc_extern (P := P) hf hn hb hnx he #[.int .u64 a] w
  have hev : ev f (.func g) = .func (.func g) #[] #[] := rfl
  simp [execOp, resolve, Deferred.ofValue, hev, invoke, hx, this]
  have hr : Extern.MathFloatBits.float64frombits #[.int .u64 a] = pure (FV a) := rfl
  rw [hr]
  simp
theorem inF_u64 (h : InR .u64 a) : InF a := by
  obtain ⟨h1, h2⟩ := h
  simp [IntKind.min, IntKind.max, IntKind.signed, IntKind.bits] at h1 h2
  unfold InF; omega
theorem u64_inF (h : InF a) : InR .u64 a := by
  unfold InF at h
  simp [InR, IntKind.min, IntKind.max, IntKind.signed, IntKind.bits]; omega
end
end Go.VG
