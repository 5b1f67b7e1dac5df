/- math/bits.TrailingZeros64's table: what a contract asks of the world, and the arithmetic behind it. No condition. -/
import Derived.Test.YtaghjfegbooceaaDoorVgGen
import Derived.Lib.TrailingZeros
import Derived.Lib.LaidTab
set_option linter.all false
namespace Go.VG
open Go.RowKit (Below)

def tzTab : List Int := Go.Lib.deBruijn64tab.map Int.ofNat
/-- Global 0 holds the table. -/
def TabAt (w : World) : Prop := ∀ i, i < 64 → w.cell? ⟨0, i, none⟩ = some (.int .u8 (tzTab.getD i 0))
theorem TabAt.ext {w w' : World} (h : TabAt w) (he : Ext w w') : TabAt w' := by
  intro i hi
  have h0 := h i hi
  have hlt : 0 < w.heap.size := by
    apply Nat.pos_of_ne_zero
    intro hz
    have : w.heap[0]? = none := by simp [hz]
    simp [World.cell?, this] at h0
  rw [← h0]
  simp only [World.cell?]
  rw [he.block 0 hlt]

/-- An array type of n cells. -/
def AyT (P : Program) (T n E : Nat) : Prop := P.underlying T = some (.array n E) ∧ (P.info? E).map (·.size) = some 1

theorem op_indexArr {P : Program} {f : Fr} {w : World} {T : TypeId} {x i : Operand} {t e n g : Nat} {k : IntKind} {j : Int} (ht : AyT P t n e) (hx : ev f x = .pointer (some ⟨g, 0, none⟩)) (hi : ev f i = .int k j) (h0 : 0 ≤ j) (h1 : j < n) :
    OpV P (.indexAddr t x i) T f w (.pointer (some ⟨g, j.toNat, none⟩)) w := fun _ _ _ _ => by
  obtain ⟨hu, hs⟩ := ht
  cases hinf : P.info? e with
  | none => simp [hinf] at hs
  | some inf =>
    have hs' : inf.size = 1 := by simpa [hinf] using hs
    simp [execOp, Instr.indexAt, hx, hi, asIntOf, run_underlying hu, h0, h1, sizeOf, typeInfo, hinf, hs', Instr.sureAddr, Addr.add]
    try omega

/-- How often 2 divides x. -/
def tz64 (x : Int) : Int := if x = 0 then 64 else (Go.Lib.ctz 64 x.toNat : Int)

def tzIx (x : Int) : Int := ((IntKind.u64.wrap ((andI .u64 x (IntKind.u64.wrap (0 - x))) * (285870213051353865 : Int)))).fdiv (2 ^ 58)

theorem u64_wrap (z : Int) : IntKind.u64.wrap z = z % 18446744073709551616 := by simp [IntKind.wrap, IntKind.signed, IntKind.bits]
theorem u64_neg {m : Nat} (h0 : m ≠ 0) (hm : m < 18446744073709551616) : IntKind.u64.wrap (0 - (m : Int)) = ((18446744073709551616 - m : Nat) : Int) := by rw [u64_wrap]; omega
theorem low_bit {m : Nat} (hm0 : m ≠ 0) (hm : m < 18446744073709551616) : m &&& (18446744073709551616 - m) = 2 ^ Go.Lib.ctz 64 m ∧ Go.Lib.ctz 64 m < 64 := by
  have e : (18446744073709551616 : Nat) = 2 ^ 64 := by decide
  rw [e] at hm ⊢
  exact Go.Lib.lowest_bit 64 m hm0 hm
theorem and_nat {a b : Nat} (ha : a < 18446744073709551616) (hb : b < 18446744073709551616) : (BitVec.ofInt IntKind.u64.bits (a : Int) &&& BitVec.ofInt IntKind.u64.bits (b : Int)).toNat = a &&& b := by
  have e : IntKind.u64.bits = 64 := rfl
  rw [e, BitVec.toNat_and, BitVec.ofInt_natCast, BitVec.ofInt_natCast, BitVec.toNat_ofNat, BitVec.toNat_ofNat]
  have e2 : (2 : Nat) ^ 64 = 18446744073709551616 := by decide
  rw [e2, Nat.mod_eq_of_lt ha, Nat.mod_eq_of_lt hb]
theorem shr58 (z : Int) : z.fdiv (2 ^ 58) = z / 288230376151711744 := by
  have e : ((2 : Int) ^ 58) = 288230376151711744 := by decide
  rw [e, Int.fdiv_eq_ediv_of_nonneg _ (by decide)]
theorem mul_nat (q : Nat) : IntKind.u64.wrap ((q : Int) * 285870213051353865) / 288230376151711744 = ((q * 285870213051353865 % 18446744073709551616 / 288230376151711744 : Nat) : Int) := by
  rw [u64_wrap]; omega
theorem pow_lt {k : Nat} (h : k < 64) : 2 ^ k < 18446744073709551616 := by
  have e2 : (2 : Nat) ^ 64 = 18446744073709551616 := by decide
  rw [← e2]; exact Nat.pow_lt_pow_right (by decide) h
theorem wrap_nat {q : Nat} (h : q < 18446744073709551616) : IntKind.u64.wrap (q : Int) = q := by rw [u64_wrap]; omega
theorem u64_nat {x : Int} (hr : InR .u64 x) : ∃ m : Nat, x = m ∧ m < 18446744073709551616 := by
  obtain ⟨h1, h2⟩ := hr
  simp [IntKind.min, IntKind.max, IntKind.signed, IntKind.bits] at h1 h2
  exact ⟨x.toNat, by omega, by omega⟩
theorem tab_at {q k : Nat} (hq : q < 64) (hb : Go.Lib.deBruijn64tab.getD q 0 = k) : tzTab.getD q 0 = (k : Int) := by
  have hlen : Go.Lib.deBruijn64tab.length = 64 := rfl
  subst hb
  unfold tzTab
  simp only [List.getD_eq_getElem?_getD, List.getElem?_map]
  rw [List.getElem?_eq_getElem (by omega)]
  simp

theorem tz_ix {x : Int} (hr : InR .u64 x) (h0 : x ≠ 0) : 0 ≤ tzIx x ∧ tzIx x < 64 ∧ tzTab.getD (tzIx x).toNat 0 = (Go.Lib.ctz 64 x.toNat : Int) := by
  obtain ⟨m, rfl, hm⟩ := u64_nat hr
  have hm0 : m ≠ 0 := by intro h; apply h0; rw [h]; rfl
  obtain ⟨hl, hk⟩ := low_bit hm0 hm
  obtain ⟨ha, hb⟩ := Go.Lib.deBruijn64_at _ hk
  have hix : tzIx (m : Int) = ((2 ^ Go.Lib.ctz 64 m * 285870213051353865 % 18446744073709551616 / 288230376151711744 : Nat) : Int) := by
    unfold tzIx andI
    rw [u64_neg hm0 hm, and_nat hm (Nat.sub_lt_self (Nat.pos_of_ne_zero hm0) (Nat.le_of_lt hm)), hl, wrap_nat (pow_lt hk), shr58, mul_nat]
  rw [hix, Int.toNat_natCast, Int.toNat_natCast]
  exact ⟨Int.natCast_nonneg _, Int.ofNat_lt.2 ha, tab_at ha hb⟩

theorem tz64_range {x : Int} (hr : InR .u64 x) : 0 ≤ tz64 x ∧ tz64 x ≤ 64 := by
  unfold tz64
  split
  · omega
  · rename_i h0
    obtain ⟨m, rfl, hm⟩ := u64_nat hr
    have := (low_bit (by intro h; apply h0; rw [h]; rfl) hm).2
    rw [Int.toNat_natCast]
    omega
theorem tz_pos {x : Int} (h : (x == (0 : Int)) = true) : tz64 x = 64 := if_pos (by simpa using h)
theorem tz_ne {x : Int} (h : (x == (0 : Int)) = false) : x ≠ 0 := by simpa using h
theorem tz_neg {x : Int} (hr : InR .u64 x) (h : (x == (0 : Int)) = false) : tz64 x = w64 (tzTab.getD (tzIx x).toNat 0) := by
  have e : tzTab.getD (tzIx x).toNat 0 = tz64 x := by rw [(tz_ix hr (tz_ne h)).2.2]; exact (if_neg (tz_ne h)).symm
  have := tz64_range hr
  rw [e]
  exact (w64_id (inR_i64.2 (by omega))).symm
theorem tz_lt {x : Int} (hr : InR .u64 x) (h : (x == (0 : Int)) = false) : (tzIx x).toNat < 64 := by
  have := tz_ix hr (tz_ne h); omega

end Go.VG
