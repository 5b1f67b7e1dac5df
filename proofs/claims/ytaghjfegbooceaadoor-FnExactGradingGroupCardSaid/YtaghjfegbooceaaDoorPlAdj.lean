/- The adjoint subring: the code's and the model's. Plain. -/
import Derived.Test.YtaghjfegbooceaaDoorPlSub
set_option linter.all false
namespace Go.VG
def adjW (T : List (List (List Int))) : Nat := 1 ||| orN (fun i => supp T i (du T i).toNat) T.length
def adj (T : List (List (List Int))) : Nat := cl T (adjW T)
section
variable {T : List (List (List Int))}
theorem adjW_lt (h : RingOK T) : adjW T < 2 ^ T.length := or_lt h.one_lt (orN_lt fun i _ => supp_lt _ _)
theorem adjO_lt (T : List (List (List Int))) : orN (fun i => supp T i (du T i).toNat) T.length < 2 ^ T.length := orN_lt fun i _ => supp_lt _ _
theorem specAdj (h : RingOK T) : p_spec_l05Adjoint T = some ((adj T : Nat) : Int) := by
  have hc := h.cube
  have hn := h.n16
  unfold p_spec_l05Adjoint
  have := forN_or (R := Unit) (n := T.length) (m0 := 1) (N := T.length) (body := fun k s => p_spec_l05Adjoint_L1 T k s) (fun i => supp T i (du T i).toNat) h.one_lt (fun i _ => supp_lt _ _) (fun i x hi hx => by
    have hd := h.duN hi
    have ed := du_nat h hi
    have e1 : idx (T.getD i []) (du T i) = some ((T.getD i []).getD (du T i).toNat []) := by rw [ed, Int.toNat_natCast]; exact hc.i2 hi hd
    simp only [p_spec_l05Adjoint_L1, hc.i1 hi, (dual_spec hc hi).1, e1, Option.bind_some, hc.row hi hd]
    have := forN_det (R := Unit) (N := T.length) (body := fun k s => p_spec_l05Adjoint_L2 ((T.getD i []).getD (du T i).toNat []) k s) (fun k => ((x ||| wd (fun k => decide (0 < at3 T i (du T i).toNat k)) k : Nat) : Int)) (fun k hk => by
      simp only [p_spec_l05Adjoint_L2, hc.i3 hi hd hk, Option.bind_some]
      by_cases hp : 0 < at3 T i (du T i).toNat k
      · have e : decide (at3 T i (du T i).toNat k > 0) = true := by simpa using hp
        have e2 : (wd (fun k => decide (0 < at3 T i (du T i).toNat k)) (k + 1)) = wd (fun k => decide (0 < at3 T i (du T i).toNat k)) k ||| 2 ^ k := by simp [wd, hp]
        simp only [e, if_true, u64_lab (by omega : k ≤ 62), shl_word (by omega : k ≤ 61), Option.bind_some]
        rw [or_i64 (or_lt (lt_pow_mono hx (by omega)) (lt_pow_mono (wd_lt _ k) (by omega))) (one_lt_pow (by omega)), e2, Nat.or_assoc]
      · have e : decide (at3 T i (du T i).toNat k > 0) = false := by simpa using hp
        have e2 : (wd (fun k => decide (0 < at3 T i (du T i).toNat k)) (k + 1)) = wd (fun k => decide (0 < at3 T i (du T i).toNat k)) k := by simp [wd, hp]
        simp only [e, Bool.false_eq_true, if_false, Option.bind_some, e2])
    have e0 : x ||| wd (fun k => decide (0 < at3 T i (du T i).toNat k)) 0 = x := by simp [wd]
    rw [e0] at this
    rw [this]
    rfl)
  have this' : forN (R := Unit) (fun k s => p_spec_l05Adjoint_L1 T k s) T.length 0 (1 : Int) = _ := this
  rw [this']
  simp only [Option.bind_some, onRes]
  have := from_eq h (adjW_lt h)
  unfold adjW at this
  rw [this]
  rfl
theorem implAdj (h : RingOK T) : p_impl_Ring_adjoint T = some ((adj T : Nat) : Int) := by
  have hc := h.cube
  have hn := h.n16
  unfold p_impl_Ring_adjoint
  rw [supports_eq hc, duals_eq hc]
  simp only [Option.bind_some, duL_len]
  have := forN_or (R := Unit) (n := T.length) (m0 := 0) (N := T.length) (body := fun k s => p_impl_Ring_adjoint_L1 (duL T) (grid (supI T) T.length T.length) k s) (fun i => supp T i (du T i).toNat) (Nat.two_pow_pos _) (fun i _ => supp_lt _ _) (fun i x hi hx => by
    have hd := h.duN hi
    have e1 : idx (rowG (supI T) T.length i) (du T i) = some (supI T i (du T i).toNat) := by rw [du_nat h hi, Int.toNat_natCast]; exact rowG_idx hd
    simp only [p_impl_Ring_adjoint_L1, duL_idx hi, grid_idx hi, e1, Option.bind_some, supI]
    rw [orW (by omega : T.length ≤ 62) hx (supp_lt _ _)])
  have this' : forN (R := Unit) (fun k s => p_impl_Ring_adjoint_L1 (duL T) (grid (supI T) T.length T.length) k s) T.length 0 (0 : Int) = _ := this
  rw [this']
  simp only [Option.bind_some, onRes, Nat.zero_or]
  rw [closed_eq h (adjO_lt T), Nat.or_comm]
  rfl
end
end Go.VG
