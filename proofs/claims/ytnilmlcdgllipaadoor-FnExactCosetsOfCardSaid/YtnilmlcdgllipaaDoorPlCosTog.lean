/- The code's test of one coset. Plain. -/
import Derived.Test.YtnilmlcdgllipaaDoorPlCls
import Derived.Test.YtnilmlcdgllipaaDoorPlSubs
set_option linter.all false
namespace Go.VG
section
variable {T : List (List (List Int))}
theorem cos_round {m i j q a : Nat} (hi : i < T.length) (ha : a < T.length) (hj : j ≤ 61) (hk : idx (bitsFrom m 0 T.length) (q : Int) = some (a : Int)) (hs : supp T i a < 2 ^ 62) :
    p_impl_CosetsOf_c1_L1 (bitsFrom m 0 T.length) (grid (supI T) T.length T.length) (i : Int) (j : Int) q = if (supp T i a).testBit j = true then some (.ret true) else some (.next ()) := by
  unfold p_impl_CosetsOf_c1_L1
  rw [hk, Option.bind_some, grid_idx hi, Option.bind_some, rowG_idx ha, Option.bind_some, supI, shr_word hs hj, Option.bind_some, shr_bit1 hs]
theorem cosTog (h : RingOK T) {m : Nat} (hm : m < 2 ^ T.length) {i j : Nat} (hi : i < T.length) (hj : j < T.length) : p_impl_CosetsOf_c1 (i : Int) (j : Int) (m : Int) (grid (supI T) T.length T.length) = some (rbC T m i j) := by
  have hn := h.n16
  unfold p_impl_CosetsOf_c1
  simp only [labels_eq (by omega : T.length ≤ 63) hm, Option.bind_some]
  have := forN_chk (R := Bool) (N := (bitsFrom m 0 T.length).length) (body := fun k s => p_impl_CosetsOf_c1_L1 (bitsFrom m 0 T.length) (grid (supI T) T.length T.length) (i : Int) (j : Int) k) (P := fun q => (supp T i ((labN m T.length).getD q 0)).testBit j = false) (Bad := fun r => r = true) (fun q hq _ => by
    rw [bits_len] at hq
    obtain ⟨ha, hma⟩ := labN_at hq
    have hk := bits_idx hq
    have e := cos_round (j := j) hi ha (by omega) hk (lt_pow_mono (supp_lt _ _) (by omega))
    refine ChkC.congr (P := (supp T i ((labN m T.length).getD q 0)).testBit j = false) ?_ Iff.rfl
    show ChkC (p_impl_CosetsOf_c1_L1 (bitsFrom m 0 T.length) (grid (supI T) T.length T.length) (i : Int) (j : Int) q) _ _
    rw [e]
    exact ChkC.ite rfl)
  rw [bits_len] at this
  rcases this with ⟨h1, h2⟩ | ⟨h1, r, h2, rfl⟩
  · rw [bits_len, h2]
    simp only [Option.bind_some, onRes]
    congr 1
    symm
    rw [← Bool.not_eq_true, rbC_iff]
    rintro ⟨a, ha, hma, hj', hp⟩
    obtain ⟨q, g1, g2⟩ := labN_ex ha hma
    have := h1 q g1
    rw [g2, (supp_bit i a j).2 ⟨hj', hp⟩] at this
    cases this
  · rw [bits_len, h2]
    simp only [Option.bind_some, onRes]
    congr 1
    symm
    apply Classical.byContradiction
    intro hc
    refine h1 fun q hq => ?_
    obtain ⟨ha, hma⟩ := labN_at hq
    rw [← Bool.not_eq_true]
    intro hb
    obtain ⟨g1, g2⟩ := (supp_bit _ _ _).1 hb
    exact hc ((rbC_iff m i j).2 ⟨_, ha, hma, g1, g2⟩)
end
end Go.VG
