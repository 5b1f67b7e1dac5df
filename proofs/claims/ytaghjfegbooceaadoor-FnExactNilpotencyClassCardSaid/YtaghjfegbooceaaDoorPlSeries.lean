/- The series of adjoint subrings: the code's and the model's. Plain. -/
import Derived.Test.YtaghjfegbooceaaDoorPlSubOK
import Derived.Test.YtaghjfegbooceaaDoorPlAdj
set_option linter.all false
namespace Go.VG
def nxW (T : List (List (List Int))) (m : Nat) : Nat := imgW T m (adj (subT T m))
section
variable {T : List (List (List Int))} {m : Nat}
theorem SubW.adj (h : SubW T m) : SubW (subT T m) (Go.VG.adj (subT T m)) := ⟨h.ok, cl_lt h.ok (adjW_lt h.ok), cl_fix h.ok (adjW_lt h.ok)⟩
theorem SubW.nx (h : SubW T m) : SubW T (nxW T m) := h.img h.adj
theorem nx_le : nxW T m ≤ m := by
  have : nxW T m ||| m = m := eq_of_bits fun k => by
    simp only [Nat.testBit_or, Bool.or_eq_true]
    exact ⟨fun hk => by rcases hk with hk | hk; exact imgW_sub _ _ hk; exact hk, .inr⟩
  have h2 := Nat.left_le_or (n := nxW T m) (m := m)
  rw [this] at h2; exact h2
theorem SubW.adjk (h : SubW T m) : Go.VG.adj (subT T m) < 2 ^ kn m T.length := by have := h.adj.lt; rwa [subT_len] at this
theorem series_impl (h : SubW T m) (l : List Int) : p_impl_Ring_series_L1 T l (m : Int) = if nxW T m = m then some (.ret l) else (appL l [((nxW T m : Nat) : Int)]).bind fun x => some (.next (x, ((nxW T m : Nat) : Int))) := by
  have hc := h.ring.cube
  have hn := h.ring.n16
  have hk := kn_le m T.length
  unfold p_impl_Ring_series_L1
  rw [labels_eq (by omega : T.length ≤ 63) h.lt, Option.bind_some, ringOf_eq hc h.lt, Option.bind_some, implAdj h.ok, Option.bind_some, labels_eq (by omega : kn m T.length ≤ 63) h.adjk, Option.bind_some]
  have := forN_orL (R := Unit) (m := adj (subT T m)) (n := kn m T.length) (N := T.length) (m0 := 0) (body := fun k s => p_impl_Ring_series_L2 (bitsFrom (adj (subT T m)) 0 (kn m T.length)) (bitsFrom m 0 T.length) k s) (fun a => 2 ^ ln m T.length a) (Nat.two_pow_pos _) (fun a ha _ => one_lt_pow (ln_at ha).1) (fun q a x ha hma hq hx => by
    have hl := (ln_at ha).1
    simp only [p_impl_Ring_series_L2, hq, bits_ln ha, Option.bind_some, shl_word (by omega : ln m T.length a ≤ 61)]
    rw [orW (by omega : T.length ≤ 62) hx (one_lt_pow hl)])
  rw [Nat.zero_or] at this
  have this' : forN (R := Unit) (fun k s => p_impl_Ring_series_L2 (bitsFrom (adj (subT T m)) 0 (kn m T.length)) (bitsFrom m 0 T.length) k s) (bitsFrom (adj (subT T m)) 0 (kn m T.length)).length 0 (0 : Int) = some (.fin ((nxW T m : Nat) : Int)) := this
  rw [this', Option.bind_some]
  simp only [onRes]
  by_cases e : nxW T m = m
  · rw [if_pos e, if_pos (by rw [e]; simp)]
  · rw [if_neg e, if_neg (by intro hc; rw [beq_iff_eq] at hc; exact e (by omega))]
theorem series_spec (h : SubW T m) (pre : List Int) (hp : pre.length ≤ 1048576) : p_spec_l05Series_L1 T (pre ++ [(m : Int)]) = if nxW T m = m then some (.ret (pre ++ [(m : Int)])) else (appL (pre ++ [(m : Int)]) [((nxW T m : Nat) : Int)]).bind fun x => some (.next x) := by
  have hc := h.ring.cube
  have hn := h.ring.n16
  have hk := kn_le m T.length
  unfold p_spec_l05Series_L1
  have e1 : w64 (((pre ++ [(m : Int)]).length : Int) - 1) = ((pre.length : Nat) : Int) := by
    have el : ((pre ++ [(m : Int)]).length : Int) = (pre.length : Int) + 1 := by simp
    rw [el, w64_small (by omega) (by omega)]; omega
  have e2 : idx (pre ++ [(m : Int)]) ((pre.length : Nat) : Int) = some (m : Int) := by simp [idx]
  rw [e1, e2, Option.bind_some, specLabs hc h.lt, Option.bind_some, specRing hc h.lt, Option.bind_some, specAdj h.ok, Option.bind_some, bits_kn]
  have := forN_or (R := Unit) (N := kn m T.length) (n := T.length) (m0 := 0) (body := fun k s => p_spec_l05Series_L2 ((adj (subT T m) : Nat) : Int) (bitsFrom m 0 T.length) k s) (fun a => if (adj (subT T m)).testBit a = true then 2 ^ ln m T.length a else 0) (Nat.two_pow_pos _) (fun a ha => by
    split
    · exact one_lt_pow (ln_at ha).1
    · exact Nat.two_pow_pos _) (fun a x ha hx => by
    have hl := (ln_at ha).1
    have hb : p_spec_l05Bit ((adj (subT T m) : Nat) : Int) (a : Int) = some ((adj (subT T m)).testBit a) := specBit (lt_pow_mono h.adjk (by omega)) (by omega)
    simp only [p_spec_l05Series_L2, hb, Option.bind_some]
    by_cases hm : (adj (subT T m)).testBit a = true
    · simp only [hm, if_true, bits_ln ha, Option.bind_some, u64_lab (by omega : ln m T.length a ≤ 62), shl_word (by omega : ln m T.length a ≤ 61)]
      rw [orW (by omega : T.length ≤ 62) hx (one_lt_pow hl)]
    · simp only [hm, Bool.false_eq_true, if_false, Option.bind_some, Nat.or_zero])
  rw [Nat.zero_or] at this
  have this' : forN (R := Unit) (fun k s => p_spec_l05Series_L2 ((adj (subT T m) : Nat) : Int) (bitsFrom m 0 T.length) k s) (kn m T.length) 0 (0 : Int) = some (.fin ((nxW T m : Nat) : Int)) := this
  rw [this', Option.bind_some]
  simp only [onRes]
  by_cases e : nxW T m = m
  · rw [if_pos e, if_pos (by rw [e]; simp)]
  · rw [if_neg e, if_neg (by intro hc; rw [beq_iff_eq] at hc; exact e (by omega))]
end
section
variable {T : List (List (List Int))}
theorem series_iter : ∀ (c m : Nat) (pre : List Int), SubW T m → m ≤ c → pre.length + m ≤ 131072 →
    ∃ r, iterW (fun s => p_spec_l05Series_L1 T s) (c + 1) (pre ++ [(m : Int)]) = some (.ret r) ∧ iterW (fun s => p_impl_Ring_series_L1 T s.1 s.2) (c + 1) (pre ++ [(m : Int)], (m : Int)) = some (.ret r) ∧ r.length ≤ pre.length + m + 1 ∧ 1 ≤ r.length
  | c, m, pre, h, hc, hp => by
    have e1 := series_spec h pre (by omega)
    have e2 := series_impl h (pre ++ [(m : Int)])
    by_cases e : nxW T m = m
    · rw [if_pos e] at e1 e2
      refine ⟨_, iterN_ret e1, iterN_ret e2, by simp, by simp⟩
    · rw [if_neg e] at e1 e2
      have hle := nx_le (T := T) (m := m)
      have ea : appL (pre ++ [(m : Int)]) [((nxW T m : Nat) : Int)] = some ((pre ++ [(m : Int)]) ++ [((nxW T m : Nat) : Int)]) := by
        unfold appL
        rw [if_pos (by simp; omega)]
      rw [ea, Option.bind_some] at e1 e2
      cases c with
      | zero => omega
      | succ c =>
        obtain ⟨r, h1, h2, h3, h4⟩ := series_iter c (nxW T m) (pre ++ [(m : Int)]) h.nx (by omega) (by simp; omega)
        refine ⟨r, ?_, ?_, by simp at h3; omega, h4⟩
        · rw [iterN_next e1]; exact h1
        · rw [iterN_next (s' := (pre ++ [(m : Int)] ++ [((nxW T m : Nat) : Int)], ((nxW T m : Nat) : Int))) e2]; exact h2
theorem all_sub (h : RingOK T) : SubW T (2 ^ T.length - 1) := by
  have h0 : (2 ^ T.length - 1).testBit 0 = true := by rw [Nat.testBit_two_pow_sub_one]; have := h.n1; simp; omega
  refine ⟨h, by have := Nat.two_pow_pos T.length; omega, (spr_fix_iff h0).2 fun i hi _ => ⟨?_, fun j hj _ k hk _ => ?_⟩⟩
  · rw [Nat.testBit_two_pow_sub_one]; have := h.duN hi; simpa using this
  · rw [Nat.testBit_two_pow_sub_one]; simpa using hk
theorem series_both (h : RingOK T) : ∃ r, p_spec_l05Series T = some r ∧ p_impl_Ring_series T = some r ∧ r.length ≤ 65537 ∧ 1 ≤ r.length := by
  have hn := h.n16
  have e16 : (2 : Nat) ^ 16 = 65536 := by decide
  have hlt := (all_sub h).lt
  have hlt' := lt_pow_mono hlt hn
  obtain ⟨r, h1, h2, h3, h4⟩ := series_iter (2 ^ T.length - 1) (2 ^ T.length - 1) [] (all_sub h) (Nat.le_refl _) (by simp only [List.length_nil]; omega)
  refine ⟨r, ?_, ?_, by simp only [List.length_nil] at h3; omega, h4⟩
  · unfold p_spec_l05Series
    rw [specAll h, Option.bind_some]
    rw [List.nil_append] at h1
    rw [whileC_of h1]
    rfl
  · unfold p_impl_Ring_series
    rw [shl_word (by omega), Option.bind_some, two_pow_sub hn]
    rw [List.nil_append] at h2
    rw [whileC_of h2]
    rfl
theorem adjSeries_eq (T : List (List (List Int))) : ∃ r, p_spec_AdjointSeries T = some r ∧ p_impl_AdjointSeries T = some r ∧ r.1.length ≤ 65537 ∧ (r.2 = 0 → 1 ≤ r.1.length) := by
  unfold p_spec_AdjointSeries p_impl_AdjointSeries
  obtain ⟨b, e, hb⟩ := specIs (T := T)
  have e' : p_impl_IsRing T = some b := by rw [← e]; exact (implIs.eq specIs)
  rw [e, e']
  simp only [Option.bind_some]
  cases b
  · exact ⟨([], 1), rfl, rfl, by simp, by simp⟩
  · obtain ⟨l, e1, e2, e3, e4⟩ := series_both (hb.1 rfl)
    simp only [Bool.not_true, Bool.false_eq_true, if_false, e1, e2, Option.bind_some]
    exact ⟨_, rfl, rfl, e3, fun _ => e4⟩
end
end Go.VG
