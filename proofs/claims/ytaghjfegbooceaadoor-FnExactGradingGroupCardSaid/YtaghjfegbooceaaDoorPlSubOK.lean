/- The ring of a subring is a ring; its labels within the ring's. Plain. -/
import Derived.Test.YtaghjfegbooceaaDoorPlSubR
import Derived.Test.YtaghjfegbooceaaDoorPlAssoc
set_option linter.all false
namespace Go.VG

theorem labN_pw (m n : Nat) : (labN m n).Pairwise (· < ·) := by
  unfold labN
  exact List.Pairwise.filter _ List.pairwise_lt_range'
theorem ln_lt {m n a b : Nat} (hab : a < b) (hb : b < kn m n) : ln m n a < ln m n b := by
  unfold kn at hb
  have ha : a < (labN m n).length := by omega
  have e1 : ln m n a = (labN m n)[a] := by simp [ln, List.getD, List.getElem?_eq_getElem ha]
  have e2 : ln m n b = (labN m n)[b] := by simp [ln, List.getD, List.getElem?_eq_getElem hb]
  rw [e1, e2]
  exact List.pairwise_iff_getElem.1 (labN_pw m n) a b ha hb hab
theorem ln_inj {m n a b : Nat} (ha : a < kn m n) (hb : b < kn m n) (h : ln m n a = ln m n b) : a = b := by
  rcases Nat.lt_trichotomy a b with h1 | h1 | h1
  · have := ln_lt h1 hb; omega
  · exact h1
  · have := ln_lt h1 ha; omega
theorem ln_ex {m n i : Nat} (hi : i < n) (h : m.testBit i = true) : ∃ a, a < kn m n ∧ ln m n a = i := labN_ex hi h
theorem ln_zero {m n : Nat} (hn : 1 ≤ n) (h0 : m.testBit 0 = true) : 0 < kn m n ∧ ln m n 0 = 0 := by
  have : labN m n = 0 :: (List.range' 1 (n - 1)).filter (m.testBit ·) := by
    unfold labN
    obtain ⟨k, rfl⟩ : ∃ k, n = k + 1 := ⟨n - 1, by omega⟩
    rw [List.range'_succ, List.filter_cons_of_pos (by simpa using h0)]
    simp
  unfold kn ln
  rw [this]
  simp

theorem sumN_lab (m : Nat) {f : Nat → Int} : ∀ {n : Nat}, (∀ e, e < n → m.testBit e = false → f e = 0) → sumN f n = sumN (fun a => f (ln m n a)) (kn m n)
  | 0, _ => rfl
  | n + 1, h => by
    have ih := sumN_lab m (n := n) (fun e he hm => h e (by omega) hm)
    have hlen : kn m (n + 1) = kn m n + (if m.testBit n = true then 1 else 0) := by
      unfold kn
      rw [labN_succ, List.length_append]
      split <;> simp
    have hlt : ∀ a, a < kn m n → ln m (n + 1) a = ln m n a := fun a ha => by
      unfold ln kn at *
      rw [labN_succ]
      simp [List.getD, List.getElem?_append_left ha]
    have hc : sumN (fun a => f (ln m (n + 1) a)) (kn m n) = sumN (fun a => f (ln m n a)) (kn m n) := sumN_congr fun a ha => by simp only [hlt a ha]
    simp only [sumN]
    by_cases hb : m.testBit n = true
    · rw [hlen, if_pos hb]
      simp only [sumN]
      rw [hc, ← ih]
      have : ln m (n + 1) (kn m n) = n := by
        unfold ln kn
        rw [labN_succ, if_pos hb]
        simp [List.getD, List.getElem?_append_right]
      rw [this]
    · rw [hlen, if_neg hb]
      show _ = sumN (fun a => f (ln m (n + 1) a)) (kn m n)
      rw [hc, ← ih, h n (by omega) (by simpa using hb)]
      omega
theorem sumW_small {f : Nat → Int} : ∀ {n : Nat}, n ≤ 16 → (∀ e, e < n → 0 ≤ f e ∧ f e ≤ 1000000) → sumW f n = sumN f n ∧ 0 ≤ sumN f n ∧ sumN f n ≤ n * 1000000
  | 0, _, _ => by simp [sumW, sumN]
  | n + 1, hn, h => by
    obtain ⟨h1, h2, h3⟩ := sumW_small (n := n) (by omega) (fun e he => h e (by omega))
    have h4 := h n (by omega)
    simp only [sumW, sumN]
    rw [h1, w64_small (by omega) (by omega)]
    refine ⟨rfl, by omega, by omega⟩

section
variable {T : List (List (List Int))}
theorem subT_len (m : Nat) : (subT T m).length = kn m T.length := cubeG_len
theorem subT_at {m a b c : Nat} (ha : a < kn m T.length) (hb : b < kn m T.length) (hc : c < kn m T.length) : at3 (subT T m) a b c = at3 T (ln m T.length a) (ln m T.length b) (ln m T.length c) := by
  unfold at3 subT
  rw [cubeG_getD ha, grid_getD hb]
  exact vecG_getD hc

/-- A closed word of labels of a ring. -/
structure SubW (T : List (List (List Int))) (m : Nat) : Prop where
  ring : RingOK T
  lt : m < 2 ^ T.length
  fix : spr T m = m
section
variable {m : Nat}
theorem SubW.zero (h : SubW T m) : m.testBit 0 = true := by rw [← h.fix]; exact spr_zero m
theorem SubW.dual (h : SubW T m) {i : Nat} (hi : i < T.length) (hm : m.testBit i = true) : m.testBit (du T i).toNat = true := ((spr_fix_iff h.zero).1 h.fix i hi hm).1
theorem SubW.prod (h : SubW T m) {i j k : Nat} (hi : i < T.length) (hmi : m.testBit i = true) (hj : j < T.length) (hmj : m.testBit j = true) (hk : k < T.length) (hp : 0 < at3 T i j k) : m.testBit k = true := ((spr_fix_iff h.zero).1 h.fix i hi hmi).2 j hj hmj k hk hp
theorem SubW.cube (h : SubW T m) : Cube (subT T m) := by
  have hn := h.ring.n16
  have hk := kn_le m T.length
  have hz := ln_zero h.ring.n1 h.zero
  refine ⟨by rw [subT_len]; omega, fun i hi => ?_⟩
  rw [subT_len] at hi ⊢
  unfold subT
  rw [cubeG_getD hi]
  refine ⟨grid_len, fun j hj => ?_⟩
  rw [grid_getD hj]
  refine ⟨rowG_len, fun k hk => ?_⟩
  rw [show (rowG (fun b c => at3 T (ln m T.length i) (ln m T.length b) (ln m T.length c)) (kn m T.length) j).getD k 0 = at3 T (ln m T.length i) (ln m T.length j) (ln m T.length k) from vecG_getD hk]
  exact h.ring.cube.rng (ln_at hi).1 (ln_at hj).1 (ln_at hk).1
theorem only_unique {f : Nat → Int} {n : Nat} {s : Int} (h : Only f n s) {j : Nat} (hj : j < n) (h1 : f j = 1) (h0 : ∀ i, i < n → i ≠ j → f i = 0) : s = j := by
  rcases h with ⟨g1, g2, g3, g4⟩ | ⟨g1, g2⟩
  · apply Decidable.byContradiction
    intro hc
    have := h0 s.toNat (by omega) (by omega)
    omega
  · exact absurd ⟨j, hj, h1, h0⟩ g2
/-- Where the dual of a label lies. -/
theorem SubW.du (h : SubW T m) {a : Nat} (ha : a < kn m T.length) : ∃ b, b < kn m T.length ∧ Go.VG.du (subT T m) a = (b : Int) ∧ ln m T.length b = (Go.VG.du T (ln m T.length a)).toNat := by
  have hR := h.ring
  obtain ⟨h1, h2⟩ := ln_at ha
  have hd := hR.duN h1
  obtain ⟨b, hb, eb⟩ := ln_ex hd (h.dual h1 h2)
  refine ⟨b, hb, ?_, eb⟩
  have hz := ln_zero hR.n1 h.zero
  have ho := (dual_spec h.cube (i := a) (by rw [subT_len]; exact ha)).2
  rw [subT_len] at ho
  have hoT := (dual_spec hR.cube h1).2
  have hd0 := hR.du0 h1
  rcases hoT with ⟨g1, g2, g3, g4⟩ | ⟨g1, _⟩
  · refine only_unique ho hb ?_ fun i hi hne => ?_
    · rw [subT_at ha hb hz.1, hz.2, eb]; exact g3
    · rw [subT_at ha hi hz.1, hz.2]
      exact g4 _ (ln_at hi).1 (fun e => hne (ln_inj hi hb (by rw [e, eb])))
  · omega
theorem SubW.ok (h : SubW T m) : RingOK (subT T m) := by
  have hR := h.ring
  have hc := hR.cube
  have hz := ln_zero hR.n1 h.zero
  have hk := kn_le m T.length
  have hn := hR.n16
  refine ⟨h.cube, fun i hi k hk' => ?_, fun i hi => ?_, fun i hi j hj k hk' => ?_, fun i hi j hj k hk' l hl => ?_⟩
  · rw [subT_len] at hi hk'
    rw [subT_at hz.1 hi hk', subT_at hi hz.1 hk', hz.2]
    have e : dl (ln m T.length i) (ln m T.length k) = dl i k := by
      unfold dl
      by_cases e : i = k
      · rw [if_pos e, if_pos (by rw [e])]
      · rw [if_neg e, if_neg (fun e' => e (ln_inj hi hk' e'))]
    rw [← e]
    exact hR.unit _ (ln_at hi).1 _ (ln_at hk').1
  · rw [subT_len] at hi
    obtain ⟨b, hb, e1, e2⟩ := h.du hi
    obtain ⟨c, hc', e3, e4⟩ := h.du hb
    refine ⟨by omega, ?_⟩
    rw [e1, Int.toNat_natCast, e3]
    have : ln m T.length c = ln m T.length i := by rw [e4, e2, hR.dd (ln_at hi).1]
    rw [ln_inj hc' hi this]
  · rw [subT_len] at hi hj hk'
    obtain ⟨b, hb, e1, e2⟩ := h.du hi
    obtain ⟨c, hc', e3, e4⟩ := h.du hj
    rw [e1, e3, Int.toNat_natCast, Int.toNat_natCast, subT_at hi hj hk', subT_at hb hk' hj, subT_at hk' hc' hi, e2, e4]
    exact hR.turn _ (ln_at hi).1 _ (ln_at hj).1 _ (ln_at hk').1
  · rw [subT_len] at hi hj hk' hl ⊢
    have hI := ln_at hi; have hJ := ln_at hj; have hK := ln_at hk'; have hL := ln_at hl
    have hb := hR.br _ hI.1 _ hJ.1 _ hK.1 _ hL.1
    have bL : ∀ e, e < T.length → 0 ≤ brL T (ln m T.length i) (ln m T.length j) (ln m T.length k) (ln m T.length l) e ∧ brL T (ln m T.length i) (ln m T.length j) (ln m T.length k) (ln m T.length l) e ≤ 1000000 := fun e he => (w64_prod (hc.rng hI.1 hJ.1 he) (hc.rng he hK.1 hL.1)).1
    have bR : ∀ e, e < T.length → 0 ≤ brR T (ln m T.length i) (ln m T.length j) (ln m T.length k) (ln m T.length l) e ∧ brR T (ln m T.length i) (ln m T.length j) (ln m T.length k) (ln m T.length l) e ≤ 1000000 := fun e he => (w64_prod (hc.rng hJ.1 hK.1 he) (hc.rng hI.1 he hL.1)).1
    rw [(sumW_small hn bL).1, (sumW_small hn bR).1] at hb
    have z1 : ∀ e, e < T.length → m.testBit e = false → brL T (ln m T.length i) (ln m T.length j) (ln m T.length k) (ln m T.length l) e = 0 := fun e he hme => by
      have h0 : at3 T (ln m T.length i) (ln m T.length j) e = 0 := by
        have := (hc.rng hI.1 hJ.1 he).1
        apply Decidable.byContradiction
        intro hne
        have := h.prod hI.1 hI.2 hJ.1 hJ.2 he (by omega)
        rw [hme] at this; cases this
      unfold brL
      rw [h0, Int.zero_mul]; rfl
    have z2 : ∀ e, e < T.length → m.testBit e = false → brR T (ln m T.length i) (ln m T.length j) (ln m T.length k) (ln m T.length l) e = 0 := fun e he hme => by
      have h0 : at3 T (ln m T.length j) (ln m T.length k) e = 0 := by
        have := (hc.rng hJ.1 hK.1 he).1
        apply Decidable.byContradiction
        intro hne
        have := h.prod hJ.1 hJ.2 hK.1 hK.2 he (by omega)
        rw [hme] at this; cases this
      unfold brR
      rw [h0, Int.zero_mul]; rfl
    rw [sumN_lab m z1, sumN_lab m z2] at hb
    have c1 : sumW (brL (subT T m) i j k l) (kn m T.length) = sumN (fun a => brL T (ln m T.length i) (ln m T.length j) (ln m T.length k) (ln m T.length l) (ln m T.length a)) (kn m T.length) := by
      have e : ∀ a, a < kn m T.length → brL (subT T m) i j k l a = brL T (ln m T.length i) (ln m T.length j) (ln m T.length k) (ln m T.length l) (ln m T.length a) := fun a ha => by
        unfold brL; rw [subT_at hi hj ha, subT_at ha hk' hl]
      rw [sumW_congr e]
      exact (sumW_small (by omega) (fun a ha => bL _ (ln_at ha).1)).1
    have c2 : sumW (brR (subT T m) i j k l) (kn m T.length) = sumN (fun a => brR T (ln m T.length i) (ln m T.length j) (ln m T.length k) (ln m T.length l) (ln m T.length a)) (kn m T.length) := by
      have e : ∀ a, a < kn m T.length → brR (subT T m) i j k l a = brR T (ln m T.length i) (ln m T.length j) (ln m T.length k) (ln m T.length l) (ln m T.length a) := fun a ha => by
        unfold brR; rw [subT_at hj hk' ha, subT_at hi ha hl]
      rw [sumW_congr e]
      exact (sumW_small (by omega) (fun a ha => bR _ (ln_at ha).1)).1
    rw [c1, c2]; exact hb

/-- The labels, in the ring, of a word of the subring's labels. -/
def imgW (T : List (List (List Int))) (m w : Nat) : Nat := orS w (kn m T.length) (fun a => 2 ^ ln m T.length a)
theorem imgW_bit (w i : Nat) : (imgW T m w).testBit i = true ↔ ∃ a, a < kn m T.length ∧ w.testBit a = true ∧ ln m T.length a = i := by
  unfold imgW
  rw [orS_bit]
  constructor
  · rintro ⟨a, h1, h2, h3⟩
    rw [bit_one, decide_eq_true_iff] at h3
    exact ⟨a, h1, h2, h3⟩
  · rintro ⟨a, h1, h2, h3⟩
    exact ⟨a, h1, h2, by rw [bit_one, decide_eq_true_iff]; exact h3⟩
theorem imgW_lt (w : Nat) : imgW T m w < 2 ^ T.length := orS_lt fun a ha _ => one_lt_pow (ln_at ha).1
theorem SubW.img_bit (h : SubW T m) (w : Nat) {a : Nat} (ha : a < kn m T.length) : (imgW T m w).testBit (ln m T.length a) = w.testBit a := by
  rw [Bool.eq_iff_iff, imgW_bit]
  constructor
  · rintro ⟨b, h1, h2, h3⟩
    rw [← ln_inj h1 ha h3]; exact h2
  · intro h2
    exact ⟨a, ha, h2, rfl⟩
/-- A subring of a subring is a subring. -/
theorem SubW.img (h : SubW T m) {w : Nat} (hw : SubW (subT T m) w) : SubW T (imgW T m w) := by
  have hR := h.ring
  have hz := ln_zero hR.n1 h.zero
  have h0 : (imgW T m w).testBit 0 = true := by
    rw [← hz.2, h.img_bit w hz.1]; exact hw.zero
  refine ⟨hR, imgW_lt w, (spr_fix_iff h0).2 fun i hi hmi => ?_⟩
  obtain ⟨a, ha, hwa, rfl⟩ := (imgW_bit w i).1 hmi
  obtain ⟨b, hb, e1, e2⟩ := h.du ha
  have ha' : a < (subT T m).length := by rw [subT_len]; exact ha
  refine ⟨?_, fun j hj hmj k hk hp => ?_⟩
  · rw [← e2, h.img_bit w hb]
    have := hw.dual ha' hwa
    rwa [e1, Int.toNat_natCast] at this
  · obtain ⟨c, hc, hwc, rfl⟩ := (imgW_bit w j).1 hmj
    have hmk : m.testBit k = true := h.prod (ln_at ha).1 (ln_at ha).2 (ln_at hc).1 (ln_at hc).2 hk hp
    obtain ⟨d, hd, rfl⟩ := ln_ex hk hmk
    rw [h.img_bit w hd]
    exact hw.prod ha' hwa (by rw [subT_len]; exact hc) hwc (by rw [subT_len]; exact hd) (by rw [subT_at ha hc hd]; exact hp)
/-- It has no more labels. -/
theorem imgW_sub (w i : Nat) (h : (imgW T m w).testBit i = true) : m.testBit i = true := by
  obtain ⟨a, ha, _, rfl⟩ := (imgW_bit w i).1 h
  exact (ln_at ha).2
end
end
end Go.VG
