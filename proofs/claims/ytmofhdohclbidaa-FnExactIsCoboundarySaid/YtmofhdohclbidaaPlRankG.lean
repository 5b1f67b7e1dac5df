/- Elimination of rows modulo a prime: what stays true from column to column. Plain; no program. -/
import Derived.Test.YtmofhdohclbidaaPlLin
set_option linter.all false
namespace Go.VG
section
variable {p : Int} {m : Nat}
structure GI (p : Int) (m : Nat) (A : Nat → Nat → Int) (N : Nat) (R : Nat → Nat → Int) (done col : Nat) (q : Nat → Nat) : Prop where
  dn : done ≤ N
  into : ∀ k, k < N → Sp p m A N (R k)
  onto : ∀ j, j < N → Sp p m R N (A j)
  lead : ∀ k, k < done → Lead p m (R k) (q k) ∧ q k < col
  inj : ∀ k l, k < done → l < done → q k = q l → k = l
  zero : ∀ k, done ≤ k → k < N → ∀ i, i < col → p ∣ R k i
theorem GI.start {A : Nat → Nat → Int} {N : Nat} (q : Nat → Nat) : GI p m A N A 0 0 q := ⟨Nat.zero_le _, fun k hk => Sp.base hk, fun k hk => Sp.base hk, fun k hk => absurd hk (Nat.not_lt_zero _), fun k _ hk => absurd hk (Nat.not_lt_zero _), fun _ _ _ i hi => absurd hi (Nat.not_lt_zero _)⟩
/-- No row has a number in this column. -/
theorem GI.skip {A R : Nat → Nat → Int} {N done col : Nat} {q : Nat → Nat} (h : GI p m A N R done col q) (hz : ∀ k, done ≤ k → k < N → p ∣ R k col) : GI p m A N R done (col + 1) q :=
  ⟨h.dn, h.into, h.onto, fun k hk => ⟨(h.lead k hk).1, Nat.lt_succ_of_lt (h.lead k hk).2⟩, h.inj, fun k h1 h2 i hi => by
    by_cases e : i < col
    · exact h.zero k h1 h2 i e
    · have : i = col := by omega
      rw [this]; exact hz k h1 h2⟩
/-- Two rows change places. -/
theorem GI.swap {A R R' : Nat → Nat → Int} {N done col : Nat} {q : Nat → Nat} (h : GI p m A N R done col q) {a b : Nat} (ha : done ≤ a ∧ a < N) (hb : done ≤ b ∧ b < N) (e1 : R' a = R b) (e2 : R' b = R a) (e3 : ∀ k, k < N → k ≠ a → k ≠ b → R' k = R k) : GI p m A N R' done col q := by
  have to : ∀ k, k < N → ∃ l, l < N ∧ R' k = R l ∧ (k < done → l = k) ∧ (done ≤ k → done ≤ l) := fun k hk => by
    by_cases h1 : k = a
    · subst h1; exact ⟨b, hb.2, e1, fun _ => by omega, fun _ => hb.1⟩
    · by_cases h2 : k = b
      · subst h2; exact ⟨a, ha.2, e2, fun _ => by omega, fun _ => ha.1⟩
      · exact ⟨k, hk, e3 k hk h1 h2, fun _ => rfl, fun h => h⟩
  have back : ∀ k, k < N → ∃ l, l < N ∧ R k = R' l := fun k hk => by
    by_cases h1 : k = a
    · subst h1; exact ⟨b, hb.2, e2.symm⟩
    · by_cases h2 : k = b
      · subst h2; exact ⟨a, ha.2, e1.symm⟩
      · exact ⟨k, hk, (e3 k hk h1 h2).symm⟩
  refine ⟨h.dn, fun k hk => ?_, fun j hj => Sp.trans (fun k hk => ?_) (h.onto j hj), fun k hk => ?_, h.inj, fun k h1 h2 i hi => ?_⟩
  · obtain ⟨l, hl, e, _⟩ := to k hk
    rw [e]; exact h.into l hl
  · obtain ⟨l, hl, e⟩ := back k hk
    rw [e]; exact Sp.base hl
  · have := h.dn
    obtain ⟨l, hl, e, e4, _⟩ := to k (by omega)
    rw [e, e4 hk]; exact h.lead k hk
  · obtain ⟨l, hl, e, _, e5⟩ := to k h2
    rw [e]; exact h.zero l (e5 h1) hl i hi
/-- A row gives multiples of itself to all rows behind it; the next column. -/
theorem GI.pivot {A R R' : Nat → Nat → Int} {N done col : Nat} {q : Nat → Nat} (h : GI p m A N R done col q) (hd : done < N) (hc : col < m) (hn : ¬ p ∣ R done col) (e1 : ∀ k, k ≤ done → R' k = R k)
    (e2 : ∀ k, done < k → k < N → ∃ f : Int, ∀ i, i < m → p ∣ R' k i - (R k i + f * R done i)) (e3 : ∀ k, done < k → k < N → p ∣ R' k col) : GI p m A N R' (done + 1) (col + 1) (fun k => if k = done then col else q k) := by
  refine ⟨hd, fun k hk => ?_, fun j hj => Sp.trans (fun k hk => ?_) (h.onto j hj), fun k hk => ?_, fun k l hk hl hkl => ?_, fun k h1 h2 i hi => ?_⟩
  · by_cases hkd : k ≤ done
    · rw [e1 k hkd]; exact h.into k hk
    · obtain ⟨f, hf⟩ := e2 k (by omega) hk
      exact ((h.into k hk).comb f (h.into done hd)).congr hf
  · by_cases hkd : k ≤ done
    · rw [← e1 k hkd]; exact Sp.base hk
    · obtain ⟨f, hf⟩ := e2 k (by omega) hk
      have b1 : Sp p m R' N (R done) := by rw [← e1 done (Nat.le_refl _)]; exact Sp.base hd
      refine ((Sp.base (b := R') hk).comb (-f) b1).congr fun i hi => ?_
      have := Int.dvd_neg.2 (hf i hi)
      have e : -(R' k i - (R k i + f * R done i)) = R k i - (R' k i + -f * R done i) := by
        rw [Int.neg_mul]; omega
      rwa [e] at this
  · by_cases hkd : k = done
    · subst hkd
      simp only [if_true]
      rw [e1 k (Nat.le_refl _)]
      exact ⟨⟨hc, fun i hi => h.zero k (Nat.le_refl _) hd i hi, hn⟩, Nat.lt_succ_self _⟩
    · simp only [if_neg hkd]
      rw [e1 k (by omega)]
      have := h.lead k (by omega)
      exact ⟨this.1, Nat.lt_succ_of_lt this.2⟩
  · by_cases hkd : k = done
    · by_cases hld : l = done
      · omega
      · have := (h.lead l (by omega)).2
        simp only [if_pos hkd, if_neg hld] at hkl; omega
    · by_cases hld : l = done
      · have := (h.lead k (by omega)).2
        simp only [if_neg hkd, if_pos hld] at hkl; omega
      · simp only [if_neg hkd, if_neg hld] at hkl
        exact h.inj k l (by omega) (by omega) hkl
  · by_cases hic : i < col
    · obtain ⟨f, hf⟩ := e2 k (by omega) h2
      by_cases him : i < m
      · have d1 := hf i him
        have d2 := Int.dvd_add (h.zero k (by omega) h2 i hic) (Int.dvd_mul_of_dvd_right (h.zero done (Nat.le_refl _) hd i hic) : p ∣ f * R done i)
        have := Int.dvd_add d1 d2
        rwa [Int.sub_add_cancel] at this
      · omega
    · have : i = col := by omega
      rw [this]; exact e3 k (by omega) h2
/-- The end: the rows with first places are an echelon. -/
theorem GI.ech {A R : Nat → Nat → Int} {N done col : Nat} {q : Nat → Nat} (h : GI p m A N R done col q) (he : m ≤ col ∨ done = N) : Ech p m A N R done q := by
  refine ⟨fun k hk => (h.lead k hk).1, h.inj, fun k hk => h.into k (Nat.lt_of_lt_of_le hk h.dn), fun j hj => Sp.trans (fun k hk => ?_) (h.onto j hj)⟩
  by_cases hkd : k < done
  · exact Sp.base hkd
  · rcases he with he | he
    · exact Sp.zero fun i hi => h.zero k (by omega) hk i (by omega)
    · omega
end
end Go.VG
