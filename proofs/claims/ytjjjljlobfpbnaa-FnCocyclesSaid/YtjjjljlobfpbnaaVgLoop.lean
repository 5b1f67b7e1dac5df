/- Loops: the walk goes the rounds of the plain twin. Ranges of numbers. No condition. -/
import Derived.Test.YtjjjljlobfpbnaaVgMem2
import Derived.Test.YtjjjljlobfpbnaaVgPar
import Derived.Test.YtjjjljlobfpbnaaVgPure
set_option linter.all false
namespace Go.VG
open Go.RowKit (Below)

section
variable {P : Program} {n : Nat} {Q : Post} {f : Fr} {w : World}

theorem W.forN {S R : Type} {body : Nat → S → Option (Ctl S R)} {c : Code} {N : Nat} {s0 : S} {res : Res S R} (I : Nat → S → Fr → World → Prop) (hres : forN body N 0 s0 = some res) (h0 : I 0 s0 f w)
    (hstep : ∀ k s ct f w, k < N → body k s = some ct → I k s f w → (∀ s', ct = .brk s' → res = .fin s') → (∀ r, ct = .ret r → res = .ret r) → W P n c (thenQ (fun f' w' => ∃ s', ct = .next s' ∧ I (k + 1) s' f' w') Q) f w)
    (hend : ∀ s f w, res = .fin s → I N s f w → W P n c (thenQ (fun _ _ => False) Q) f w) : W P n (.loop c) Q f w := by
  refine W.loop (fun m f w => ∃ k s, k + m = N + 1 ∧ k ≤ N ∧ VG.forN body (N - k) k s = some res ∧ I k s f w) (N + 1) ⟨0, s0, by omega, by omega, by simpa using hres, h0⟩ ?_
  rintro m f w ⟨k, s, hm, hk, hf, hI⟩
  by_cases hlt : k < N
  · obtain ⟨c', hc'⟩ : ∃ c', N - k = c' + 1 := ⟨N - k - 1, by omega⟩
    rw [hc'] at hf
    simp only [VG.forN] at hf
    cases hb : body k s with
    | none => rw [hb] at hf; cases hf
    | some ct =>
      rw [hb] at hf
      have h1 := hstep k s ct f w hlt hb hI (fun s' e => by subst e; exact (Option.some.inj hf).symm) (fun r e => by subst e; exact (Option.some.inj hf).symm)
      refine h1.mono fun e f' w' h => ?_
      cases e <;> try exact h
      obtain ⟨s', e, hI'⟩ := h
      subst e
      refine ⟨m - 1, by omega, k + 1, s', by omega, by omega, ?_, hI'⟩
      rw [show N - (k + 1) = c' from by omega]; exact hf
  · have hkN : k = N := by omega
    subst hkN
    rw [Nat.sub_self] at hf
    simp only [VG.forN] at hf
    refine (hend s f w (Option.some.inj hf).symm hI).mono fun e f' w' h => ?_
    cases e <;> first | exact h | exact h.elim

theorem W.whileC {S R : Type} {step : S → Option (Ctl S R)} {c : Code} {s0 : S} {res : Res S R} (I : S → Fr → World → Prop) (hres : whileC step s0 = some res) (h0 : I s0 f w)
    (hstep : ∀ s ct f w, step s = some ct → I s f w → (∀ s', ct = .brk s' → res = .fin s') → (∀ r, ct = .ret r → res = .ret r) → W P n c (thenQ (fun f' w' => ∃ s', ct = .next s' ∧ I s' f' w') Q) f w) : W P n (.loop c) Q f w := by
  obtain ⟨N, hN⟩ := whileC_some hres
  refine W.loop (fun m f w => ∃ s, iterW step m s = some res ∧ I s f w) N ⟨s0, hN, h0⟩ ?_
  rintro m f w ⟨s, hs, hI⟩
  cases m with
  | zero => simp [iterW] at hs
  | succ m =>
    simp only [iterW] at hs
    cases hb : step s with
    | none => rw [hb] at hs; cases hs
    | some ct =>
      rw [hb] at hs
      refine (hstep s ct f w hb hI (fun s' e => by subst e; exact (Option.some.inj hs).symm) (fun r e => by subst e; exact (Option.some.inj hs).symm)).mono fun e f' w' h => ?_
      cases e <;> try exact h
      obtain ⟨s', e, hI'⟩ := h
      subst e
      exact ⟨m, by omega, s', hs, hI'⟩
end

/-! ### Ranges -/

theorem inR_i64 {x : Int} : InR .i64 x ↔ -9223372036854775808 ≤ x ∧ x ≤ 9223372036854775807 := by
  unfold InR IntKind.min IntKind.max IntKind.signed IntKind.bits
  simp
theorem inL {n : Int} (h : (decide (-9223372036854775808 ≤ n) && decide (n ≤ 9223372036854775807)) = true) : InR .i64 n := by
  simp only [Bool.and_eq_true, decide_eq_true_eq] at h
  exact inR_i64.2 h
theorem inR_wrap (k : IntKind) (x : Int) : InR k (k.wrap x) := by
  unfold InR IntKind.min IntKind.max IntKind.wrap IntKind.signed IntKind.bits
  cases k <;> simp <;> (try split) <;> omega
theorem inR_tmod {k : IntKind} {a b : Int} (h : InR k a) : InR k (a.tmod b) := by
  obtain ⟨h1, h2⟩ := h
  have hmin : k.min ≤ 0 := by cases k <;> simp [IntKind.min, IntKind.signed, IntKind.bits]
  have hmax : 0 ≤ k.max := by cases k <;> simp [IntKind.max, IntKind.signed, IntKind.bits]
  have h3 : (a.tmod b).natAbs ≤ a.natAbs := by
    rw [Int.natAbs_tmod]
    exact Nat.mod_le _ _
  have h4 : 0 ≤ a → 0 ≤ a.tmod b := fun h => Int.tmod_nonneg b h
  have h5 : a ≤ 0 → a.tmod b ≤ 0 := fun h => by
    have := Int.tmod_nonneg (a := -a) b (by omega)
    rw [Int.neg_tmod] at this
    omega
  unfold InR
  rcases Int.le_total 0 a with h | h
  · have := h4 h; omega
  · have := h5 h; omega
end Go.VG
