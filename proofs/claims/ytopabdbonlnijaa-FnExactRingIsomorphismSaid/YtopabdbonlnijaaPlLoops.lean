/- Two loops, one beside the other. No condition. -/
import Derived.Test.YtopabdbonlnijaaPlBase0
set_option linter.all false
namespace Go.VG
section
variable {S R R' : Type}
theorem forN_rel {b : Nat → S → Option (Ctl S R)} {b' : Nat → S → Option (Ctl S R')} {I : Nat → S → Prop} {r : R} {r' : R'} : ∀ (c k : Nat) (s : S), I k s →
    (∀ j s, k ≤ j → j < k + c → I j s → (b j s = some (.ret r) ∧ b' j s = some (.ret r')) ∨ ∃ s', I (j + 1) s' ∧ b j s = some (.next s') ∧ b' j s = some (.next s')) →
    (forN b c k s = some (.ret r) ∧ forN b' c k s = some (.ret r')) ∨ ∃ s', I (k + c) s' ∧ forN b c k s = some (.fin s') ∧ forN b' c k s = some (.fin s')
  | 0, k, s, h, _ => .inr ⟨s, h, rfl, rfl⟩
  | c + 1, k, s, h, hb => by
    rcases hb k s (Nat.le_refl _) (by omega) h with ⟨e, e'⟩ | ⟨s', hs, e, e'⟩
    · exact .inl ⟨forN_ret1 e, forN_ret1 e'⟩
    · rw [forN_next1 e, forN_next1 e']
      have := forN_rel (I := I) (r := r) (r' := r') c (k + 1) s' hs (fun j s h1 h2 => hb j s (by omega) (by omega))
      rwa [show k + 1 + c = k + (c + 1) from by omega] at this
theorem iterN_next {step : S → Option (Ctl S R)} {n : Nat} {s s' : S} (h : step s = some (.next s')) : iterW step (n + 1) s = iterW step n s' := by
  conv => lhs; unfold iterW
  simp only [h]
theorem iterN_ret {step : S → Option (Ctl S R)} {n : Nat} {s : S} {r : R} (h : step s = some (.ret r)) : iterW step (n + 1) s = some (.ret r) := by
  conv => lhs; unfold iterW
  simp only [h]
theorem iterN_brk {step : S → Option (Ctl S R)} {n : Nat} {s s' : S} (h : step s = some (.brk s')) : iterW step (n + 1) s = some (.fin s') := by
  conv => lhs; unfold iterW
  simp only [h]
/-- A loop that counts up to N, beside a loop of N rounds. -/
theorem whileC_up {step : S × Int → Option (Ctl (S × Int) R)} {b' : Nat → S → Option (Ctl S R')} {I : Nat → S → Prop} {N : Nat} {r : R} {r' : R'}
    (hb : ∀ j s, j < N → I j s → (step (s, (j : Int)) = some (.ret r) ∧ b' j s = some (.ret r')) ∨ ∃ s', I (j + 1) s' ∧ step (s, (j : Int)) = some (.next (s', ((j + 1 : Nat) : Int))) ∧ b' j s = some (.next s'))
    (he : ∀ s, I N s → step (s, (N : Int)) = some (.brk (s, (N : Int)))) (s : S) (h0 : I 0 s) :
    (whileC step (s, (0 : Int)) = some (.ret r) ∧ forN b' N 0 s = some (.ret r')) ∨ ∃ s', I N s' ∧ whileC step (s, (0 : Int)) = some (.fin (s', (N : Int))) ∧ forN b' N 0 s = some (.fin s') := by
  have key : ∀ (c k : Nat) (s : S), k + c = N → I k s → (iterW step (c + 1) (s, (k : Int)) = some (.ret r) ∧ forN b' c k s = some (.ret r')) ∨ ∃ s', I N s' ∧ iterW step (c + 1) (s, (k : Int)) = some (.fin (s', (N : Int))) ∧ forN b' c k s = some (.fin s') := by
    intro c
    induction c with
    | zero => intro k s hk hI; obtain rfl : k = N := by omega
              exact .inr ⟨s, hI, iterN_brk (he s hI), rfl⟩
    | succ c ih =>
      intro k s hk hI
      rcases hb k s (by omega) hI with ⟨e, e'⟩ | ⟨s', hs, e, e'⟩
      · exact .inl ⟨iterN_ret e, forN_ret1 e'⟩
      · rw [iterN_next e, forN_next1 e']
        exact ih (k + 1) s' (by omega) hs
  rcases key N 0 s (by omega) h0 with ⟨e, e'⟩ | ⟨s', hs, e, e'⟩
  · exact .inl ⟨whileC_of e, e'⟩
  · exact .inr ⟨s', hs, whileC_of e, e'⟩
/-- A loop that counts down to 0, beside a loop of as many rounds. -/
theorem whileC_down {step : S × Int → Option (Ctl (S × Int) R)} {b' : Nat → S → Option (Ctl S R')} {I : S → Prop} {N : Nat} {r : R} {r' : R'}
    (hb : ∀ j c s, c < N → I s → (step (s, ((c + 1 : Nat) : Int)) = some (.ret r) ∧ b' j s = some (.ret r')) ∨ ∃ s', I s' ∧ step (s, ((c + 1 : Nat) : Int)) = some (.next (s', (c : Int))) ∧ b' j s = some (.next s'))
    (he : ∀ s, I s → step (s, (0 : Int)) = some (.brk (s, (0 : Int)))) (s : S) (h0 : I s) :
    (whileC step (s, (N : Int)) = some (.ret r) ∧ forN b' N 0 s = some (.ret r')) ∨ ∃ s', I s' ∧ whileC step (s, (N : Int)) = some (.fin (s', (0 : Int))) ∧ forN b' N 0 s = some (.fin s') := by
  have key : ∀ (c k : Nat) (s : S), c ≤ N → I s → (iterW step (c + 1) (s, (c : Int)) = some (.ret r) ∧ forN b' c k s = some (.ret r')) ∨ ∃ s', I s' ∧ iterW step (c + 1) (s, (c : Int)) = some (.fin (s', (0 : Int))) ∧ forN b' c k s = some (.fin s') := by
    intro c
    induction c with
    | zero => intro k s hk hI; exact .inr ⟨s, hI, iterN_brk (he s hI), rfl⟩
    | succ c ih =>
      intro k s hk hI
      rcases hb k c s (by omega) hI with ⟨e, e'⟩ | ⟨s', hs, e, e'⟩
      · exact .inl ⟨iterN_ret e, forN_ret1 e'⟩
      · rw [iterN_next e, forN_next1 e']
        exact ih (k + 1) s' (by omega) hs
  rcases key N 0 s (Nat.le_refl _) h0 with ⟨e, e'⟩ | ⟨s', hs, e, e'⟩
  · exact .inl ⟨whileC_of e, e'⟩
  · exact .inr ⟨s', hs, whileC_of e, e'⟩
end
end Go.VG
