/- Places written and loops compared. No condition. -/
import Derived.Test.YtopabdbonlnijaaPlCom0
set_option linter.all false
namespace Go.VG

theorem forN_snoc {S R : Type} {b : Nat → S → Option (Ctl S R)} : ∀ {c k : Nat} {s s1 s2 : S}, forN b c k s = some (.fin s1) → b (k + c) s1 = some (.next s2) → (∀ j s, j < k + c → ∀ s', b j s ≠ some (.brk s')) → forN b (c + 1) k s = some (.fin s2)
  | 0, k, s, s1, s2, h, h2, _ => by
    simp only [forN, Option.some.injEq, Res.fin.injEq] at h
    subst h
    simp only [Nat.add_zero] at h2
    simp [forN, h2]
  | c + 1, k, s, s1, s2, h, h2, hn => by
    rw [show forN b (c + 1 + 1) k s = match b k s with | none => none | some (.next s') => forN b (c + 1) (k + 1) s' | some (.brk s') => some (.fin s') | some (.ret r) => some (.ret r) from rfl]
    rw [show forN b (c + 1) k s = match b k s with | none => none | some (.next s') => forN b c (k + 1) s' | some (.brk s') => some (.fin s') | some (.ret r) => some (.ret r) from rfl] at h
    cases hb : b k s with
    | none => rw [hb] at h; cases h
    | some ct =>
      rw [hb] at h
      cases ct with
      | next s' =>
        simp only at h ⊢
        exact forN_snoc h (by rw [show k + 1 + c = k + (c + 1) from by omega]; exact h2) (fun j s hj => hn j s (by omega))
      | brk s' => exact absurd hb (hn k s (by omega) s')
      | ret r => cases h
theorem getD_set_ne {α : Type} (l : List α) (d x : α) {i j : Nat} (h : i ≠ j) : (l.set i x).getD j d = l.getD j d := by
  simp [List.getD, List.getElem?_set, h]
theorem getD_set_eq {α : Type} (l : List α) (d x : α) {i : Nat} (h : i < l.length) : (l.set i x).getD i d = x := by
  simp [List.getD, List.getElem?_set, h]

theorem forN_congr' {S R : Type} {b b' : Nat → S → Option (Ctl S R)} : ∀ (c k : Nat) (s : S), (∀ j s, j < k + c → b j s = b' j s) → forN b c k s = forN b' c k s
  | 0, _, _, _ => rfl
  | c + 1, k, s, h => by
    simp only [forN]
    rw [h k s (by omega)]
    cases b' k s with
    | none => rfl
    | some ct =>
      cases ct with
      | next s' => exact forN_congr' c (k + 1) s' (fun j s hj => h j s (by omega))
      | brk s' => rfl
      | ret r => rfl
end Go.VG
