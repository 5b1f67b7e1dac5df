/- Grids filled by loops in loops. No condition. -/
import Derived.Test.YtbgebkgpodgjdaaPlGrid
set_option linter.all false
namespace Go.VG
theorem fillrow {α : Type} {r c x : Nat} (hx : x < r) {inner : Nat → List (List α) → Option (Ctl (List (List α)) Unit)} (f : Nat → Nat → α) (S' : Nat → α)
    (hin : ∀ y, y < c → ∀ g : Nat → Nat → α, g x y = f x y → inner y (grid g r c) = some (.next (grid (up2 g x y (S' y)) r c))) :
    forN inner c 0 (grid f r c) = some (.fin (grid (fun a b => if a = x then S' b else f a b) r c)) := by
  have := forN_det (R := Unit) (N := c) (body := inner) (fun q => grid (fun a b => if a = x ∧ b < q then S' b else f a b) r c) (fun q hq => by
    rw [hin q hq _ (by simp)]
    congr 2
    refine grid_congr fun a ha b hb => ?_
    simp only [up2]
    by_cases hab : a = x ∧ b = q
    · obtain ⟨rfl, rfl⟩ := hab
      simp
    · simp only [hab, if_false]
      have : (a = x ∧ b < q + 1) ↔ (a = x ∧ b < q) := by omega
      simp only [this])
  simp only [Nat.not_lt_zero, and_false, if_false] at this
  rw [this]
  congr 2
  exact grid_congr fun a ha b hb => by simp [hb]
theorem fill2 {α : Type} {r c : Nat} {outer : Nat → List (List α) → Option (Ctl (List (List α)) Unit)} {inner : Nat → Nat → List (List α) → Option (Ctl (List (List α)) Unit)} (S S' : Nat → Nat → α)
    (hin : ∀ x, x < r → ∀ y, y < c → ∀ g : Nat → Nat → α, g x y = S x y → inner x y (grid g r c) = some (.next (grid (up2 g x y (S' x y)) r c)))
    (hout : ∀ x, x < r → ∀ (g : Nat → Nat → α), outer x (grid g r c) = (forN (inner x) c 0 (grid g r c)).bind fun res => onRes res (fun _ => none) fun z => some (.next z)) :
    forN outer r 0 (grid S r c) = some (.fin (grid S' r c)) := by
  have := forN_det (R := Unit) (N := r) (body := outer) (fun q => grid (fun a b => if a < q then S' a b else S a b) r c) (fun q hq => by
    rw [hout q hq, fillrow hq _ (S' q) (fun y hy g hg => hin q hq y hy g (by rw [hg]; simp))]
    simp only [Option.bind_some, onRes]
    congr 2
    refine grid_congr fun a ha b hb => ?_
    by_cases haq : a = q
    · subst haq; simp
    · have : a < q + 1 ↔ a < q := by omega
      simp only [haq, if_false, this])
  simp only [Nat.not_lt_zero, if_false] at this
  rw [this]
  congr 2
  exact grid_congr fun a ha b hb => by simp [ha]
end Go.VG
