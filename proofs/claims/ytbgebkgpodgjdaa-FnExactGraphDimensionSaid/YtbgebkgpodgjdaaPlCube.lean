/- Cubes of numbers: read, written at a place, filled by three loops; quotients and remainders of places. No condition. -/
import Derived.Test.YtbgebkgpodgjdaaPlFill
set_option linter.all false
namespace Go.VG
def cubeG {α : Type} (f : Nat → Nat → Nat → α) (a b c : Nat) : List (List (List α)) := (List.range a).map (fun i => grid (f i) b c)
def up3 {α : Type} (f : Nat → Nat → Nat → α) (i j k : Nat) (v : α) : Nat → Nat → Nat → α := fun x y z => if x = i ∧ y = j ∧ z = k then v else f x y z
section
variable {α : Type} {f g : Nat → Nat → Nat → α} {a b c : Nat}
theorem cubeG_len : (cubeG f a b c).length = a := by simp [cubeG]
theorem cubeG_idx {i : Nat} (h : i < a) : idx (cubeG f a b c) (i : Int) = some (grid (f i) b c) := vecG_idx (f := fun i => grid (f i) b c) h
theorem cubeG_getD {i : Nat} (h : i < a) : (cubeG f a b c).getD i [] = grid (f i) b c := vecG_getD' (f := fun i => grid (f i) b c) [] h
theorem cubeG_congr (h : ∀ i, i < a → ∀ j, j < b → ∀ k, k < c → f i j k = g i j k) : cubeG f a b c = cubeG g a b c := List.map_congr_left fun i hi => grid_congr (h i (by simpa using hi))
theorem cubeG_set {i j k : Nat} {v : α} (hi : i < a) (hj : j < b) (hk : k < c) : (cubeG f a b c).set i ((grid (f i) b c).set j ((rowG (f i) c j).set k v)) = cubeG (up3 f i j k v) a b c := by
  rw [grid_set hj hk]
  have := vecG_set (f := fun i => grid (f i) b c) (n := a) (i := i) (v := grid (up2 (f i) j k v) b c) hi
  rw [show (cubeG f a b c) = vecG (fun i => grid (f i) b c) a from rfl, this]
  refine vecG_congr fun x hx => ?_
  simp only [up1]
  split
  · rename_i h; subst h
    exact grid_congr fun y hy z hz => by simp [up2, up3]
  · rename_i h
    exact grid_congr fun y hy z hz => by simp [up3, h]

theorem fill3row {i j : Nat} (hi : i < a) (hj : j < b) {L3 : Nat → List (List (List α)) → Option (Ctl (List (List (List α))) Unit)} (f : Nat → Nat → Nat → α) (S' : Nat → α)
    (hin : ∀ k, k < c → ∀ g : Nat → Nat → Nat → α, g i j k = f i j k → L3 k (cubeG g a b c) = some (.next (cubeG (up3 g i j k (S' k)) a b c))) :
    forN L3 c 0 (cubeG f a b c) = some (.fin (cubeG (fun x y z => if x = i ∧ y = j then S' z else f x y z) a b c)) := by
  have := forN_det (R := Unit) (N := c) (body := L3) (fun q => cubeG (fun x y z => if x = i ∧ y = j ∧ z < q then S' z else f x y z) a b c) (fun q hq => by
    rw [hin q hq _ (by simp)]
    congr 2
    refine cubeG_congr fun x hx y hy z hz => ?_
    simp only [up3]
    by_cases h : x = i ∧ y = j ∧ z = q
    · obtain ⟨rfl, rfl, rfl⟩ := h; simp
    · simp only [h, if_false]
      have : (x = i ∧ y = j ∧ z < q + 1) ↔ (x = i ∧ y = j ∧ z < q) := by omega
      simp only [this])
  simp only [Nat.not_lt_zero, and_false, if_false] at this
  rw [this]
  congr 2
  exact cubeG_congr fun x hx y hy z hz => by simp [hz]
/-- Three loops that write each place once. -/
theorem fill3 {L1 : Nat → List (List (List α)) → Option (Ctl (List (List (List α))) Unit)} {L2 : Nat → Nat → List (List (List α)) → Option (Ctl (List (List (List α))) Unit)} {L3 : Nat → Nat → Nat → List (List (List α)) → Option (Ctl (List (List (List α))) Unit)}
    (S S' : Nat → Nat → Nat → α)
    (h3 : ∀ i, i < a → ∀ j, j < b → ∀ k, k < c → ∀ g : Nat → Nat → Nat → α, g i j k = S i j k → L3 i j k (cubeG g a b c) = some (.next (cubeG (up3 g i j k (S' i j k)) a b c)))
    (h2 : ∀ i, i < a → ∀ j, j < b → ∀ g : Nat → Nat → Nat → α, L2 i j (cubeG g a b c) = (forN (L3 i j) c 0 (cubeG g a b c)).bind fun res => onRes res (fun _ => none) fun z => some (.next z))
    (h1 : ∀ i, i < a → ∀ g : Nat → Nat → Nat → α, L1 i (cubeG g a b c) = (forN (L2 i) b 0 (cubeG g a b c)).bind fun res => onRes res (fun _ => none) fun z => some (.next z)) :
    forN L1 a 0 (cubeG S a b c) = some (.fin (cubeG S' a b c)) := by
  have := forN_det (R := Unit) (N := a) (body := L1) (fun q => cubeG (fun x y z => if x < q then S' x y z else S x y z) a b c) (fun i hi => by
    rw [h1 i hi]
    have e2 := forN_det (R := Unit) (N := b) (body := L2 i) (fun q => cubeG (fun x y z => if x < i ∨ (x = i ∧ y < q) then S' x y z else S x y z) a b c) (fun j hj => by
      rw [h2 i hi j hj, fill3row hi hj _ (S' i j) (fun k hk g hg => h3 i hi j hj k hk g (by rw [hg]; simp))]
      simp only [Option.bind_some, onRes]
      congr 2
      refine cubeG_congr fun x hx y hy z hz => ?_
      by_cases h : x = i ∧ y = j
      · obtain ⟨rfl, rfl⟩ := h; simp
      · have : (x < i ∨ x = i ∧ y < j + 1) ↔ (x < i ∨ x = i ∧ y < j) := by omega
        simp only [h, if_false, this])
    simp only [Nat.not_lt_zero, and_false, or_false] at e2
    rw [e2]
    simp only [Option.bind_some, onRes]
    congr 2
    refine cubeG_congr fun x hx y hy z hz => ?_
    have : (x < i ∨ x = i ∧ y < b) ↔ x < i + 1 := by omega
    simp only [this])
  simp only [Nat.not_lt_zero, if_false] at this
  rw [this]
  congr 2
  exact cubeG_congr fun x hx y hy z hz => by simp [hx]
end
theorem quoN {k m : Nat} (hm : 1 ≤ m) (hk : k ≤ 1099511627776) : quoI .i64 (k : Int) (m : Int) = some ((k / m : Nat) : Int) := by
  have h0 : (m : Int) ≠ 0 := by omega
  simp only [quoI, ne_eq, h0, not_false_eq_true, if_true]
  rw [Int.tdiv_eq_ediv_of_nonneg (by omega)]
  have h2 : k / m ≤ k := Nat.div_le_self _ _
  have e : ((k : Int) / (m : Int)) = ((k / m : Nat) : Int) := rfl
  rw [e]
  generalize k / m = q at h2 ⊢
  exact congrArg some (w64_small (by omega) (by omega))
theorem remN {k m : Nat} (hm : 1 ≤ m) : remI (k : Int) (m : Int) = some ((k % m : Nat) : Int) := by
  have h0 : (m : Int) ≠ 0 := by omega
  simp only [remI, ne_eq, h0, not_false_eq_true, if_true]
  rfl
end Go.VG
