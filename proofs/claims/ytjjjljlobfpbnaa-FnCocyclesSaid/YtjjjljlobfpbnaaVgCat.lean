/- slices.Grow of nil, and rows joined: a row as an opaque value, builtin cap, append of made zeros. No condition. -/
import Derived.Test.YtjjjljlobfpbnaaVgCopy
import Derived.Lib.AppendZeros
set_option linter.all false
namespace Go.VG
open Go.RowKit (Below)

section
variable {P : Program} {f : Fr} {w : World} {T : TypeId}
end

/-! ### Lists element by element -/
inductive L2 {α β : Type} (R : α → β → Prop) : List α → List β → Prop
  | nil : L2 R [] []
  | cons {a b l m} (h : R a b) (k : L2 R l m) : L2 R (a :: l) (b :: m)
section
variable {α β : Type} {R : α → β → Prop}
theorem L2.len {l : List α} {m : List β} (h : L2 R l m) : l.length = m.length := by
  induction h with
  | nil => rfl
  | cons _ _ ih => simp [ih]
theorem L2.imp {S : α → β → Prop} (h : ∀ a b, R a b → S a b) {l : List α} {m : List β} (k : L2 R l m) : L2 S l m := by
  induction k with
  | nil => exact .nil
  | cons g _ ih => exact .cons (h _ _ g) ih
theorem L2.at {l : List α} {m : List β} (h : L2 R l m) : ∀ {i : Nat} {b : β}, m[i]? = some b → ∃ a, l[i]? = some a ∧ R a b := by
  induction h with
  | nil => intro i b hb; simp at hb
  | cons h _ ih =>
    intro i b hb
    cases i with
    | zero => simp at hb; subst hb; exact ⟨_, rfl, h⟩
    | succ i => simp at hb; obtain ⟨a, h1, h2⟩ := ih hb; exact ⟨a, by simpa using h1, h2⟩
theorem L2.of : ∀ {l : List α} {m : List β}, l.length = m.length → (∀ (i : Nat) (a : α) (b : β), l[i]? = some a → m[i]? = some b → R a b) → L2 R l m
  | [], [], _, _ => .nil
  | [], _ :: _, h, _ => by simp at h
  | _ :: _, [], h, _ => by simp at h
  | a :: l, b :: m, h, k => .cons (k 0 a b rfl rfl) (L2.of (by simpa using h) fun i x y hx hy => k (i + 1) x y (by simpa using hx) (by simpa using hy))
end

end Go.VG
