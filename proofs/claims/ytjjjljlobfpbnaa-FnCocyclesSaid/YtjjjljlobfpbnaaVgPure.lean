/- The words in which the functions' plain Lean twins are written: loops, indexes, new lists. No program in sight. No condition. -/
import GoSem.Core.View
set_option linter.all false
namespace Go.VG

inductive Ctl (S R : Type) where
  | next (s : S)
  | brk (s : S)
  | ret (r : R)
inductive Res (S R : Type) where
  | fin (s : S)
  | ret (r : R)

/-- A counted loop: 'c' rounds at most, the next one's number 'k'. -/
def forN {S R : Type} (body : Nat → S → Option (Ctl S R)) : Nat → Nat → S → Option (Res S R)
  | 0, _, s => some (.fin s)
  | c + 1, k, s => match body k s with
    | none => none
    | some (.next s') => forN body c (k + 1) s'
    | some (.brk s') => some (.fin s')
    | some (.ret r) => some (.ret r)

def iterW {S R : Type} (step : S → Option (Ctl S R)) : Nat → S → Option (Res S R)
  | 0, _ => none
  | n + 1, s => match step s with
    | none => none
    | some (.next s') => iterW step n s'
    | some (.brk s') => some (.fin s')
    | some (.ret r) => some (.ret r)

open Classical in
/-- A loop without a count: none where it does not end. -/
noncomputable def whileC {S R : Type} (step : S → Option (Ctl S R)) (s : S) : Option (Res S R) :=
  if h : ∃ n, (iterW step n s).isSome = true then iterW step (Classical.choose h) s else none

theorem iterW_more {S R : Type} {step : S → Option (Ctl S R)} : ∀ {n : Nat} {s : S} {r : Res S R}, iterW step n s = some r → ∀ k, iterW step (n + k) s = some r
  | 0, s, r, h, k => by simp [iterW] at h
  | n + 1, s, r, h, k => by
    rw [show n + 1 + k = (n + k) + 1 from by omega]
    simp only [iterW] at h ⊢
    split at h
    · cases h
    · exact iterW_more h k
    · exact h
    · exact h

theorem iterW_unique {S R : Type} {step : S → Option (Ctl S R)} {n m : Nat} {s : S} {r r' : Res S R} (h : iterW step n s = some r) (h' : iterW step m s = some r') : r = r' := by
  have h1 := iterW_more h m
  have h2 := iterW_more h' n
  rw [show m + n = n + m from by omega, h1] at h2
  exact Option.some.inj h2

theorem whileC_of {S R : Type} {step : S → Option (Ctl S R)} {n : Nat} {s : S} {r : Res S R} (h : iterW step n s = some r) : whileC step s = some r := by
  unfold whileC
  have hex : ∃ n, (iterW step n s).isSome = true := ⟨n, by rw [h]; rfl⟩
  rw [dif_pos hex]
  obtain ⟨r', hr'⟩ := Option.isSome_iff_exists.1 (Classical.choose_spec hex)
  rw [hr', iterW_unique h hr']

theorem whileC_some {S R : Type} {step : S → Option (Ctl S R)} {s : S} {r : Res S R} (h : whileC step s = some r) : ∃ n, iterW step n s = some r := by
  unfold whileC at h
  split at h
  · exact ⟨_, h⟩
  · cases h

def idx {α : Type} (l : List α) (i : Int) : Option α := if 0 ≤ i then l[i.toNat]? else none
def mkL {α : Type} (m : Int) (z : α) : Option (List α) := if 0 ≤ m ∧ m ≤ 1099511627776 then some (List.replicate m.toNat z) else none
def appL {α : Type} (l xs : List α) : Option (List α) := if l.length + xs.length ≤ 1099511627776 then some (l ++ xs) else none
def cutL {α : Type} (l : List α) (a b : Int) : Option (List α) := if 0 ≤ a ∧ a ≤ b ∧ b ≤ l.length then some ((l.take b.toNat).drop a.toNat) else none
def quoI (k : IntKind) (a b : Int) : Option Int := if b ≠ 0 then some (k.wrap (a.tdiv b)) else none
def remI (a b : Int) : Option Int := if b ≠ 0 then some (a.tmod b) else none
def andI (k : IntKind) (a b : Int) : Int := k.wrap (BitVec.ofInt k.bits a &&& BitVec.ofInt k.bits b).toNat
/-- int64's and int's wrap. -/
def w64 (x : Int) : Int := IntKind.i64.wrap x

theorem bs {α β : Type} {o : Option α} {k : α → Option β} {r : β} (h : o.bind k = some r) : ∃ x, o = some x ∧ k x = some r := Option.bind_eq_some_iff.1 h
theorem ip {α : Type} {c : Prop} [Decidable c] {x y : α} {r : α} (h : (if c then x else y) = r) (hc : c) : x = r := by rwa [if_pos hc] at h
theorem idx_some {α : Type} {l : List α} {i : Int} {x : α} (h : idx l i = some x) : 0 ≤ i ∧ i < l.length ∧ l[i.toNat]? = some x := by
  unfold idx at h
  split at h
  · rename_i h0
    have := (List.getElem?_eq_some_iff.1 h).1
    exact ⟨h0, by omega, h⟩
  · cases h
theorem mkL_some {α : Type} {m : Int} {z : α} {l : List α} (h : mkL m z = some l) : 0 ≤ m ∧ m ≤ 1099511627776 ∧ l = List.replicate m.toNat z := by
  unfold mkL at h
  split at h
  · rename_i h0; cases h; exact ⟨h0.1, h0.2, rfl⟩
  · cases h
theorem appL_some {α : Type} {l xs l' : List α} (h : appL l xs = some l') : l.length + xs.length ≤ 1099511627776 ∧ l' = l ++ xs := by
  unfold appL at h
  split at h
  · rename_i h0; cases h; exact ⟨h0, rfl⟩
  · cases h
theorem cutL_some {α : Type} {l l' : List α} {a b : Int} (h : cutL l a b = some l') : 0 ≤ a ∧ a ≤ b ∧ b ≤ l.length ∧ l' = (l.take b.toNat).drop a.toNat := by
  unfold cutL at h
  split at h
  · rename_i h0; cases h; exact ⟨h0.1, h0.2.1, h0.2.2, rfl⟩
  · cases h
theorem quoI_some {k : IntKind} {a b c : Int} (h : quoI k a b = some c) : b ≠ 0 ∧ c = k.wrap (a.tdiv b) := by
  unfold quoI at h
  split at h
  · rename_i h0; cases h; exact ⟨h0, rfl⟩
  · cases h
theorem remI_some {a b c : Int} (h : remI a b = some c) : b ≠ 0 ∧ c = a.tmod b := by
  unfold remI at h
  split at h
  · rename_i h0; cases h; exact ⟨h0, rfl⟩
  · cases h
def onRes {S R β : Type} (x : Res S R) (fr : R → Option β) (g : S → Option β) : Option β := match x with | .fin s => g s | .ret r => fr r
theorem onRes_fin {S R β : Type} {s : S} {fr : R → Option β} {g : S → Option β} {r : β} (h : onRes (.fin s) fr g = some r) : g s = some r := h
theorem onRes_ret {S R β : Type} {x : R} {fr : R → Option β} {g : S → Option β} {r : β} (h : onRes (.ret x) fr g = some r) : fr x = some r := h


end Go.VG
