/- What a table and colours tell of a label: carried over by a renumbering. Plain. -/
import Derived.Test.YtopabdbonlnijaaPlIsoSort
set_option linter.all false
namespace Go.VG
theorem app_ok {α : Type} {l xs : List α} (h : l.length + xs.length ≤ 1099511627776) : appL l xs = some (l ++ xs) := by unfold appL; rw [if_pos h]
theorem flat_len {α : Type} {f : Nat → List α} {c : Nat} (h : ∀ z, (f z).length = c) : ∀ j : Nat, ((List.range j).flatMap f).length = j * c
  | 0 => by simp
  | j + 1 => by
    rw [List.range_succ, List.flatMap_append, List.length_append, flat_len h j]
    simp [h, Nat.succ_mul]
theorem flat_succ {α : Type} (f : Nat → List α) (j : Nat) : (List.range (j + 1)).flatMap f = (List.range j).flatMap f ++ f j := by
  rw [List.range_succ, List.flatMap_append]; simp
section
variable {T S : List (List (List Int))} {c d : List Int}
def mPair (c : List Int) (y z : Nat) : Int := w64 ((w64 ((w64 ((w64 (c.getD y 0 * (64 : Int))) + c.getD z 0)) * (1024 : Int))) * (4 : Int))
def mIn (T : List (List (List Int))) (c : List Int) (x y z : Nat) : List Int :=
  [w64 (mPair c y z + w64 (at3 T x y z * 4)), w64 (w64 (mPair c y z + w64 (at3 T y x z * 4)) + 1), w64 (w64 (mPair c y z + w64 (at3 T y z x * 4)) + 2)]
def mEnd (T : List (List (List Int))) (c : List Int) (x y : Nat) : Int := w64 (w64 (1099511627776 + w64 (w64 (w64 (c.getD y 0 * 1024) + at3 T x x y) * 1024)) + at3 T x y y)
def mRow (T : List (List (List Int))) (c : List Int) (x y : Nat) : List Int := ((List.range T.length).flatMap fun z => mIn T c x y z) ++ [mEnd T c x y]
def markL (T : List (List (List Int))) (c : List Int) (x : Nat) : List Int := (List.range T.length).flatMap fun y => mRow T c x y
def mark (T : List (List (List Int))) (c : List Int) (x : Nat) : List Int := c.getD x 0 :: sortI (markL T c x)
theorem mRow_len (x y : Nat) : (mRow T c x y).length = T.length * 3 + 1 := by
  unfold mRow
  rw [List.length_append, flat_len (c := 3) (fun _ => rfl)]; rfl
theorem mark_in (hT : Cube T) (hc : c.length = T.length) {x y : Nat} (hx : x < T.length) (hy : y < T.length) (l : List Int) (hl : l.length ≤ 1048576) :
    forN (R := Unit) (fun k s => p_spec_l03Mark_L2 c y T (x : Int) k s) T.length 0 l = some (.fin (l ++ (List.range T.length).flatMap fun z => mIn T c x y z)) := by
  have h1 := hT.1
  have h := forN_det (R := Unit) (body := fun k s => p_spec_l03Mark_L2 c y T (x : Int) k s) (N := T.length) (fun j => l ++ (List.range j).flatMap fun z => mIn T c x y z) (fun j hj => by
    simp only [p_spec_l03Mark_L2, idx_getD c 0 (show y < c.length by omega), idx_getD c 0 (show j < c.length by omega), hT.i1 hx, hT.i1 hy, hT.i2 hx hy, hT.i2 hy hx, hT.i2 hy hj, hT.i3 hx hy hj, hT.i3 hy hx hj, hT.i3 hy hj hx, Option.bind_some]
    rw [app_ok (by rw [List.length_append, flat_len (c := 3) (fun _ => rfl)]; simp; omega), Option.bind_some, flat_succ, ← List.append_assoc]
    rfl)
  simpa using h
theorem mark_out (hT : Cube T) (hc : c.length = T.length) {x : Nat} (hx : x < T.length) :
    forN (R := Unit) (fun k s => p_spec_l03Mark_L1 c T (x : Int) k s) T.length 0 ([] : List Int) = some (.fin (markL T c x)) := by
  have h1 := hT.1
  have h := forN_det (R := Unit) (body := fun k s => p_spec_l03Mark_L1 c T (x : Int) k s) (N := T.length) (fun j => (List.range j).flatMap fun y => mRow T c x y) (fun j hj => by
    have hb : j * (T.length * 3 + 1) ≤ 16 * 49 := Nat.mul_le_mul (by omega) (by omega)
    have hl : ((List.range j).flatMap fun y => mRow T c x y).length = j * (T.length * 3 + 1) := flat_len (fun y => mRow_len x y) j
    simp only [p_spec_l03Mark_L1]
    rw [mark_in hT hc hx hj _ (by rw [hl]; omega)]
    simp only [Option.bind_some, onRes, idx_getD c 0 (show j < c.length by omega), hT.i1 hx, hT.i2 hx hx, hT.i2 hx hj, hT.i3 hx hx hj, hT.i3 hx hj hj]
    rw [app_ok (by rw [List.length_append, hl, flat_len (c := 3) (fun _ => rfl)]; simp; omega), Option.bind_some, flat_succ, List.append_assoc]
    rfl)
  exact h
theorem mark_eq (hT : Cube T) (hc : c.length = T.length) {x : Nat} (hx : x < T.length) : p_spec_l03Mark T c (x : Int) = some (mark T c x) := by
  have h1 := hT.1
  have hb : T.length * (T.length * 3 + 1) ≤ 16 * 49 := Nat.mul_le_mul (by omega) (by omega)
  have hl : (markL T c x).length = T.length * (T.length * 3 + 1) := flat_len (fun y => mRow_len x y) _
  unfold p_spec_l03Mark
  rw [mark_out hT hc hx]
  simp only [Option.bind_some, onRes, idx_getD c 0 (show x < c.length by omega), sorted_eq _ (show (markL T c x).length ≤ 1048576 by omega)]
  rw [app_ok (by rw [sortI_len, hl]; simp; omega), Option.bind_some]
  rfl
/-- A renumbering of the labels that keeps the tables and the colours. -/
structure Iso (T S : List (List (List Int))) (g : Nat → Nat) : Prop where
  len : T.length = S.length
  perm : ((List.range T.length).map g).Perm (List.range T.length)
  at3 : ∀ x y z, x < T.length → y < T.length → z < T.length → at3 T x y z = at3 S (g x) (g y) (g z)
def Keeps (n : Nat) (g : Nat → Nat) (c d : List Int) : Prop := ∀ x, x < n → c.getD x 0 = d.getD (g x) 0
theorem flat_perm {α : Type} {f h : Nat → List α} {n : Nat} {g : Nat → Nat} (hp : ((List.range n).map g).Perm (List.range n)) (hf : ∀ y, y < n → (f y).Perm (h (g y))) :
    ((List.range n).flatMap f).Perm ((List.range n).flatMap h) := by
  have h1 : ((List.range n).flatMap f).Perm ((List.range n).flatMap fun y => h (g y)) := by
    have : ∀ l : List Nat, (∀ y ∈ l, y < n) → (l.flatMap f).Perm (l.flatMap fun y => h (g y)) := by
      intro l
      induction l with
      | nil => intro _; exact List.Perm.refl _
      | cons y l ih =>
        intro hl
        simp only [List.flatMap_cons]
        exact (hf y (hl y (by simp))).append (ih fun z hz => hl z (by simp [hz]))
    exact this _ fun y hy => List.mem_range.1 hy
  refine h1.trans ?_
  have h2 : ((List.range n).flatMap fun y => h (g y)) = (((List.range n).map g).flatMap h) := by rw [List.flatMap_map]
  rw [h2]
  exact hp.flatMap_right h
theorem mark_iso {g : Nat → Nat} (hg : Iso T S g) (hk : Keeps T.length g c d) {x : Nat} (hx : x < T.length) : mark T c x = mark S d (g x) := by
  unfold mark
  rw [hk x hx]
  congr 1
  refine sortI_congr ?_
  unfold markL
  rw [← hg.len]
  refine flat_perm hg.perm fun y hy => ?_
  unfold mRow
  rw [← hg.len]
  have e : mEnd T c x y = mEnd S d (g x) (g y) := by
    unfold mEnd
    rw [hk y hy, hg.at3 x x y hx hx hy, hg.at3 x y y hx hy hy]
  rw [e]
  refine List.Perm.append ?_ (List.Perm.refl _)
  refine flat_perm hg.perm fun z hz => ?_
  unfold mIn mPair
  rw [hk y hy, hk z hz, hg.at3 x y z hx hy hz, hg.at3 y x z hy hx hz, hg.at3 y z x hy hz hx]
end
end Go.VG
