/- Lists and grids told by functions: read, written at a place, filled by loops; marks in lists of lists. No condition. -/
import Derived.Test.YtbgebkgpodgjdaaPlBase0
import Derived.Test.YtbgebkgpodgjdaaPlMarkL
set_option linter.all false
namespace Go.VG

def vecG {α : Type} (f : Nat → α) (n : Nat) : List α := (List.range n).map f
def rowG {α : Type} (f : Nat → Nat → α) (c i : Nat) : List α := vecG (f i) c
def grid {α : Type} (f : Nat → Nat → α) (r c : Nat) : List (List α) := (List.range r).map (rowG f c)
def up1 {α : Type} (f : Nat → α) (i : Nat) (v : α) : Nat → α := fun a => if a = i then v else f a
def up2 {α : Type} (f : Nat → Nat → α) (i j : Nat) (v : α) : Nat → Nat → α := fun a b => if a = i ∧ b = j then v else f a b

section
variable {α : Type}
theorem vecG_len {f : Nat → α} {n : Nat} : (vecG f n).length = n := by simp [vecG]
theorem grid_len {f : Nat → Nat → α} {r c : Nat} : (grid f r c).length = r := by simp [grid]
theorem rowG_len {f : Nat → Nat → α} {c i : Nat} : (rowG f c i).length = c := vecG_len
theorem vecG_getD' {f : Nat → α} {n i : Nat} (d : α) (h : i < n) : (vecG f n).getD i d = f i := by simp [vecG, List.getD, List.getElem?_range h]
theorem vecG_getD {f : Nat → Int} {n i : Nat} (h : i < n) : (vecG f n).getD i 0 = f i := vecG_getD' 0 h
theorem grid_getD {f : Nat → Nat → α} {r c i : Nat} (h : i < r) : (grid f r c).getD i [] = rowG f c i := by simp [grid, List.getD, List.getElem?_range h]
theorem vecG_idx {f : Nat → α} {n i : Nat} (h : i < n) : idx (vecG f n) (i : Int) = some (f i) := by
  simp [idx, vecG, List.getElem?_range h]
theorem rowG_idx {f : Nat → Nat → α} {c i j : Nat} (h : j < c) : idx (rowG f c i) (j : Int) = some (f i j) := vecG_idx h
theorem grid_idx {f : Nat → Nat → α} {r c i : Nat} (h : i < r) : idx (grid f r c) (i : Int) = some (rowG f c i) := vecG_idx h
theorem vecG_congr {f g : Nat → α} {n : Nat} (h : ∀ i, i < n → f i = g i) : vecG f n = vecG g n := List.map_congr_left fun i hi => h i (by simpa using hi)
theorem rowG_congr {f g : Nat → Nat → α} {c i i' : Nat} (h : ∀ j, j < c → f i j = g i' j) : rowG f c i = rowG g c i' := vecG_congr h
theorem grid_congr {f g : Nat → Nat → α} {r c : Nat} (h : ∀ i, i < r → ∀ j, j < c → f i j = g i j) : grid f r c = grid g r c := List.map_congr_left fun i hi => rowG_congr (h i (by simpa using hi))
theorem vecG_set {f : Nat → α} {n i : Nat} {v : α} (h : i < n) : (vecG f n).set i v = vecG (up1 f i v) n := by
  apply List.ext_getElem
  · simp [vecG]
  · intro k h1 h2
    simp only [vecG, List.getElem_set, up1, List.getElem_map, List.getElem_range]
    by_cases hk : i = k
    · subst hk; simp
    · have hk' : ¬ k = i := fun e => hk e.symm
      simp [hk, hk']
theorem grid_set {f : Nat → Nat → α} {r c i j : Nat} {v : α} (hi : i < r) (hj : j < c) : (grid f r c).set i ((rowG f c i).set j v) = grid (up2 f i j v) r c := by
  have e : (rowG f c i).set j v = rowG (up2 f i j v) c i := by
    unfold rowG
    rw [vecG_set hj]
    exact vecG_congr fun k _ => by simp [up1, up2]
  rw [e]
  apply List.ext_getElem
  · simp [grid]
  · intro k h1 h2
    simp only [grid, List.getElem_set, List.getElem_map, List.getElem_range]
    split
    · rename_i hk; subst hk; rfl
    · rename_i hk
      refine rowG_congr fun b _ => ?_
      have : ¬ (k = i ∧ b = j) := fun h => hk h.1.symm
      simp [up2, this]
end
theorem eq_vecG {l : List Int} {n : Nat} (h : l.length = n) : l = vecG (fun i => l.getD i 0) n := by
  subst h; exact (map_range_getD l 0).symm
theorem eq_grid {m : List (List Int)} {r c : Nat} (h : m.length = r) (hr : ∀ i, i < r → (m.getD i []).length = c) : m = grid (fun i j => (m.getD i []).getD j 0) r c := by
  subst h
  have e : (List.range m.length).map (fun i => m.getD i []) = m := map_range_getD m []
  conv => lhs; rw [← e]
  exact List.map_congr_left fun i hi => eq_vecG (hr i (by simpa using hi))
theorem grid_inj {f g : Nat → Nat → Int} {r c : Nat} : grid f r c = grid g r c ↔ ∀ i, i < r → ∀ j, j < c → f i j = g i j := by
  constructor
  · intro h i hi j hj
    have h1 := congrArg (fun m => (m.getD i []).getD j 0) h
    simp only [grid_getD hi] at h1
    have h2 : (rowG f c i).getD j 0 = f i j := vecG_getD hj
    have h3 : (rowG g c i).getD j 0 = g i j := vecG_getD hj
    rw [h2, h3] at h1; exact h1
  · exact grid_congr

theorem appL_range {α : Type} (f : Nat → α) {j : Nat} (hj : j ≤ 1048576) : appL ((List.range j).map f) [f j] = some ((List.range (j + 1)).map f) := by
  simp [appL, List.range_succ]; omega
/-- Rows of zeros, appended one by one. -/
theorem zeros_eq {r c : Nat} (hr : r ≤ 1048576) (hc : (c : Int) ≤ 1048576) {body : Nat → List (List Int) → Option (Ctl (List (List Int)) Unit)} (hb : ∀ k x, body k x = (mkL (c : Int) (0 : Int)).bind fun z => (appL x [z]).bind fun y => some (.next y)) :
    forN body r 0 [] = some (.fin (grid (fun _ _ => 0) r c)) := by
  refine forN_app (fun _ => rowG (fun _ _ => 0) c 0) fun j hj => ?_
  rw [hb, mkL_some' _ hc]
  simp only [Option.bind_some]
  have e : List.replicate c (0 : Int) = rowG (fun _ _ => 0) c 0 := by
    simp only [rowG, vecG]
    apply List.ext_getElem <;> simp
  rw [e, appL_range (fun _ => rowG (fun _ _ => 0) c 0) (by omega)]
  rfl

/-- A loop that ends by its own test, its states told. -/
theorem whileC_det {S R : Type} {step : S → Option (Ctl S R)} (N : Nat) (g : Nat → S) {s' : S} (hb : ∀ j, j < N → step (g j) = some (.next (g (j + 1)))) (he : step (g N) = some (.brk s')) : whileC step (g 0) = some (.fin s') := by
  have key : ∀ (c k : Nat), k + c = N → iterW step (c + 1) (g k) = some (.fin s') := by
    intro c
    induction c with
    | zero => intro k hk; have : k = N := by omega
              subst this; exact iterW_brk he
    | succ c ih => intro k hk; exact iterW_next (hb k (by omega)) (ih (k + 1) (by omega))
  exact whileC_of (key N 0 (by omega))

/-! ### Marks -/

theorem marks_held {α : Type} (d : α) {mk : α → Int → Option (Int × α)} {hd : α → Int → Option Int} (Bd : Int) (hBd : 0 ≤ Bd) {mb : Nat → (List α × Int) → Option (Ctl (List α × Int) Unit)} {hb : List α → Nat → Int → Option (Ctl Int Int)}
    (hmb : ∀ k a x, mb k (a, x) = (idx a (k : Int)).bind fun r => (mk r x).bind fun y => some (.next (a.set ((k : Int)).toNat y.2, y.1)))
    (hhb : ∀ a k x, hb a k x = (idx a (k : Int)).bind fun r => (hd r x).bind fun y => if decide (y < 0) = true then some (.ret (-1)) else some (.next y))
    (a : List α) (k : Int) (h0 : 0 ≤ k) (hel : ∀ r ∈ a, ∀ x, 0 ≤ x → x ≤ k + a.length * Bd → ∃ y l, mk r x = some (y, l) ∧ x ≤ y ∧ y ≤ x + Bd ∧ hd l x = some y) :
    ∃ r l, forN mb a.length 0 (a, k) = some (.fin (l, r)) ∧ l.length = a.length ∧ k ≤ r ∧ r ≤ k + a.length * Bd ∧ forN (hb l) l.length 0 k = some (.fin r) := by
  have hmul : ∀ j : Nat, j ≤ a.length → (j : Int) * Bd ≤ a.length * Bd := fun j hj => Int.mul_le_mul_of_nonneg_right (by omega) hBd
  obtain ⟨s, e, h2, h3, h4, h5, h6⟩ := forN_inv (R := Unit) (N := a.length) (s := (a, k)) (body := mb) (fun j s => s.1.length = a.length ∧ k ≤ s.2 ∧ s.2 ≤ k + j * Bd ∧ forN (hb s.1) j 0 k = some (.fin s.2) ∧ ∀ i, j ≤ i → i < a.length → s.1.getD i d = a.getD i d)
    ⟨rfl, Int.le_refl _, by simp, by simp [forN], fun _ _ _ => rfl⟩ (fun j s hj hs => by
      obtain ⟨g1, g2, g3, g4, g5⟩ := hs
      obtain ⟨s1, s2⟩ := s
      simp only at g1 g2 g3 g4 g5
      have hj' : j < s1.length := by omega
      obtain ⟨y, l, m1, m2, m3, m4⟩ := hel (a.getD j d) (getD_mem hj) s2 (by omega) (by have := hmul j (by omega); omega)
      rw [hmb, idx_getD s1 d hj', g5 j (Nat.le_refl _) hj]
      simp only [Option.bind_some, m1, Int.toNat_natCast]
      have ej : ((j + 1 : Nat) : Int) * Bd = j * Bd + Bd := by rw [Int.natCast_add]; simp [Int.add_mul]
      refine ⟨_, rfl, by simp [g1], by simp only; omega, by simp only; omega, ?_, fun i hi hi' => ?_⟩
      · refine forN_snoc (s1 := s2) ?_ ?_ ?_
        · rw [← g4]
          refine forN_congr' j 0 k (fun i x hi => ?_)
          rw [hhb, hhb, idx_getD _ d (by simp; omega : i < (s1.set j l).length), idx_getD _ d (by omega : i < s1.length), getD_set_ne _ _ _ (by omega)]
        · rw [hhb, Nat.zero_add, idx_getD _ d (by simp; omega : j < (s1.set j l).length), getD_set_eq _ _ _ hj']
          simp only [Option.bind_some, m4]
          have : ¬ y < 0 := by omega
          simp [this]
        · intro i x hi x' hbk
          rw [hhb] at hbk
          cases hx : idx (s1.set j l) (i : Int) with
          | none => rw [hx] at hbk; cases hbk
          | some z =>
            rw [hx] at hbk; simp only [Option.bind_some] at hbk
            cases hz : hd z x with
            | none => rw [hz] at hbk; cases hbk
            | some q => rw [hz] at hbk; simp only [Option.bind_some] at hbk; split at hbk <;> cases hbk
      · simp only
        rw [getD_set_ne _ _ _ (by omega)]; exact g5 i (by omega) hi')
  obtain ⟨s1, s2⟩ := s
  exact ⟨s2, s1, e, h2, h3, h4, by simp only at h2; rw [h2]; exact h5⟩
end Go.VG
