/- Cocycles: the plain texts that they lean on, in one. No condition. -/
import Derived.Test.YtjjjljlobfpbnaaGPure
import Derived.Test.YtjjjljlobfpbnaaVgPl
import Derived.Test.YtjjjljlobfpbnaaVgRow
set_option linter.all false
-- PlCom0
namespace Go.VG

theorem w64_small {x : Int} (h1 : -9223372036854775808 ≤ x) (h2 : x ≤ 9223372036854775807) : w64 x = x := w64_id (inR_i64.2 ⟨h1, h2⟩)

/-- A size that fits: what is left, and that the lists are short. -/
theorem getD_mem {α : Type} {l : List α} {d : α} {i : Nat} (h : i < l.length) : l.getD i d ∈ l := by
  have : l.getD i d = l[i] := by simp [List.getD, List.getElem?_eq_getElem h]
  rw [this]; exact List.getElem_mem h
theorem mem_getD {α : Type} {l : List α} {x : α} (d : α) (h : x ∈ l) : ∃ i, i < l.length ∧ l.getD i d = x := by
  obtain ⟨i, hi, e⟩ := List.mem_iff_getElem.1 h
  exact ⟨i, hi, by simp [List.getElem?_eq_getElem hi, e]⟩

/-- A loop that subtracts sizes. -/
theorem mkL_some' {α : Type} {m : Nat} (z : α) (h : (m : Int) ≤ 1048576) : mkL (m : Int) z = some (List.replicate m z) := by
  simp [mkL]; omega

/-! ### Comparisons -/

end Go.VG
-- PlRing0
namespace Go.VG
/-! ### The library's searches -/

theorem indexFunc_i {l : List Int} {f : Int → Option Bool} {Q : Nat → Prop} (h : ∀ j, j < l.length → Says (f (l.getD j 0)) (Q j)) : Says (p_slices_ContainsFunc_Lint64_int64 l f) (∃ j, j < l.length ∧ Q j) := by
  unfold p_slices_ContainsFunc_Lint64_int64 p_slices_IndexFunc_Lint64_int64
  have := forN_chk (N := l.length) (R := Int) (Bad := fun r => 0 ≤ r) (body := fun k s => p_slices_IndexFunc_Lint64_int64_L1 l f k) (P := fun j => ¬ Q j) fun j hj _ => by
    obtain ⟨b, h1, h2⟩ := h j hj
    simp only [p_slices_IndexFunc_Lint64_int64_L1, idx_getD l 0 hj, Option.bind_some, h1]
    exact ChkC.congr (ChkC.ite (by omega)) (by rw [← h2]; simp)
  rcases this with ⟨h1, h2⟩ | ⟨h1, r, h2, h3⟩
  · rw [h2]; exact ⟨false, rfl, by simpa using h1⟩
  · rw [h2]; exact ⟨true, by simp [onRes, h3], by simpa using h1⟩
theorem indexFunc_l {l : List (List Int)} {f : List Int → Option Bool} {Q : Nat → Prop} (h : ∀ j, j < l.length → Says (f (l.getD j [])) (Q j)) : Says (p_slices_ContainsFunc_LLint64_Lint64 l f) (∃ j, j < l.length ∧ Q j) := by
  unfold p_slices_ContainsFunc_LLint64_Lint64 p_slices_IndexFunc_LLint64_Lint64
  have := forN_chk (N := l.length) (R := Int) (Bad := fun r => 0 ≤ r) (body := fun k s => p_slices_IndexFunc_LLint64_Lint64_L1 l f k) (P := fun j => ¬ Q j) fun j hj _ => by
    obtain ⟨b, h1, h2⟩ := h j hj
    simp only [p_slices_IndexFunc_LLint64_Lint64_L1, idx_getD l [] hj, Option.bind_some, h1]
    exact ChkC.congr (ChkC.ite (by omega)) (by rw [← h2]; simp)
  rcases this with ⟨h1, h2⟩ | ⟨h1, r, h2, h3⟩
  · rw [h2]; exact ⟨false, rfl, by simpa using h1⟩
  · rw [h2]; exact ⟨true, by simp [onRes, h3], by simpa using h1⟩

theorem Says.not {o : Option Bool} {P : Prop} (h : Says o P) : Says (o.bind fun x => some (!x)) (¬ P) := by
  obtain ⟨b, rfl, h2⟩ := h
  exact ⟨!b, rfl, by rw [← h2]; simp⟩
theorem Says.id {o : Option Bool} {P : Prop} (h : Says o P) : Says (o.bind fun x => some x) P := by
  obtain ⟨b, rfl, h2⟩ := h; exact ⟨b, rfl, h2⟩
theorem Says.and {b : Bool} {o : Option Bool} {P : Prop} (h : b = true → Says o P) : Says (if b = true then o else some false) (b = true ∧ P) := by
  cases b
  · exact ⟨false, rfl, by simp⟩
  · simpa using h rfl
theorem allWithin_says (l : List Int) (a b : Int) : Says (p_impl_allWithin l a b) (∀ k, k < l.length → a ≤ l.getD k 0 ∧ l.getD k 0 ≤ b) := by
  unfold p_impl_allWithin
  refine Says.congr (Says.not (indexFunc_i (Q := fun k => ¬ (a ≤ l.getD k 0 ∧ l.getD k 0 ≤ b)) fun j hj => ?_)) ?_
  · simp only [p_impl_allWithin_c1, p_impl_within, Option.bind_some]
    exact ⟨_, rfl, by simp; omega⟩
  · constructor
    · intro h k hk
      exact Decidable.byContradiction fun hc => h ⟨k, hk, hc⟩
    · rintro h ⟨k, hk, hc⟩
      exact hc (h k hk)

end Go.VG
-- PlBase0
namespace Go.VG
theorem eq_iff_getD {α : Type} {a b : List α} (d : α) (hl : a.length = b.length) : a = b ↔ ∀ j, j < a.length → a.getD j d = b.getD j d := by
  constructor
  · rintro rfl j _; rfl
  · intro h
    apply List.ext_getElem hl
    intro i h1 h2
    have := h i h1
    simpa [List.getD, List.getElem?_eq_getElem h1, List.getElem?_eq_getElem h2] using this
end Go.VG
-- PlLoops
namespace Go.VG
section
variable {S R R' : Type}
theorem iterN_next {step : S → Option (Ctl S R)} {n : Nat} {s s' : S} (h : step s = some (.next s')) : iterW step (n + 1) s = iterW step n s' := by
  conv => lhs; unfold iterW
  simp only [h]
theorem iterN_ret {step : S → Option (Ctl S R)} {n : Nat} {s : S} {r : R} (h : step s = some (.ret r)) : iterW step (n + 1) s = some (.ret r) := by
  conv => lhs; unfold iterW
  simp only [h]
theorem iterN_brk {step : S → Option (Ctl S R)} {n : Nat} {s s' : S} (h : step s = some (.brk s')) : iterW step (n + 1) s = some (.fin s') := by
  conv => lhs; unfold iterW
  simp only [h]
end
end Go.VG
-- PlMarkL
namespace Go.VG

end Go.VG
-- PlGrid
namespace Go.VG

def vecG {α : Type} (f : Nat → α) (n : Nat) : List α := (List.range n).map f
def rowG {α : Type} (f : Nat → Nat → α) (c i : Nat) : List α := vecG (f i) c
def grid {α : Type} (f : Nat → Nat → α) (r c : Nat) : List (List α) := (List.range r).map (rowG f c)
def up1 {α : Type} (f : Nat → α) (i : Nat) (v : α) : Nat → α := fun a => if a = i then v else f a
def up2 {α : Type} (f : Nat → Nat → α) (i j : Nat) (v : α) : Nat → Nat → α := fun a b => if a = i ∧ b = j then v else f a b

section
variable {α : Type}
theorem vecG_len {f : Nat → α} {n : Nat} : (vecG f n).length = n := by simp [vecG]
theorem grid_len {f : Nat → Nat → α} {r c : Nat} : (grid f r c).length = r := by simp [grid]
theorem rowG_len {f : Nat → Nat → α} {c i : Nat} : (rowG f c i).length = c := vecG_len
theorem vecG_getD' {f : Nat → α} {n i : Nat} (d : α) (h : i < n) : (vecG f n).getD i d = f i := by simp [vecG, List.getD, List.getElem?_range h]
theorem vecG_getD {f : Nat → Int} {n i : Nat} (h : i < n) : (vecG f n).getD i 0 = f i := vecG_getD' 0 h
theorem grid_getD {f : Nat → Nat → α} {r c i : Nat} (h : i < r) : (grid f r c).getD i [] = rowG f c i := by simp [grid, List.getD, List.getElem?_range h]
theorem vecG_idx {f : Nat → α} {n i : Nat} (h : i < n) : idx (vecG f n) (i : Int) = some (f i) := by
  simp [idx, vecG, List.getElem?_range h]
theorem rowG_idx {f : Nat → Nat → α} {c i j : Nat} (h : j < c) : idx (rowG f c i) (j : Int) = some (f i j) := vecG_idx h
theorem grid_idx {f : Nat → Nat → α} {r c i : Nat} (h : i < r) : idx (grid f r c) (i : Int) = some (rowG f c i) := vecG_idx h
theorem vecG_congr {f g : Nat → α} {n : Nat} (h : ∀ i, i < n → f i = g i) : vecG f n = vecG g n := List.map_congr_left fun i hi => h i (by simpa using hi)
theorem rowG_congr {f g : Nat → Nat → α} {c i i' : Nat} (h : ∀ j, j < c → f i j = g i' j) : rowG f c i = rowG g c i' := vecG_congr h
theorem grid_congr {f g : Nat → Nat → α} {r c : Nat} (h : ∀ i, i < r → ∀ j, j < c → f i j = g i j) : grid f r c = grid g r c := List.map_congr_left fun i hi => rowG_congr (h i (by simpa using hi))
theorem vecG_set {f : Nat → α} {n i : Nat} {v : α} (h : i < n) : (vecG f n).set i v = vecG (up1 f i v) n := by
  apply List.ext_getElem
  · simp [vecG]
  · intro k h1 h2
    simp only [vecG, List.getElem_set, up1, List.getElem_map, List.getElem_range]
    by_cases hk : i = k
    · subst hk; simp
    · have hk' : ¬ k = i := fun e => hk e.symm
      simp [hk, hk']
theorem grid_set {f : Nat → Nat → α} {r c i j : Nat} {v : α} (hi : i < r) (hj : j < c) : (grid f r c).set i ((rowG f c i).set j v) = grid (up2 f i j v) r c := by
  have e : (rowG f c i).set j v = rowG (up2 f i j v) c i := by
    unfold rowG
    rw [vecG_set hj]
    exact vecG_congr fun k _ => by simp [up1, up2]
  rw [e]
  apply List.ext_getElem
  · simp [grid]
  · intro k h1 h2
    simp only [grid, List.getElem_set, List.getElem_map, List.getElem_range]
    split
    · rename_i hk; subst hk; rfl
    · rename_i hk
      refine rowG_congr fun b _ => ?_
      have : ¬ (k = i ∧ b = j) := fun h => hk h.1.symm
      simp [up2, this]
end
theorem eq_vecG {l : List Int} {n : Nat} (h : l.length = n) : l = vecG (fun i => l.getD i 0) n := by
  subst h; exact (map_range_getD l 0).symm
theorem eq_grid {m : List (List Int)} {r c : Nat} (h : m.length = r) (hr : ∀ i, i < r → (m.getD i []).length = c) : m = grid (fun i j => (m.getD i []).getD j 0) r c := by
  subst h
  have e : (List.range m.length).map (fun i => m.getD i []) = m := map_range_getD m []
  conv => lhs; rw [← e]
  exact List.map_congr_left fun i hi => eq_vecG (hr i (by simpa using hi))
theorem appL_range {α : Type} (f : Nat → α) {j : Nat} (hj : j ≤ 1048576) : appL ((List.range j).map f) [f j] = some ((List.range (j + 1)).map f) := by
  simp [appL, List.range_succ]; omega
/-- Rows of zeros, appended one by one. -/
theorem zeros_eq {r c : Nat} (hr : r ≤ 1048576) (hc : (c : Int) ≤ 1048576) {body : Nat → List (List Int) → Option (Ctl (List (List Int)) Unit)} (hb : ∀ k x, body k x = (mkL (c : Int) (0 : Int)).bind fun z => (appL x [z]).bind fun y => some (.next y)) :
    forN body r 0 [] = some (.fin (grid (fun _ _ => 0) r c)) := by
  refine forN_app (fun _ => rowG (fun _ _ => 0) c 0) fun j hj => ?_
  rw [hb, mkL_some' _ hc]
  simp only [Option.bind_some]
  have e : List.replicate c (0 : Int) = rowG (fun _ _ => 0) c 0 := by
    simp only [rowG, vecG]
    apply List.ext_getElem <;> simp
  rw [e, appL_range (fun _ => rowG (fun _ _ => 0) c 0) (by omega)]
  rfl

/-- A loop that ends by its own test, its states told. -/
theorem whileC_det {S R : Type} {step : S → Option (Ctl S R)} (N : Nat) (g : Nat → S) {s' : S} (hb : ∀ j, j < N → step (g j) = some (.next (g (j + 1)))) (he : step (g N) = some (.brk s')) : whileC step (g 0) = some (.fin s') := by
  have key : ∀ (c k : Nat), k + c = N → iterW step (c + 1) (g k) = some (.fin s') := by
    intro c
    induction c with
    | zero => intro k hk; have : k = N := by omega
              subst this; exact iterW_brk he
    | succ c ih => intro k hk; exact iterW_next (hb k (by omega)) (ih (k + 1) (by omega))
  exact whileC_of (key N 0 (by omega))

/-! ### Marks -/

end Go.VG
-- PlCoc
namespace Go.VG
def prodL : List Int → Int
  | [] => 1
  | x :: l => x * prodL l
theorem prodL_app (a b : List Int) : prodL (a ++ b) = prodL a * prodL b := by
  induction a with
  | nil => simp [prodL]
  | cons x a ih => simp only [List.cons_append, prodL, ih, Int.mul_assoc]
theorem prodL_rev (a : List Int) : prodL a.reverse = prodL a := by
  induction a with
  | nil => rfl
  | cons x a ih => simp only [List.reverse_cons, prodL_app, ih, prodL, Int.mul_one]; rw [Int.mul_comm]
theorem prodL_pos {l : List Int} (h : ∀ x ∈ l, 1 ≤ x) : 1 ≤ prodL l := by
  induction l with
  | nil => decide
  | cons x l ih =>
    have h1 := h x (by simp)
    have h2 := ih (fun y hy => h y (by simp [hy]))
    have := Int.mul_le_mul h1 h2 (by decide) (by omega)
    simpa [prodL] using this
def at2 (c : List (List Int)) (i j : Nat) : Int := (c.getD i []).getD j 0
def c3 (V : List (List (List Int))) (i j k : Nat) : Int := ((V.getD i []).getD j []).getD k 0
def GridOK (n : Nat) (m : Int) (c : List (List Int)) : Prop := c.length = n ∧ ∀ i, i < n → (c.getD i []).length = n ∧ ∀ j, j < n → 0 ≤ at2 c i j ∧ at2 c i j ≤ m - 1
structure CocOK (o : List Int) (m : Int) (V : List (List (List Int))) : Prop where
  ne : 1 ≤ o.length
  pos : ∀ x ∈ o, 1 ≤ x
  size : prodL o = V.length
  small : V.length ≤ 8
  mod : 1 ≤ m ∧ m ≤ 1000
  rows : ∀ i, i < V.length → GridOK V.length m (V.getD i [])
section
variable {o : List Int} {m : Int} {V : List (List (List Int))}
theorem CocOK.n1 (h : CocOK o m V) : 1 ≤ V.length := by have := prodL_pos h.pos; have := h.size; omega
theorem CocOK.i1 (h : CocOK o m V) {i : Nat} (hi : i < V.length) : idx V (i : Int) = some (V.getD i []) := idx_getD _ _ hi
theorem CocOK.i2 (h : CocOK o m V) {i j : Nat} (hi : i < V.length) (hj : j < V.length) : idx (V.getD i []) (j : Int) = some ((V.getD i []).getD j []) := idx_getD _ _ (by rw [(h.rows i hi).1]; exact hj)
theorem CocOK.i3 (h : CocOK o m V) {i j k : Nat} (hi : i < V.length) (hj : j < V.length) (hk : k < V.length) : idx ((V.getD i []).getD j []) (k : Int) = some (c3 V i j k) := idx_getD _ _ (by rw [((h.rows i hi).2 j hj).1]; exact hk)
theorem CocOK.rng (h : CocOK o m V) {i j k : Nat} (hi : i < V.length) (hj : j < V.length) (hk : k < V.length) : 0 ≤ c3 V i j k ∧ c3 V i j k ≤ 999 := by
  have := ((h.rows i hi).2 j hj).2 k hk
  have := h.mod
  simp only [at2] at *
  unfold c3; omega

/-! ### The group's size -/

theorem specOrders : Says (p_spec_l06Orders o) (1 ≤ o.length ∧ ∀ x ∈ o, 1 ≤ x) := by
  unfold p_spec_l06Orders
  have := forN_chk (R := Bool) (Bad := fun r => r = false) (body := fun k s => p_spec_l06Orders_L1 o k) (N := o.length) (P := fun j => ¬ o.getD j 0 < 1) fun j hj _ => by
    simp only [p_spec_l06Orders_L1, idx_getD o 0 hj, Option.bind_some]
    exact ChkC.congr (ChkC.ite rfl) (by simp)
  rcases this with ⟨h1, e⟩ | ⟨h1, r, e, rfl⟩ <;> rw [e]
  · refine ⟨_, rfl, ?_⟩
    simp only [decide_eq_true_eq]
    constructor
    · intro h
      refine ⟨by omega, fun x hx => ?_⟩
      obtain ⟨i, hi, rfl⟩ := mem_getD 0 hx
      have := h1 i hi; omega
    · rintro ⟨h, _⟩; omega
  · refine ⟨false, rfl, by simp; exact fun _ => Classical.byContradiction fun hh => h1 fun j hj hlt => hh ⟨_, getD_mem (d := (0 : Int)) hj, hlt⟩⟩
theorem getD_drop_step {j : Nat} (hj : j < o.length) : prodL (o.drop j) = o.getD j 0 * prodL (o.drop (j + 1)) := by
  rw [List.drop_eq_getElem_cons hj, List.getD_eq_getElem?_getD, List.getElem?_eq_getElem hj]
  rfl
theorem mul_le8 {s x : Int} (h1 : 1 ≤ s ∧ s ≤ 17) (h2 : 1 ≤ x ∧ x ≤ 17) : 1 ≤ s * x ∧ s * x ≤ 289 := by
  have a := Int.mul_le_mul h1.1 h2.1 (by decide) (by omega)
  have b := Int.mul_le_mul h1.2 h2.2 (by omega) (by decide)
  omega
theorem le_mul_r {a p : Int} (ha : 0 ≤ a) (hp : 1 ≤ p) : a ≤ a * p := by
  have := Int.mul_le_mul_of_nonneg_left hp ha
  omega
theorem le_mul_l {a p : Int} (ha : 0 ≤ a) (hp : 1 ≤ p) : a ≤ p * a := by rw [Int.mul_comm]; exact le_mul_r ha hp
/-- The model's size, where every order is positive. -/
theorem specSize (hp : ∀ x ∈ o, 1 ≤ x) : ∃ s, p_spec_l17Size o = some s ∧ ((s = prodL o ∧ s ≤ 8) ∨ (s = 9 ∧ 8 < prodL o)) := by
  unfold p_spec_l17Size p_spec_l06Size
  have key : ∀ (c k : Nat) (s : Int), k + c = o.length → 1 ≤ s → s ≤ 8 →
      (forN (fun k s => p_spec_l06Size_L1 o 8 k s) c k s = some (.ret 9) ∧ 8 < s * prodL (o.drop k)) ∨ (forN (fun k s => p_spec_l06Size_L1 o 8 k s) c k s = some (.fin (s * prodL (o.drop k))) ∧ s * prodL (o.drop k) ≤ 8) := by
    intro c
    induction c with
    | zero =>
      intro k s hk h1 h2
      have : o.drop k = [] := List.drop_eq_nil_of_le (by omega)
      rw [this]
      exact .inr ⟨by simp [forN, prodL], by simp [prodL]; exact h2⟩
    | succ c ih =>
      intro k s hk h1 h2
      have hkl : k < o.length := by omega
      have hx := hp _ (getD_mem (d := (0 : Int)) hkl)
      have hpos : 1 ≤ prodL (o.drop (k + 1)) := prodL_pos fun x hx => hp x (List.mem_of_mem_drop hx)
      rw [getD_drop_step hkl]
      have hbody : p_spec_l06Size_L1 o 8 k s = (if decide (o.getD k 0 > 8) = true then some (.ret 9) else if decide (w64 (s * o.getD k 0) > 8) = true then some (.ret 9) else some (.next (w64 (s * o.getD k 0)))) := by
        simp only [p_spec_l06Size_L1, idx_getD o 0 hkl, Option.bind_some]
        rfl
      generalize o.getD k 0 = x at *
      by_cases h8 : x > 8
      · refine .inl ⟨forN_ret1 (by rw [hbody]; simp only [h8, decide_true, if_true]), ?_⟩
        have a1 := le_mul_r (a := x) (by omega) hpos
        have a2 := le_mul_l (a := x * prodL (o.drop (k + 1))) (by omega) h1
        omega
      · have hm := mul_le8 (s := s) (x := x) ⟨h1, by omega⟩ ⟨hx, by omega⟩
        have ew : w64 (s * x) = s * x := w64_small (by omega) (by omega)
        rw [ew] at hbody
        rw [← Int.mul_assoc]
        by_cases h9 : s * x > 8
        · refine .inl ⟨forN_ret1 (by rw [hbody]; simp only [h8, decide_false, Bool.false_eq_true, if_false, h9, decide_true, if_true]), ?_⟩
          have := le_mul_r (a := s * x) (by omega) hpos
          omega
        · rw [forN_next1 (s' := s * x) (by rw [hbody]; simp only [h8, decide_false, Bool.false_eq_true, if_false, h9])]
          exact ih (k + 1) (s * x) (by omega) hm.1 (by omega)
  have := key o.length 0 1 (by omega) (by decide) (by decide)
  simp only [Int.one_mul, List.drop_zero] at this
  rcases this with ⟨e, h⟩ | ⟨e, h⟩
  · rw [e]; exact ⟨9, rfl, .inr ⟨rfl, h⟩⟩
  · rw [e]; exact ⟨_, rfl, .inl ⟨rfl, h⟩⟩
/-- The code's size. -/
theorem implSize2 : ∃ s, p_impl_groupSize o = some s ∧ ((s = 0 ∧ ¬ (1 ≤ o.length ∧ ∀ x ∈ o, 1 ≤ x)) ∨ ((1 ≤ o.length ∧ ∀ x ∈ o, 1 ≤ x) ∧ ((s = prodL o ∧ 1 ≤ s ∧ s ≤ 16) ∨ (s = 17 ∧ 17 ≤ prodL o)))) := by
  unfold p_impl_groupSize
  have key : ∀ (c k : Nat) (s : Int), k + c = o.length → 1 ≤ s → s ≤ 17 →
      (forN (fun k s => p_impl_groupSize_L1 o k s) c k s = some (.ret 0) ∧ ¬ ∀ x ∈ o.drop k, 1 ≤ x) ∨
      ∃ r, forN (fun k s => p_impl_groupSize_L1 o k s) c k s = some (.fin r) ∧ (∀ x ∈ o.drop k, 1 ≤ x) ∧ ((r = s * prodL (o.drop k) ∧ r ≤ 16) ∨ (r = 17 ∧ 17 ≤ s * prodL (o.drop k))) := by
    intro c
    induction c with
    | zero =>
      intro k s hk h1 h2
      have : o.drop k = [] := List.drop_eq_nil_of_le (by omega)
      rw [this]
      refine .inr ⟨s, rfl, by simp, ?_⟩
      by_cases hh : s ≤ 16
      · exact .inl ⟨by simp [prodL], hh⟩
      · exact .inr ⟨by omega, by simp [prodL]; omega⟩
    | succ c ih =>
      intro k s hk h1 h2
      have hkl : k < o.length := by omega
      rw [getD_drop_step hkl]
      have hmem : ∀ x, x ∈ o.drop k ↔ x = o.getD k 0 ∨ x ∈ o.drop (k + 1) := by
        intro x
        rw [List.drop_eq_getElem_cons hkl, List.mem_cons, List.getD_eq_getElem?_getD, List.getElem?_eq_getElem hkl]
        rfl
      have hbody : p_impl_groupSize_L1 o k s = (if decide (o.getD k 0 < 1) = true then some (.ret 0) else some (.next (if (w64 (s * (if (17 : Int) < o.getD k 0 then (17 : Int) else o.getD k 0))) < (17 : Int) then (w64 (s * (if (17 : Int) < o.getD k 0 then (17 : Int) else o.getD k 0))) else (17 : Int)))) := by
        simp only [p_impl_groupSize_L1, idx_getD o 0 hkl, Option.bind_some]
      generalize o.getD k 0 = x at *
      by_cases hx : x < 1
      · refine .inl ⟨forN_ret1 (by rw [hbody]; simp only [hx, decide_true, if_true]), fun h => ?_⟩
        have := h x ((hmem x).2 (.inl rfl)); omega
      · simp only [hx, decide_false, Bool.false_eq_true, if_false] at hbody
        have hallk : (∀ y ∈ o.drop k, 1 ≤ y) ↔ ∀ y ∈ o.drop (k + 1), 1 ≤ y := by
          constructor
          · intro h y hy; exact h y ((hmem y).2 (.inr hy))
          · intro h y hy
            rcases (hmem y).1 hy with rfl | hy
            · omega
            · exact h y hy
        rw [hallk, ← Int.mul_assoc]
        by_cases hb : x ≤ 17
        · have hm := mul_le8 (s := s) (x := x) ⟨h1, h2⟩ ⟨by omega, hb⟩
          have e1 : (if (17 : Int) < x then (17 : Int) else x) = x := if_neg (by omega)
          rw [e1, w64_small (by omega) (by omega)] at hbody
          by_cases hs : s * x < 17
          · rw [if_pos hs] at hbody
            rw [forN_next1 hbody]
            exact ih (k + 1) (s * x) (by omega) hm.1 (by omega)
          · rw [if_neg hs] at hbody
            rw [forN_next1 hbody]
            rcases ih (k + 1) 17 (by omega) (by decide) (by decide) with ⟨e, h⟩ | ⟨r, e, h, h3⟩
            · exact .inl ⟨e, h⟩
            · have hpos := prodL_pos h
              have h17 := le_mul_r (a := (17 : Int)) (by decide) hpos
              have hsx := le_mul_r (a := s * x) (by omega) hpos
              exact .inr ⟨r, e, h, .inr ⟨by omega, by omega⟩⟩
        · have e1 : (if (17 : Int) < x then (17 : Int) else x) = 17 := if_pos (by omega)
          have hm := mul_le8 (s := s) (x := 17) ⟨h1, h2⟩ ⟨by decide, by decide⟩
          rw [e1, w64_small (by omega) (by omega), if_neg (by omega)] at hbody
          rw [forN_next1 hbody]
          rcases ih (k + 1) 17 (by omega) (by decide) (by decide) with ⟨e, h⟩ | ⟨r, e, h, h3⟩
          · exact .inl ⟨e, h⟩
          · have hpos := prodL_pos h
            have h17 := le_mul_r (a := (17 : Int)) (by decide) hpos
            have hx1 := le_mul_l (a := x) (by omega) h1
            have hsx := le_mul_r (a := s * x) (by omega) hpos
            exact .inr ⟨r, e, h, .inr ⟨by omega, by omega⟩⟩
  have := key o.length 0 1 (by omega) (by decide) (by decide)
  simp only [Int.one_mul, List.drop_zero] at this
  by_cases hz : o.length = 0
  · have ez : ((o.length : Int) == 0) = true := by simp [List.length_eq_zero_iff.1 hz]
    rcases this with ⟨e, h⟩ | ⟨r, e, h, h3⟩
    · rw [e]; exact ⟨0, rfl, .inl ⟨rfl, by omega⟩⟩
    · rw [e]; exact ⟨0, by simp only [Option.bind_some, onRes, ez, if_true], .inl ⟨rfl, by omega⟩⟩
  · have ez : ((o.length : Int) == 0) = false := by simp only [beq_eq_false_iff_ne, ne_eq]; omega
    rcases this with ⟨e, h⟩ | ⟨r, e, h, h3⟩
    · rw [e]; exact ⟨0, rfl, .inl ⟨rfl, fun hh => h hh.2⟩⟩
    · rw [e]
      have hpos := prodL_pos h
      refine ⟨r, by simp only [Option.bind_some, onRes, ez, Bool.false_eq_true, if_false], .inr ⟨⟨by omega, h⟩, ?_⟩⟩
      omega
theorem implSize : ∃ s, p_impl_groupSize o = some s ∧ ((1 ≤ s ∧ s ≤ 8) ↔ (1 ≤ o.length ∧ (∀ x ∈ o, 1 ≤ x) ∧ prodL o ≤ 8)) ∧ ((1 ≤ s ∧ s ≤ 8) → s = prodL o) := by
  obtain ⟨s, e, h⟩ := implSize2 (o := o)
  refine ⟨s, e, ?_, fun hh => by omega⟩
  rcases h with ⟨h0, h1⟩ | ⟨⟨h1, h2⟩, h3⟩
  · exact ⟨fun hh => by omega, fun hh => absurd ⟨hh.1, hh.2.1⟩ h1⟩
  · exact ⟨fun hh => ⟨h1, h2, by omega⟩, fun hh => by omega⟩

/-! ### The shape -/

theorem specShape : Says (p_spec_l17Shape o m V) (CocOK o m V) := by
  unfold p_spec_l17Shape
  obtain ⟨b, e1, hb⟩ := specOrders (o := o)
  rw [e1]
  simp only [Option.bind_some]
  cases b
  · exact ⟨false, rfl, by simp; exact fun h => absurd (hb.2 ⟨h.ne, h.pos⟩) (by simp)⟩
  · obtain ⟨hne, hpos⟩ := hb.1 rfl
    simp only [Bool.not_true, Bool.false_eq_true, if_false, p_spec_l01In, Option.bind_some]
    by_cases hm : 1 ≤ m ∧ m ≤ 1000
    · have ec : (decide (m ≥ 1) && decide (m ≤ 1000)) = true := by simpa using hm
      simp only [ec, Bool.not_true, Bool.false_eq_true, if_false]
      obtain ⟨s, e2, hs⟩ := specSize hpos
      rw [e2]
      simp only [Option.bind_some]
      by_cases hv : s ≤ 8 ∧ (V.length : Int) = s
      · have ec2 : (decide (s > 8) || ((V.length : Int) != s)) = false := by simp only [Bool.or_eq_false_iff, decide_eq_false_iff_not, bne_eq_false_iff_eq]; omega
        simp only [ec2, Bool.false_eq_true, if_false]
        have es : s.toNat = V.length := by omega
        rw [es]
        have hsz : prodL o = V.length := by omega
        refine Says.congr (Chk.says (forN_chk (P := fun i => GridOK V.length m (V.getD i [])) fun i hi _ => ?_)) ⟨fun h => ⟨hne, hpos, hsz, by omega, hm, h⟩, fun h => h.rows⟩
        simp only [p_spec_l17Shape_L1, idx_getD V [] hi, Option.bind_some, es]
        refine ChkC.congr (ChkC.iteAnd rfl fun hl => ChkC.loop (forN_chk (P := fun j => ((V.getD i []).getD j []).length = V.length ∧ ∀ k, k < V.length → 0 ≤ at2 (V.getD i []) j k ∧ at2 (V.getD i []) j k ≤ m - 1) fun j hj _ => ?_)) ?_
        · have hl' : (V.getD i []).length = V.length := by rw [bne_eq_false_iff_eq] at hl; omega
          simp only [p_spec_l17Shape_L2, idx_getD (V.getD i []) [] (by omega : j < (V.getD i []).length), Option.bind_some, es]
          refine ChkC.congr (ChkC.iteAnd rfl fun hl2 => ChkC.loop (forN_chk (P := fun k => 0 ≤ at2 (V.getD i []) j k ∧ at2 (V.getD i []) j k ≤ m - 1) fun k hk _ => ?_)) ?_
          · have hl2' : ((V.getD i []).getD j []).length = V.length := by rw [bne_eq_false_iff_eq] at hl2; omega
            have ew : w64 (m - 1) = m - 1 := w64_small (by omega) (by omega)
            simp only [p_spec_l17Shape_L3, p_spec_l01In, idx_getD ((V.getD i []).getD j []) 0 (by omega : k < ((V.getD i []).getD j []).length), Option.bind_some, ew]
            exact ChkC.congr (ChkC.ite rfl) (by simp [at2])
          · rw [bne_eq_false_iff_eq]; constructor <;> rintro ⟨h1, h2⟩ <;> exact ⟨by omega, h2⟩
        · rw [bne_eq_false_iff_eq]; constructor <;> rintro ⟨h1, h2⟩ <;> exact ⟨by omega, h2⟩
      · have ec2 : (decide (s > 8) || ((V.length : Int) != s)) = true := by
          cases hh : (decide (s > 8) || ((V.length : Int) != s)) with
          | true => rfl
          | false => simp only [Bool.or_eq_false_iff, decide_eq_false_iff_not, bne_eq_false_iff_eq] at hh; omega
        simp only [ec2, if_true]
        refine ⟨false, rfl, by simp; intro h; have := h.size; have := h.small; omega⟩
    · have ec : (decide (m ≥ 1) && decide (m ≤ 1000)) = false := by
        cases hh : (decide (m ≥ 1) && decide (m ≤ 1000)) with
        | false => rfl
        | true => exact absurd (by simpa using hh) hm
      simp only [ec, Bool.not_false, if_true]
      exact ⟨false, rfl, by simp; exact fun h => hm h.mod⟩
theorem implGrid (c : List (List Int)) {n : Nat} {q : Int} (hq : -1000000 ≤ q ∧ q ≤ 1000000) : Says (p_impl_isGrid c (n : Int) q) (GridOK n q c) := by
  unfold p_impl_isGrid
  have ew : w64 (q - 1) = q - 1 := w64_small (by omega) (by omega)
  by_cases hl : c.length = n
  · have e : ((c.length : Int) == (n : Int)) = true := by simp [hl]
    rw [e]
    simp only [if_true]
    refine Says.id (Says.congr (Says.not (indexFunc_l (Q := fun j => ¬ ((c.getD j []).length = n ∧ ∀ k, k < n → 0 ≤ at2 c j k ∧ at2 c j k ≤ q - 1)) fun j hj => ?_)) ?_)
    · simp only [p_impl_isGrid_c1, ew]
      refine Says.id ?_
      by_cases hr : (c.getD j []).length = n
      · have e2 : (((c.getD j []).length : Int) != (n : Int)) = false := by rw [hr]; simp
        simp only [e2, Bool.false_eq_true, if_false]
        refine Says.congr (Says.not (allWithin_says _ 0 (q - 1))) ?_
        rw [hr]; simp only [at2, true_and]
      · have e2 : (((c.getD j []).length : Int) != (n : Int)) = true := by simp only [bne_iff_ne, ne_eq]; omega
        simp only [e2, if_true]
        exact ⟨true, rfl, ⟨fun _ h => hr h.1, fun _ => rfl⟩⟩
    · constructor
      · intro h
        refine ⟨hl, fun i hi => Decidable.byContradiction fun hc => h ⟨i, by omega, hc⟩⟩
      · rintro h ⟨j, hj, hc⟩
        exact hc (h.2 j (by omega))
  · have e : ((c.length : Int) == (n : Int)) = false := by simp only [beq_eq_false_iff_ne, ne_eq]; omega
    rw [e]
    exact ⟨false, rfl, by simp; exact fun h => hl h.1⟩
theorem indexFunc_ll {l : List (List (List Int))} {f : List (List Int) → Option Bool} {Q : Nat → Prop} (h : ∀ j, j < l.length → Says (f (l.getD j [])) (Q j)) : Says (p_slices_ContainsFunc_LLLint64_LLint64 l f) (∃ j, j < l.length ∧ Q j) := by
  unfold p_slices_ContainsFunc_LLLint64_LLint64 p_slices_IndexFunc_LLLint64_LLint64
  have := forN_chk (N := l.length) (R := Int) (Bad := fun r => 0 ≤ r) (body := fun k s => p_slices_IndexFunc_LLLint64_LLint64_L1 l f k) (P := fun j => ¬ Q j) fun j hj _ => by
    obtain ⟨b, h1, h2⟩ := h j hj
    simp only [p_slices_IndexFunc_LLLint64_LLint64_L1, idx_getD l [] hj, Option.bind_some, h1]
    exact ChkC.congr (ChkC.ite (by omega)) (by rw [← h2]; simp)
  rcases this with ⟨h1, h2⟩ | ⟨h1, r, h2, h3⟩
  · rw [h2]; exact ⟨false, rfl, by simpa using h1⟩
  · rw [h2]; exact ⟨true, by simp [onRes, h3], by simpa using h1⟩
theorem implShape : Says (p_impl_isCochain o m V) (CocOK o m V) := by
  unfold p_impl_isCochain
  obtain ⟨s, e1, hs1, hs2⟩ := implSize (o := o)
  rw [e1]
  simp only [Option.bind_some, p_impl_within, p_impl_isModulus]
  by_cases hs : 1 ≤ s ∧ s ≤ 8
  · have ec : (decide (s ≥ 1) && decide (s ≤ 8)) = true := by simpa using hs
    obtain ⟨hne, hpos, hle⟩ := hs1.1 hs
    have hsp := hs2 hs
    simp only [ec, Bool.not_true, Bool.false_eq_true, if_false]
    by_cases hm : 1 ≤ m ∧ m ≤ 1000
    · have ec1 : (decide (m ≥ 1) && decide (m ≤ 1000)) = true := by simpa using hm
      simp only [ec1, Bool.not_true, Bool.false_or]
      by_cases hv : (V.length : Int) = s
      · have ec2 : ((V.length : Int) != s) = false := by simp [hv]
        simp only [ec2, Bool.false_eq_true, if_false]
        rw [← hv]
        refine Says.congr (Says.not (indexFunc_ll (Q := fun j => ¬ GridOK V.length m (V.getD j [])) fun j hj => ?_)) ?_
        · simp only [p_impl_isCochain_c1]
          exact Says.not (implGrid _ (by omega))
        · constructor
          · intro h
            exact ⟨hne, hpos, by omega, by omega, hm, fun i hi => Classical.byContradiction fun hc => h ⟨i, hi, hc⟩⟩
          · rintro h ⟨j, hj, hc⟩
            exact hc (h.rows j hj)
      · have ec2 : ((V.length : Int) != s) = true := by simp only [bne_iff_ne, ne_eq]; exact hv
        simp only [ec2, if_true]
        exact ⟨false, rfl, by simp; intro h; have := h.size; omega⟩
    · have ec1 : (decide (m ≥ 1) && decide (m ≤ 1000)) = false := by
        cases hh : (decide (m ≥ 1) && decide (m ≤ 1000)) with
        | false => rfl
        | true => exact absurd (by simpa using hh) hm
      simp only [ec1, Bool.not_false, Bool.true_or, if_true]
      exact ⟨false, rfl, by simp; exact fun h => hm h.mod⟩
  · have ec : (decide (s ≥ 1) && decide (s ≤ 8)) = false := by
      cases hh : (decide (s ≥ 1) && decide (s ≤ 8)) with
      | false => rfl
      | true => exact absurd (by simpa using hh) hs
    simp only [ec, Bool.not_false, if_true, Option.bind_some, Bool.true_or]
    exact ⟨false, rfl, by simp; intro h; exact hs (hs1.2 ⟨h.ne, h.pos, by have := h.size; have := h.small; omega⟩)⟩
end
end Go.VG
-- PlCoc2
namespace Go.VG
abbrev Q4 := Int × Int × Int × Int
theorem addS_nonneg {M a b s p : Int} (hm : 1 ≤ M ∧ M ≤ 8) (ha : 0 ≤ a ∧ a ≤ 1000) (hb : 0 ≤ b ∧ b ≤ 1000) (hs : 0 ≤ s ∧ s < p) (hp : p * M ≤ 8) :
    ∃ a' b' s', p_impl_addElements_S M (a, b, s, p) = (a', b', s', p * M) ∧ (0 ≤ a' ∧ a' ≤ 1000) ∧ (0 ≤ b' ∧ b' ≤ 1000) ∧ 0 ≤ s' ∧ s' < p * M := by
  have e1 : a.tdiv M = a / M := Int.tdiv_eq_ediv_of_nonneg ha.1
  have e2 : b.tdiv M = b / M := Int.tdiv_eq_ediv_of_nonneg hb.1
  have q1 : 0 ≤ a / M := Int.ediv_nonneg ha.1 (by omega)
  have q2 : a / M ≤ a := Int.ediv_le_self _ ha.1
  have q3 : 0 ≤ b / M := Int.ediv_nonneg hb.1 (by omega)
  have q4 : b / M ≤ b := Int.ediv_le_self _ hb.1
  have t1 : a.tmod M = a % M := Int.tmod_eq_emod_of_nonneg ha.1
  have t2 : b.tmod M = b % M := Int.tmod_eq_emod_of_nonneg hb.1
  have m1 := Int.emod_nonneg a (show M ≠ 0 by omega)
  have m2 := Int.emod_lt_of_pos a (show 0 < M by omega)
  have m3 := Int.emod_nonneg b (show M ≠ 0 by omega)
  have m4 := Int.emod_lt_of_pos b (show 0 < M by omega)
  have ew : w64 (a % M + b % M) = a % M + b % M := w64_small (by omega) (by omega)
  have t3 : (a % M + b % M).tmod M = (a % M + b % M) % M := Int.tmod_eq_emod_of_nonneg (by omega)
  have m5 := Int.emod_nonneg (a % M + b % M) (show M ≠ 0 by omega)
  have m6 := Int.emod_lt_of_pos (a % M + b % M) (show 0 < M by omega)
  generalize (a % M + b % M) % M = d at *
  have hp1 : 1 ≤ p := by omega
  have d1 : 0 ≤ d * p := Int.mul_nonneg m5 (by omega)
  have d2 : d * p + p ≤ p * M := by
    have := Int.mul_le_mul_of_nonneg_right (show d + 1 ≤ M by omega) (show 0 ≤ p by omega)
    rw [Int.add_mul, Int.one_mul, Int.mul_comm M p] at this
    exact this
  refine ⟨a / M, b / M, s + d * p, ?_, by omega, by omega, by omega, by omega⟩
  simp only [p_impl_addElements_S, e1, e2, t1, t2, ew, t3]
  rw [w64_small (x := a / M) (by omega) (by omega), w64_small (x := b / M) (by omega) (by omega), w64_small (x := d * p) (by omega) (by omega), w64_small (x := s + d * p) (by omega) (by omega), w64_small (x := p * M) (by omega) (by omega)]
theorem addFold : ∀ (l : List Int) (a b s p : Int), (∀ x ∈ l, 1 ≤ x) → 0 ≤ a ∧ a ≤ 1000 → 0 ≤ b ∧ b ≤ 1000 → 0 ≤ s ∧ s < p → p * prodL l ≤ 8 →
    ∃ r : Q4, l.foldl (fun s m => p_impl_addElements_S m s) (a, b, s, p) = r ∧ 0 ≤ r.2.2.1 ∧ r.2.2.1 < p * prodL l
  | [], a, b, s, p, _, _, _, hs, _ => ⟨_, rfl, hs.1, by simp only [prodL, Int.mul_one]; exact hs.2⟩
  | x :: l, a, b, s, p, hl, ha, hb, hs, hp => by
    have hx := hl x (by simp)
    have hpos : 1 ≤ prodL l := prodL_pos fun y hy => hl y (by simp [hy])
    simp only [prodL] at hp ⊢
    rw [← Int.mul_assoc] at hp ⊢
    have hpx : p * x ≤ 8 := by
      have := le_mul_r (a := p * x) (Int.mul_nonneg (by omega) (by omega)) hpos
      omega
    have hx8 : x ≤ 8 := by
      have := le_mul_l (a := x) (by omega) (show 1 ≤ p by omega)
      omega
    obtain ⟨a', b', s', e, h1, h2, h3, h4⟩ := addS_nonneg ⟨hx, hx8⟩ ha hb hs hpx
    simp only [List.foldl_cons, e]
    exact addFold l a' b' s' (p * x) (fun y hy => hl y (by simp [hy])) h1 h2 ⟨h3, h4⟩ hp
/-- The sum of two elements. -/
def gadd (o : List Int) (x y : Int) : Int := (o.reverse.foldl (fun s m => p_impl_addElements_S m s) (x, y, 0, 1)).2.2.1
section
variable {o : List Int} {m : Int} {V : List (List (List Int))}
theorem implAdd (hp : ∀ x ∈ o, 1 ≤ x) (x y : Int) : p_impl_addElements o x y = some (gadd o x y) := by
  unfold p_impl_addElements gadd
  have : o.all (fun m => m != 0) = true := by
    rw [List.all_eq_true]
    intro q hq
    have := hp q hq
    simp only [bne_iff_ne, ne_eq]; omega
  rw [if_pos this]
theorem specAdd (hp : ∀ x ∈ o, 1 ≤ x) (hl : (o.length : Int) ≤ 1048576) (x y : Int) : p_spec_l06Add o x y = some (gadd o x y) := by
  unfold p_spec_l06Add gadd
  rw [w64_small (by omega) (by omega)]
  have key : ∀ (c : Nat) (s : Q4), c ≤ o.length → iterW (R := Unit) (fun s : Int × Int × Int × Int × Int => p_spec_l06Add_L1 o s.1 s.2.1 s.2.2.1 s.2.2.2.1 s.2.2.2.2) (c + 1) (s.1, s.2.1, s.2.2.1, s.2.2.2, (c : Int) - 1) =
      some (.fin (((o.take c).reverse.foldl (fun s m => p_impl_addElements_S m s) s).1, ((o.take c).reverse.foldl (fun s m => p_impl_addElements_S m s) s).2.1, ((o.take c).reverse.foldl (fun s m => p_impl_addElements_S m s) s).2.2.1, ((o.take c).reverse.foldl (fun s m => p_impl_addElements_S m s) s).2.2.2, (-1 : Int))) := by
    intro c
    induction c with
    | zero =>
      intro s _
      refine iterN_brk ?_
      have e : decide (((0 : Nat) : Int) - 1 ≥ 0) = false := by decide
      simp only [p_spec_l06Add_L1, e, Bool.false_eq_true, if_false]
      rfl
    | succ c ih =>
      intro s hc
      have hcl : c < o.length := by omega
      have hx := hp _ (getD_mem (d := (0 : Int)) hcl)
      have hne : o.getD c 0 ≠ 0 := by omega
      have e1 : ((c + 1 : Nat) : Int) - 1 = (c : Int) := by omega
      have e2 : decide ((c : Int) ≥ 0) = true := by simp
      have e3 : w64 ((c : Int) - 1) = (c : Int) - 1 := w64_small (by omega) (by omega)
      have ht : (o.take (c + 1)).reverse = o.getD c 0 :: (o.take c).reverse := by
        rw [List.take_succ_eq_append_getElem hcl, List.reverse_append, List.getD_eq_getElem?_getD, List.getElem?_eq_getElem hcl]
        rfl
      rw [ht, List.foldl_cons, e1]
      rw [iterN_next (s' := ((p_impl_addElements_S (o.getD c 0) s).1, (p_impl_addElements_S (o.getD c 0) s).2.1, (p_impl_addElements_S (o.getD c 0) s).2.2.1, (p_impl_addElements_S (o.getD c 0) s).2.2.2, (c : Int) - 1)) (by
        simp only [p_spec_l06Add_L1, e2, if_true, idx_getD o 0 hcl, Option.bind_some, remI, quoI, ne_eq, hne, not_false_eq_true, e3, p_impl_addElements_S]
        rfl)]
      exact ih _ (by omega)
  have := key o.length (x, y, 0, 1) (Nat.le_refl _)
  rw [whileC_of this, List.take_length]
  rfl
theorem CocOK.add (h : CocOK o m V) {x y : Nat} (hx : x < V.length) (hy : y < V.length) : ∃ z : Nat, gadd o (x : Int) (y : Int) = (z : Int) ∧ z < V.length := by
  have hn := h.small
  obtain ⟨r, e, h1, h2⟩ := addFold o.reverse (x : Int) (y : Int) 0 1 (fun q hq => h.pos q (by simpa using hq)) (by omega) (by omega) (by decide) (by rw [prodL_rev, h.size]; omega)
  rw [prodL_rev, h.size] at h2
  refine ⟨(gadd o (x : Int) (y : Int)).toNat, ?_, ?_⟩ <;> (unfold gadd; rw [e]; omega)
/-! ### Rests -/
theorem rest_eq (hm : 1 ≤ m ∧ m ≤ 1000) {n : Int} (hn : -1000000 ≤ n ∧ n ≤ 1000000) (os : List Int) (V : List (List (List Int))) : p_impl_Cocycle_rest os m V n = some (n % m) := by
  unfold p_impl_Cocycle_rest
  have h0 : m ≠ 0 := by omega
  simp only [remI, ne_eq, h0, not_false_eq_true, if_true, Option.bind_some]
  have a1 := Int.lt_tmod_of_pos n (show 0 < m by omega)
  have a2 := Int.tmod_lt_of_pos n (show 0 < m by omega)
  rw [w64_small (by omega) (by omega), Int.tmod_eq_emod_of_nonneg (by omega), Int.add_emod_right]
  have e := Int.mul_tdiv_add_tmod n m
  conv => rhs; rw [← e]
  rw [Int.add_comm, Int.add_mul_emod_self_left]
theorem tmod_zero (hm : 1 ≤ m) (n : Int) : n.tmod m = 0 ↔ n % m = 0 := by
  rw [← Int.dvd_iff_emod_eq_zero, Int.dvd_iff_tmod_eq_zero]
/-! ### The law -/

def NormOK (V : List (List (List Int))) : Prop := ∀ i, i < V.length → ∀ j, j < V.length → c3 V 0 i j = 0 ∧ c3 V i 0 j = 0 ∧ c3 V i j 0 = 0
theorem specNormal (h : CocOK o m V) : Says (p_spec_l17Normal o m V) (NormOK V) := by
  unfold p_spec_l17Normal
  have h0 := h.n1
  have i10 : idx V (0 : Int) = some (V.getD 0 []) := h.i1 (i := 0) (by omega)
  refine Chk.says (forN_chk fun i hi _ => ?_)
  simp only [p_spec_l17Normal_L1]
  refine ChkC.loop (forN_chk fun j hj _ => ?_)
  have i20 : idx (V.getD i []) (0 : Int) = some ((V.getD i []).getD 0 []) := h.i2 (j := 0) hi (by omega)
  have i30 : idx ((V.getD i []).getD j []) (0 : Int) = some (c3 V i j 0) := h.i3 (k := 0) hi hj (by omega)
  simp only [p_spec_l17Normal_L2, i10, h.i2 (show 0 < V.length by omega) hi, h.i3 (show 0 < V.length by omega) hi hj, h.i1 hi, i20, h.i3 hi (show 0 < V.length by omega) hj, h.i2 hi hj, i30, Option.bind_some]
  by_cases z1 : c3 V 0 i j = 0
  · by_cases z2 : c3 V i 0 j = 0
    · by_cases z3 : c3 V i j 0 = 0
      · exact .inl ⟨⟨z1, z2, z3⟩, by simp [z1, z2, z3]⟩
      · exact .inr ⟨fun hh => z3 hh.2.2, false, by simp [z1, z2, z3], rfl⟩
    · exact .inr ⟨fun hh => z2 hh.2.1, false, by simp [z1, z2], rfl⟩
  · exact .inr ⟨fun hh => z1 hh.1, false, by simp [z1], rfl⟩
theorem implNormal (h : CocOK o m V) : Says (p_impl_Cocycle_isNormalised o m V) (NormOK V) := by
  unfold p_impl_Cocycle_isNormalised
  have h0 := h.n1
  refine Says.congr (Chk.says (forN_chk (P := fun i => ∀ j, j < V.length → ∀ k, k < V.length → ¬ (c3 V i j k ≠ 0 ∧ (i = 0 ∨ j = 0 ∨ k = 0))) fun i hi _ => ?_)) ?_
  · simp only [p_impl_Cocycle_isNormalised_L1, h.i1 hi, Option.bind_some]
    rw [(h.rows i hi).1]
    refine ChkC.loop (forN_chk fun j hj _ => ?_)
    simp only [p_impl_Cocycle_isNormalised_L2, h.i2 hi hj, Option.bind_some]
    rw [((h.rows i hi).2 j hj).1]
    refine ChkC.loop (forN_chk fun k hk _ => ?_)
    simp only [p_impl_Cocycle_isNormalised_L3, h.i3 hi hj hk, Option.bind_some]
    have g : ∀ q : Nat, ((q : Int) == 0) = decide (q = 0) := by intro q; by_cases hq : q = 0 <;> simp [hq]
    by_cases z : c3 V i j k = 0
    · exact .inl ⟨fun hh => hh.1 z, by simp [z]⟩
    · have z' : (c3 V i j k != 0) = true := by simpa using z
      simp only [z', if_true, g]
      by_cases c1 : i = 0
      · exact .inr ⟨fun hh => hh ⟨z, .inl c1⟩, false, by simp [c1], rfl⟩
      · by_cases c2 : j = 0
        · exact .inr ⟨fun hh => hh ⟨z, .inr (.inl c2)⟩, false, by simp [c1, c2], rfl⟩
        · by_cases c3' : k = 0
          · exact .inr ⟨fun hh => hh ⟨z, .inr (.inr c3')⟩, false, by simp [c1, c2, c3'], rfl⟩
          · exact .inl ⟨by omega, by simp [c1, c2, c3']⟩
  · constructor
    · intro hh i hi j hj
      refine ⟨?_, ?_, ?_⟩
      · exact Classical.byContradiction fun hc => hh 0 (by omega) i hi j hj ⟨hc, .inl rfl⟩
      · exact Classical.byContradiction fun hc => hh i hi 0 (by omega) j hj ⟨hc, .inr (.inl rfl)⟩
      · exact Classical.byContradiction fun hc => hh i hi j hj 0 (by omega) ⟨hc, .inr (.inr rfl)⟩
    · rintro hh i hi j hj k hk ⟨hc, rfl | rfl | rfl⟩
      · exact hc (hh j hj k hk).1
      · exact hc (hh i hi k hk).2.1
      · exact hc (hh i hi j hj).2.2
/-- The fault's place, the same; it is found, or there is none. -/
theorem fault_eq (h : CocOK o m V) (hl : (o.length : Int) ≤ 1048576) : ∃ r, p_spec_l17Fault o m V = some r ∧ p_impl_Cocycle_fault o m V = some r := by
  have hn := h.small
  have hm := h.mod
  have e4 : ∀ i j k, i < V.length → j < V.length → k < V.length → ∀ l, l < V.length → ∃ r, p_spec_l17Fault_L4 o i j k V m l = some r ∧ p_impl_Cocycle_fault_L4 V j k o m i l = some r ∧ ∀ u, r ≠ .brk u := by
    intro i j k hi hj hk l hl'
    obtain ⟨ij, a1, b1⟩ := h.add hi hj
    obtain ⟨jk, a2, b2⟩ := h.add hj hk
    obtain ⟨kl, a3, b3⟩ := h.add hk hl'
    have r1 := h.rng hj hk hl'
    have r2 := h.rng b1 hk hl'
    have r3 := h.rng hi b2 hl'
    have r4 := h.rng hi hj b3
    have r5 := h.rng hi hj hk
    simp only [p_spec_l17Fault_L4, p_impl_Cocycle_fault_L4, p_impl_Cocycle_plus, specAdd h.pos hl, implAdd h.pos, a1, a2, a3, Option.bind_some, h.i1 hj, h.i2 hj hk, h.i3 hj hk hl', h.i1 b1, h.i2 b1 hk, h.i3 b1 hk hl', h.i1 hi, h.i2 hi b2, h.i3 hi b2 hl', h.i2 hi hj, h.i3 hi hj b3, h.i3 hi hj hk]
    generalize c3 V j k l = q1 at *
    generalize c3 V ij k l = q2 at *
    generalize c3 V i jk l = q3 at *
    generalize c3 V i j kl = q4 at *
    generalize c3 V i j k = q5 at *
    rw [w64_small (x := q1 - q2) (by omega) (by omega), w64_small (x := q1 - q2 + q3) (by omega) (by omega), w64_small (x := q1 - q2 + q3 - q4) (by omega) (by omega), w64_small (x := q1 - q2 + q3 - q4 + q5) (by omega) (by omega)]
    rw [rest_eq hm (by omega)]
    have hne : m ≠ 0 := by omega
    simp only [remI, ne_eq, hne, not_false_eq_true, if_true, Option.bind_some]
    have ez : ((q1 - q2 + q3 - q4 + q5).tmod m != 0) = ((q1 - q2 + q3 - q4 + q5) % m != 0) := by
      rw [Bool.eq_iff_iff]; simp only [bne_iff_ne, ne_eq]; rw [tmod_zero hm.1]
    rw [ez]
    by_cases hz : ((q1 - q2 + q3 - q4 + q5) % m != 0) = true
    · simp only [hz, if_true]; exact ⟨_, rfl, rfl, fun u h => by cases h⟩
    · simp only [hz, if_false]; exact ⟨_, rfl, rfl, fun u h => by cases h⟩
  have both : ∀ {b b' : Nat → Unit → Option (Ctl Unit (List Int))}, (∀ j s, j < V.length → ∃ r, b j s = some r ∧ b' j s = some r ∧ ∀ u, r ≠ .brk u) → ∃ r, forN b V.length 0 () = some r ∧ forN b' V.length 0 () = some r := by
    intro b b' hb
    have : ∀ (c k : Nat), k + c = V.length → ∃ r, forN b c k () = some r ∧ forN b' c k () = some r := by
      intro c
      induction c with
      | zero => intro k _; exact ⟨_, rfl, rfl⟩
      | succ c ih =>
        intro k hk
        obtain ⟨r, e, e', hne⟩ := hb k () (by omega)
        cases r with
        | next u => rw [forN_next1 e, forN_next1 e']; exact ih (k + 1) (by omega)
        | ret r => exact ⟨_, forN_ret1 e, forN_ret1 e'⟩
        | brk u => exact absurd rfl (hne u)
    exact this V.length 0 (by omega)
  unfold p_spec_l17Fault p_impl_Cocycle_fault
  simp only [Int.toNat_natCast]
  have e1 : ∃ r, forN (fun k s => p_spec_l17Fault_L1 o V m k) V.length 0 () = some r ∧ forN (fun k s => p_impl_Cocycle_fault_L1 V o m k) V.length 0 () = some r := by
    refine both fun i s hi => ?_
    simp only [p_spec_l17Fault_L1, p_impl_Cocycle_fault_L1, Int.toNat_natCast]
    obtain ⟨r, f, f'⟩ := both (b := fun k s => p_spec_l17Fault_L2 o i V m k) (b' := fun k s => p_impl_Cocycle_fault_L2 V o m i k) fun j s hj => by
      simp only [p_spec_l17Fault_L2, p_impl_Cocycle_fault_L2, Int.toNat_natCast]
      obtain ⟨r, f, f'⟩ := both (b := fun k s => p_spec_l17Fault_L3 o i j V m k) (b' := fun k s => p_impl_Cocycle_fault_L3 V j o m i k) fun k s hk => by
        simp only [p_spec_l17Fault_L3, p_impl_Cocycle_fault_L3, Int.toNat_natCast]
        obtain ⟨r, f, f'⟩ := both (b := fun l s => p_spec_l17Fault_L4 o i j k V m l) (b' := fun l s => p_impl_Cocycle_fault_L4 V j k o m i l) fun l s hl' => by
          exact e4 i j k hi hj hk l hl'
        rw [f, f']
        cases r with
        | fin u => exact ⟨_, rfl, rfl, fun u h => by cases h⟩
        | ret r => exact ⟨_, rfl, rfl, fun u h => by cases h⟩
      rw [f, f']
      cases r with
      | fin u => exact ⟨_, rfl, rfl, fun u h => by cases h⟩
      | ret r => exact ⟨_, rfl, rfl, fun u h => by cases h⟩
    rw [f, f']
    cases r with
    | fin u => exact ⟨_, rfl, rfl, fun u h => by cases h⟩
    | ret r => exact ⟨_, rfl, rfl, fun u h => by cases h⟩
  obtain ⟨r, f, f'⟩ := e1
  rw [f, f']
  cases r with
  | fin u => exact ⟨_, rfl, rfl⟩
  | ret r => exact ⟨_, rfl, rfl⟩
theorem is_eq (hl : (o.length : Int) ≤ 1048576) : ∃ b, p_spec_l17Is o m V = some b ∧ p_impl_IsCocycle o m V = some b ∧ (b = true → CocOK o m V) := by
  unfold p_spec_l17Is p_impl_IsCocycle
  obtain ⟨b, e1, hb⟩ := specShape (o := o) (m := m) (V := V)
  have e2 : p_impl_isCochain o m V = some b := by rw [← e1]; exact (implShape.eq specShape)
  rw [e1, e2]
  simp only [Option.bind_some]
  cases b
  · exact ⟨false, rfl, rfl, fun h => by cases h⟩
  · have hc := hb.1 rfl
    obtain ⟨b, e3, hb3⟩ := specNormal hc
    have e4 : p_impl_Cocycle_isNormalised o m V = some b := by rw [← e3]; exact ((implNormal hc).eq (specNormal hc))
    obtain ⟨r, e5, e6⟩ := fault_eq hc hl
    simp only [e3, e4, e5, e6, if_true, Option.bind_some]
    cases b
    · exact ⟨false, rfl, rfl, fun h => by cases h⟩
    · have : ((r.length : Int) == 0) = r.isEmpty := by cases r <;> simp; omega
      simp only [if_true, this]
      exact ⟨_, rfl, rfl, fun _ => hc⟩
end
end Go.VG
-- PlFill
namespace Go.VG
theorem fillrow {α : Type} {r c x : Nat} (hx : x < r) {inner : Nat → List (List α) → Option (Ctl (List (List α)) Unit)} (f : Nat → Nat → α) (S' : Nat → α)
    (hin : ∀ y, y < c → ∀ g : Nat → Nat → α, g x y = f x y → inner y (grid g r c) = some (.next (grid (up2 g x y (S' y)) r c))) :
    forN inner c 0 (grid f r c) = some (.fin (grid (fun a b => if a = x then S' b else f a b) r c)) := by
  have := forN_det (R := Unit) (N := c) (body := inner) (fun q => grid (fun a b => if a = x ∧ b < q then S' b else f a b) r c) (fun q hq => by
    rw [hin q hq _ (by simp)]
    congr 2
    refine grid_congr fun a ha b hb => ?_
    simp only [up2]
    by_cases hab : a = x ∧ b = q
    · obtain ⟨rfl, rfl⟩ := hab
      simp
    · simp only [hab, if_false]
      have : (a = x ∧ b < q + 1) ↔ (a = x ∧ b < q) := by omega
      simp only [this])
  simp only [Nat.not_lt_zero, and_false, if_false] at this
  rw [this]
  congr 2
  exact grid_congr fun a ha b hb => by simp [hb]
theorem fill2 {α : Type} {r c : Nat} {outer : Nat → List (List α) → Option (Ctl (List (List α)) Unit)} {inner : Nat → Nat → List (List α) → Option (Ctl (List (List α)) Unit)} (S S' : Nat → Nat → α)
    (hin : ∀ x, x < r → ∀ y, y < c → ∀ g : Nat → Nat → α, g x y = S x y → inner x y (grid g r c) = some (.next (grid (up2 g x y (S' x y)) r c)))
    (hout : ∀ x, x < r → ∀ (g : Nat → Nat → α), outer x (grid g r c) = (forN (inner x) c 0 (grid g r c)).bind fun res => onRes res (fun _ => none) fun z => some (.next z)) :
    forN outer r 0 (grid S r c) = some (.fin (grid S' r c)) := by
  have := forN_det (R := Unit) (N := r) (body := outer) (fun q => grid (fun a b => if a < q then S' a b else S a b) r c) (fun q hq => by
    rw [hout q hq, fillrow hq _ (S' q) (fun y hy g hg => hin q hq y hy g (by rw [hg]; simp))]
    simp only [Option.bind_some, onRes]
    congr 2
    refine grid_congr fun a ha b hb => ?_
    by_cases haq : a = q
    · subst haq; simp
    · have : a < q + 1 ↔ a < q := by omega
      simp only [haq, if_false, this])
  simp only [Nat.not_lt_zero, if_false] at this
  rw [this]
  congr 2
  exact grid_congr fun a ha b hb => by simp [ha]
end Go.VG
-- PlCube
namespace Go.VG
def cubeG {α : Type} (f : Nat → Nat → Nat → α) (a b c : Nat) : List (List (List α)) := (List.range a).map (fun i => grid (f i) b c)
def up3 {α : Type} (f : Nat → Nat → Nat → α) (i j k : Nat) (v : α) : Nat → Nat → Nat → α := fun x y z => if x = i ∧ y = j ∧ z = k then v else f x y z
section
variable {α : Type} {f g : Nat → Nat → Nat → α} {a b c : Nat}
theorem cubeG_len : (cubeG f a b c).length = a := by simp [cubeG]
theorem cubeG_idx {i : Nat} (h : i < a) : idx (cubeG f a b c) (i : Int) = some (grid (f i) b c) := vecG_idx (f := fun i => grid (f i) b c) h
theorem cubeG_getD {i : Nat} (h : i < a) : (cubeG f a b c).getD i [] = grid (f i) b c := vecG_getD' (f := fun i => grid (f i) b c) [] h
theorem cubeG_congr (h : ∀ i, i < a → ∀ j, j < b → ∀ k, k < c → f i j k = g i j k) : cubeG f a b c = cubeG g a b c := List.map_congr_left fun i hi => grid_congr (h i (by simpa using hi))
theorem cubeG_set {i j k : Nat} {v : α} (hi : i < a) (hj : j < b) (hk : k < c) : (cubeG f a b c).set i ((grid (f i) b c).set j ((rowG (f i) c j).set k v)) = cubeG (up3 f i j k v) a b c := by
  rw [grid_set hj hk]
  have := vecG_set (f := fun i => grid (f i) b c) (n := a) (i := i) (v := grid (up2 (f i) j k v) b c) hi
  rw [show (cubeG f a b c) = vecG (fun i => grid (f i) b c) a from rfl, this]
  refine vecG_congr fun x hx => ?_
  simp only [up1]
  split
  · rename_i h; subst h
    exact grid_congr fun y hy z hz => by simp [up2, up3]
  · rename_i h
    exact grid_congr fun y hy z hz => by simp [up3, h]

theorem fill3row {i j : Nat} (hi : i < a) (hj : j < b) {L3 : Nat → List (List (List α)) → Option (Ctl (List (List (List α))) Unit)} (f : Nat → Nat → Nat → α) (S' : Nat → α)
    (hin : ∀ k, k < c → ∀ g : Nat → Nat → Nat → α, g i j k = f i j k → L3 k (cubeG g a b c) = some (.next (cubeG (up3 g i j k (S' k)) a b c))) :
    forN L3 c 0 (cubeG f a b c) = some (.fin (cubeG (fun x y z => if x = i ∧ y = j then S' z else f x y z) a b c)) := by
  have := forN_det (R := Unit) (N := c) (body := L3) (fun q => cubeG (fun x y z => if x = i ∧ y = j ∧ z < q then S' z else f x y z) a b c) (fun q hq => by
    rw [hin q hq _ (by simp)]
    congr 2
    refine cubeG_congr fun x hx y hy z hz => ?_
    simp only [up3]
    by_cases h : x = i ∧ y = j ∧ z = q
    · obtain ⟨rfl, rfl, rfl⟩ := h; simp
    · simp only [h, if_false]
      have : (x = i ∧ y = j ∧ z < q + 1) ↔ (x = i ∧ y = j ∧ z < q) := by omega
      simp only [this])
  simp only [Nat.not_lt_zero, and_false, if_false] at this
  rw [this]
  congr 2
  exact cubeG_congr fun x hx y hy z hz => by simp [hz]
/-- Three loops that write each place once. -/
theorem fill3 {L1 : Nat → List (List (List α)) → Option (Ctl (List (List (List α))) Unit)} {L2 : Nat → Nat → List (List (List α)) → Option (Ctl (List (List (List α))) Unit)} {L3 : Nat → Nat → Nat → List (List (List α)) → Option (Ctl (List (List (List α))) Unit)}
    (S S' : Nat → Nat → Nat → α)
    (h3 : ∀ i, i < a → ∀ j, j < b → ∀ k, k < c → ∀ g : Nat → Nat → Nat → α, g i j k = S i j k → L3 i j k (cubeG g a b c) = some (.next (cubeG (up3 g i j k (S' i j k)) a b c)))
    (h2 : ∀ i, i < a → ∀ j, j < b → ∀ g : Nat → Nat → Nat → α, L2 i j (cubeG g a b c) = (forN (L3 i j) c 0 (cubeG g a b c)).bind fun res => onRes res (fun _ => none) fun z => some (.next z))
    (h1 : ∀ i, i < a → ∀ g : Nat → Nat → Nat → α, L1 i (cubeG g a b c) = (forN (L2 i) b 0 (cubeG g a b c)).bind fun res => onRes res (fun _ => none) fun z => some (.next z)) :
    forN L1 a 0 (cubeG S a b c) = some (.fin (cubeG S' a b c)) := by
  have := forN_det (R := Unit) (N := a) (body := L1) (fun q => cubeG (fun x y z => if x < q then S' x y z else S x y z) a b c) (fun i hi => by
    rw [h1 i hi]
    have e2 := forN_det (R := Unit) (N := b) (body := L2 i) (fun q => cubeG (fun x y z => if x < i ∨ (x = i ∧ y < q) then S' x y z else S x y z) a b c) (fun j hj => by
      rw [h2 i hi j hj, fill3row hi hj _ (S' i j) (fun k hk g hg => h3 i hi j hj k hk g (by rw [hg]; simp))]
      simp only [Option.bind_some, onRes]
      congr 2
      refine cubeG_congr fun x hx y hy z hz => ?_
      by_cases h : x = i ∧ y = j
      · obtain ⟨rfl, rfl⟩ := h; simp
      · have : (x < i ∨ x = i ∧ y < j + 1) ↔ (x < i ∨ x = i ∧ y < j) := by omega
        simp only [h, if_false, this])
    simp only [Nat.not_lt_zero, and_false, or_false] at e2
    rw [e2]
    simp only [Option.bind_some, onRes]
    congr 2
    refine cubeG_congr fun x hx y hy z hz => ?_
    have : (x < i ∨ x = i ∧ y < b) ↔ x < i + 1 := by omega
    simp only [this])
  simp only [Nat.not_lt_zero, if_false] at this
  rw [this]
  congr 2
  exact cubeG_congr fun x hx y hy z hz => by simp [hx]
end
theorem quoN {k m : Nat} (hm : 1 ≤ m) (hk : k ≤ 1099511627776) : quoI .i64 (k : Int) (m : Int) = some ((k / m : Nat) : Int) := by
  have h0 : (m : Int) ≠ 0 := by omega
  simp only [quoI, ne_eq, h0, not_false_eq_true, if_true]
  rw [Int.tdiv_eq_ediv_of_nonneg (by omega)]
  have h2 : k / m ≤ k := Nat.div_le_self _ _
  have e : ((k : Int) / (m : Int)) = ((k / m : Nat) : Int) := rfl
  rw [e]
  generalize k / m = q at h2 ⊢
  exact congrArg some (w64_small (by omega) (by omega))
theorem remN {k m : Nat} (hm : 1 ≤ m) : remI (k : Int) (m : Int) = some ((k % m : Nat) : Int) := by
  have h0 : (m : Int) ≠ 0 := by omega
  simp only [remI, ne_eq, h0, not_false_eq_true, if_true]
  rfl
end Go.VG
-- PlClone
namespace Go.VG
theorem clone1_eq (r : List Int) (h : r.length ≤ 1048576) : p_slices_Clone_Lint64_int64 r = some r := by
  simp [p_slices_Clone_Lint64_int64, appL]; omega
end Go.VG
-- PlCocBy
namespace Go.VG
section
variable {o : List Int} {m : Int} {V W : List (List (List Int))}
theorem CocOK.asCube (h : CocOK o m V) : V = cubeG (c3 V) V.length V.length V.length := by
  have e : (List.range V.length).map (fun i => V.getD i []) = V := map_range_getD V []
  conv => lhs; rw [← e]
  refine List.map_congr_left fun i hi => ?_
  have hi' : i < V.length := by simpa using hi
  exact eq_grid (h.rows i hi').1 (fun j hj => ((h.rows i hi').2 j hj).1)
theorem zeros_grid {n : Nat} (h : n ≤ 8) : p_impl_zeros (n : Int) (n : Int) = some (grid (fun _ _ => 0) n n) := by
  unfold p_impl_zeros
  simp only [Int.toNat_natCast]
  rw [zeros_eq (body := fun k s => p_impl_zeros_L1 (n : Int) k s) (by omega) (by omega) (fun k x => rfl)]
  rfl
theorem groupSize_eq (h : CocOK o m V) : p_impl_groupSize o = some (V.length : Int) := by
  obtain ⟨s, e, h1, h2⟩ := implSize (o := o)
  have hs := h.small
  have := h1.2 ⟨h.ne, h.pos, by rw [h.size]; omega⟩
  rw [e, h2 this, h.size]
/-- A cocycle told by a function of three elements. -/
theorem cocycleBy_eq (h : CocOK o m V) (ho : (o.length : Int) ≤ 1048576) {number : Int → Int → Int → Option Int} {F : Nat → Nat → Nat → Int} (hF : ∀ i j k, i < V.length → j < V.length → k < V.length → number (i : Int) (j : Int) (k : Int) = some (F i j k) ∧ -1000000 ≤ F i j k ∧ F i j k ≤ 1000000) :
    p_impl_cocycleBy o m number = some (o, m, cubeG (fun i j k => F i j k % m) V.length V.length V.length) := by
  have hs := h.small
  have hm := h.mod
  unfold p_impl_cocycleBy
  rw [clone1_eq o (by omega), groupSize_eq h]
  simp only [Option.bind_some, Int.toNat_natCast]
  rw [forN_app (R := Unit) (fun i => grid (fun j k => F i j k % m) V.length V.length) (fun i hi => by
    simp only [p_impl_cocycleBy_L1, zeros_grid hs, Option.bind_some, Int.toNat_natCast]
    rw [fill2 (inner := fun j k s => p_impl_cocycleBy_L3 j number i o m ((List.range i).map fun i => grid (fun j k => F i j k % m) V.length V.length) k s) _ (fun j k => F i j k % m) (fun j hj k hk g hg => by
      obtain ⟨f1, f2, f3⟩ := hF i j k hi hj hk
      simp only [p_impl_cocycleBy_L3, grid_idx hj, f1, Option.bind_some, rowG_idx hk, Int.toNat_natCast]
      rw [rest_eq hm ⟨f2, f3⟩]
      simp only [Option.bind_some]
      rw [grid_set hj hk]) (fun j hj g => by simp only [p_impl_cocycleBy_L2, Int.toNat_natCast])]
    simp only [Option.bind_some, onRes]
    rw [appL_range (fun i => grid (fun j k => F i j k % m) V.length V.length) (by omega)]
    rfl)]
  rfl
end
end Go.VG
