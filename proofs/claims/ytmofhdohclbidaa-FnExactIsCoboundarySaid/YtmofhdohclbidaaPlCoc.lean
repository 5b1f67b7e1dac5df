/- Cocycles: the model's test beside the code's. No condition. -/
import Derived.Test.YtmofhdohclbidaaPlLoops
import Derived.Test.YtmofhdohclbidaaPlMarkL
import Derived.Test.YtmofhdohclbidaaPlGrid
set_option linter.all false
namespace Go.VG
def prodL : List Int → Int
  | [] => 1
  | x :: l => x * prodL l
theorem prodL_app (a b : List Int) : prodL (a ++ b) = prodL a * prodL b := by
  induction a with
  | nil => simp [prodL]
  | cons x a ih => simp only [List.cons_append, prodL, ih, Int.mul_assoc]
theorem prodL_rev (a : List Int) : prodL a.reverse = prodL a := by
  induction a with
  | nil => rfl
  | cons x a ih => simp only [List.reverse_cons, prodL_app, ih, prodL, Int.mul_one]; rw [Int.mul_comm]
theorem prodL_pos {l : List Int} (h : ∀ x ∈ l, 1 ≤ x) : 1 ≤ prodL l := by
  induction l with
  | nil => decide
  | cons x l ih =>
    have h1 := h x (by simp)
    have h2 := ih (fun y hy => h y (by simp [hy]))
    have := Int.mul_le_mul h1 h2 (by decide) (by omega)
    simpa [prodL] using this
def at2 (c : List (List Int)) (i j : Nat) : Int := (c.getD i []).getD j 0
def c3 (V : List (List (List Int))) (i j k : Nat) : Int := ((V.getD i []).getD j []).getD k 0
def GridOK (n : Nat) (m : Int) (c : List (List Int)) : Prop := c.length = n ∧ ∀ i, i < n → (c.getD i []).length = n ∧ ∀ j, j < n → 0 ≤ at2 c i j ∧ at2 c i j ≤ m - 1
structure CocOK (o : List Int) (m : Int) (V : List (List (List Int))) : Prop where
  ne : 1 ≤ o.length
  pos : ∀ x ∈ o, 1 ≤ x
  size : prodL o = V.length
  small : V.length ≤ 8
  mod : 1 ≤ m ∧ m ≤ 1000
  rows : ∀ i, i < V.length → GridOK V.length m (V.getD i [])
section
variable {o : List Int} {m : Int} {V : List (List (List Int))}
theorem CocOK.n1 (h : CocOK o m V) : 1 ≤ V.length := by have := prodL_pos h.pos; have := h.size; omega
theorem CocOK.i1 (h : CocOK o m V) {i : Nat} (hi : i < V.length) : idx V (i : Int) = some (V.getD i []) := idx_getD _ _ hi
theorem CocOK.i2 (h : CocOK o m V) {i j : Nat} (hi : i < V.length) (hj : j < V.length) : idx (V.getD i []) (j : Int) = some ((V.getD i []).getD j []) := idx_getD _ _ (by rw [(h.rows i hi).1]; exact hj)
theorem CocOK.i3 (h : CocOK o m V) {i j k : Nat} (hi : i < V.length) (hj : j < V.length) (hk : k < V.length) : idx ((V.getD i []).getD j []) (k : Int) = some (c3 V i j k) := idx_getD _ _ (by rw [((h.rows i hi).2 j hj).1]; exact hk)
theorem CocOK.rng (h : CocOK o m V) {i j k : Nat} (hi : i < V.length) (hj : j < V.length) (hk : k < V.length) : 0 ≤ c3 V i j k ∧ c3 V i j k ≤ 999 := by
  have := ((h.rows i hi).2 j hj).2 k hk
  have := h.mod
  simp only [at2] at *
  unfold c3; omega

/-! ### The group's size -/

theorem specOrders : Says (p_spec_l06Orders o) (1 ≤ o.length ∧ ∀ x ∈ o, 1 ≤ x) := by
  unfold p_spec_l06Orders
  have := forN_chk (R := Bool) (Bad := fun r => r = false) (body := fun k s => p_spec_l06Orders_L1 o k) (N := o.length) (P := fun j => ¬ o.getD j 0 < 1) fun j hj _ => by
    simp only [p_spec_l06Orders_L1, idx_getD o 0 hj, Option.bind_some]
    exact ChkC.congr (ChkC.ite rfl) (by simp)
  rcases this with ⟨h1, e⟩ | ⟨h1, r, e, rfl⟩ <;> rw [e]
  · refine ⟨_, rfl, ?_⟩
    simp only [decide_eq_true_eq]
    constructor
    · intro h
      refine ⟨by omega, fun x hx => ?_⟩
      obtain ⟨i, hi, rfl⟩ := mem_getD 0 hx
      have := h1 i hi; omega
    · rintro ⟨h, _⟩; omega
  · refine ⟨false, rfl, by simp; exact fun _ => Classical.byContradiction fun hh => h1 fun j hj hlt => hh ⟨_, getD_mem (d := (0 : Int)) hj, hlt⟩⟩
theorem getD_drop_step {j : Nat} (hj : j < o.length) : prodL (o.drop j) = o.getD j 0 * prodL (o.drop (j + 1)) := by
  rw [List.drop_eq_getElem_cons hj, List.getD_eq_getElem?_getD, List.getElem?_eq_getElem hj]
  rfl
theorem mul_le8 {s x : Int} (h1 : 1 ≤ s ∧ s ≤ 17) (h2 : 1 ≤ x ∧ x ≤ 17) : 1 ≤ s * x ∧ s * x ≤ 289 := by
  have a := Int.mul_le_mul h1.1 h2.1 (by decide) (by omega)
  have b := Int.mul_le_mul h1.2 h2.2 (by omega) (by decide)
  omega
theorem le_mul_r {a p : Int} (ha : 0 ≤ a) (hp : 1 ≤ p) : a ≤ a * p := by
  have := Int.mul_le_mul_of_nonneg_left hp ha
  omega
theorem le_mul_l {a p : Int} (ha : 0 ≤ a) (hp : 1 ≤ p) : a ≤ p * a := by rw [Int.mul_comm]; exact le_mul_r ha hp
/-- The model's size, where every order is positive. -/
theorem specSize (hp : ∀ x ∈ o, 1 ≤ x) : ∃ s, p_spec_l17Size o = some s ∧ ((s = prodL o ∧ s ≤ 8) ∨ (s = 9 ∧ 8 < prodL o)) := by
  unfold p_spec_l17Size p_spec_l06Size
  have key : ∀ (c k : Nat) (s : Int), k + c = o.length → 1 ≤ s → s ≤ 8 →
      (forN (fun k s => p_spec_l06Size_L1 o 8 k s) c k s = some (.ret 9) ∧ 8 < s * prodL (o.drop k)) ∨ (forN (fun k s => p_spec_l06Size_L1 o 8 k s) c k s = some (.fin (s * prodL (o.drop k))) ∧ s * prodL (o.drop k) ≤ 8) := by
    intro c
    induction c with
    | zero =>
      intro k s hk h1 h2
      have : o.drop k = [] := List.drop_eq_nil_of_le (by omega)
      rw [this]
      exact .inr ⟨by simp [forN, prodL], by simp [prodL]; exact h2⟩
    | succ c ih =>
      intro k s hk h1 h2
      have hkl : k < o.length := by omega
      have hx := hp _ (getD_mem (d := (0 : Int)) hkl)
      have hpos : 1 ≤ prodL (o.drop (k + 1)) := prodL_pos fun x hx => hp x (List.mem_of_mem_drop hx)
      rw [getD_drop_step hkl]
      have hbody : p_spec_l06Size_L1 o 8 k s = (if decide (o.getD k 0 > 8) = true then some (.ret 9) else if decide (w64 (s * o.getD k 0) > 8) = true then some (.ret 9) else some (.next (w64 (s * o.getD k 0)))) := by
        simp only [p_spec_l06Size_L1, idx_getD o 0 hkl, Option.bind_some]
        rfl
      generalize o.getD k 0 = x at *
      by_cases h8 : x > 8
      · refine .inl ⟨forN_ret1 (by rw [hbody]; simp only [h8, decide_true, if_true]), ?_⟩
        have a1 := le_mul_r (a := x) (by omega) hpos
        have a2 := le_mul_l (a := x * prodL (o.drop (k + 1))) (by omega) h1
        omega
      · have hm := mul_le8 (s := s) (x := x) ⟨h1, by omega⟩ ⟨hx, by omega⟩
        have ew : w64 (s * x) = s * x := w64_small (by omega) (by omega)
        rw [ew] at hbody
        rw [← Int.mul_assoc]
        by_cases h9 : s * x > 8
        · refine .inl ⟨forN_ret1 (by rw [hbody]; simp only [h8, decide_false, Bool.false_eq_true, if_false, h9, decide_true, if_true]), ?_⟩
          have := le_mul_r (a := s * x) (by omega) hpos
          omega
        · rw [forN_next1 (s' := s * x) (by rw [hbody]; simp only [h8, decide_false, Bool.false_eq_true, if_false, h9])]
          exact ih (k + 1) (s * x) (by omega) hm.1 (by omega)
  have := key o.length 0 1 (by omega) (by decide) (by decide)
  simp only [Int.one_mul, List.drop_zero] at this
  rcases this with ⟨e, h⟩ | ⟨e, h⟩
  · rw [e]; exact ⟨9, rfl, .inr ⟨rfl, h⟩⟩
  · rw [e]; exact ⟨_, rfl, .inl ⟨rfl, h⟩⟩
/-- The code's size. -/
theorem implSize2 : ∃ s, p_impl_groupSize o = some s ∧ ((s = 0 ∧ ¬ (1 ≤ o.length ∧ ∀ x ∈ o, 1 ≤ x)) ∨ ((1 ≤ o.length ∧ ∀ x ∈ o, 1 ≤ x) ∧ ((s = prodL o ∧ 1 ≤ s ∧ s ≤ 16) ∨ (s = 17 ∧ 17 ≤ prodL o)))) := by
  unfold p_impl_groupSize
  have key : ∀ (c k : Nat) (s : Int), k + c = o.length → 1 ≤ s → s ≤ 17 →
      (forN (fun k s => p_impl_groupSize_L1 o k s) c k s = some (.ret 0) ∧ ¬ ∀ x ∈ o.drop k, 1 ≤ x) ∨
      ∃ r, forN (fun k s => p_impl_groupSize_L1 o k s) c k s = some (.fin r) ∧ (∀ x ∈ o.drop k, 1 ≤ x) ∧ ((r = s * prodL (o.drop k) ∧ r ≤ 16) ∨ (r = 17 ∧ 17 ≤ s * prodL (o.drop k))) := by
    intro c
    induction c with
    | zero =>
      intro k s hk h1 h2
      have : o.drop k = [] := List.drop_eq_nil_of_le (by omega)
      rw [this]
      refine .inr ⟨s, rfl, by simp, ?_⟩
      by_cases hh : s ≤ 16
      · exact .inl ⟨by simp [prodL], hh⟩
      · exact .inr ⟨by omega, by simp [prodL]; omega⟩
    | succ c ih =>
      intro k s hk h1 h2
      have hkl : k < o.length := by omega
      rw [getD_drop_step hkl]
      have hmem : ∀ x, x ∈ o.drop k ↔ x = o.getD k 0 ∨ x ∈ o.drop (k + 1) := by
        intro x
        rw [List.drop_eq_getElem_cons hkl, List.mem_cons, List.getD_eq_getElem?_getD, List.getElem?_eq_getElem hkl]
        rfl
      have hbody : p_impl_groupSize_L1 o k s = (if decide (o.getD k 0 < 1) = true then some (.ret 0) else some (.next (if (w64 (s * (if (17 : Int) < o.getD k 0 then (17 : Int) else o.getD k 0))) < (17 : Int) then (w64 (s * (if (17 : Int) < o.getD k 0 then (17 : Int) else o.getD k 0))) else (17 : Int)))) := by
        simp only [p_impl_groupSize_L1, idx_getD o 0 hkl, Option.bind_some]
      generalize o.getD k 0 = x at *
      by_cases hx : x < 1
      · refine .inl ⟨forN_ret1 (by rw [hbody]; simp only [hx, decide_true, if_true]), fun h => ?_⟩
        have := h x ((hmem x).2 (.inl rfl)); omega
      · simp only [hx, decide_false, Bool.false_eq_true, if_false] at hbody
        have hallk : (∀ y ∈ o.drop k, 1 ≤ y) ↔ ∀ y ∈ o.drop (k + 1), 1 ≤ y := by
          constructor
          · intro h y hy; exact h y ((hmem y).2 (.inr hy))
          · intro h y hy
            rcases (hmem y).1 hy with rfl | hy
            · omega
            · exact h y hy
        rw [hallk, ← Int.mul_assoc]
        by_cases hb : x ≤ 17
        · have hm := mul_le8 (s := s) (x := x) ⟨h1, h2⟩ ⟨by omega, hb⟩
          have e1 : (if (17 : Int) < x then (17 : Int) else x) = x := if_neg (by omega)
          rw [e1, w64_small (by omega) (by omega)] at hbody
          by_cases hs : s * x < 17
          · rw [if_pos hs] at hbody
            rw [forN_next1 hbody]
            exact ih (k + 1) (s * x) (by omega) hm.1 (by omega)
          · rw [if_neg hs] at hbody
            rw [forN_next1 hbody]
            rcases ih (k + 1) 17 (by omega) (by decide) (by decide) with ⟨e, h⟩ | ⟨r, e, h, h3⟩
            · exact .inl ⟨e, h⟩
            · have hpos := prodL_pos h
              have h17 := le_mul_r (a := (17 : Int)) (by decide) hpos
              have hsx := le_mul_r (a := s * x) (by omega) hpos
              exact .inr ⟨r, e, h, .inr ⟨by omega, by omega⟩⟩
        · have e1 : (if (17 : Int) < x then (17 : Int) else x) = 17 := if_pos (by omega)
          have hm := mul_le8 (s := s) (x := 17) ⟨h1, h2⟩ ⟨by decide, by decide⟩
          rw [e1, w64_small (by omega) (by omega), if_neg (by omega)] at hbody
          rw [forN_next1 hbody]
          rcases ih (k + 1) 17 (by omega) (by decide) (by decide) with ⟨e, h⟩ | ⟨r, e, h, h3⟩
          · exact .inl ⟨e, h⟩
          · have hpos := prodL_pos h
            have h17 := le_mul_r (a := (17 : Int)) (by decide) hpos
            have hx1 := le_mul_l (a := x) (by omega) h1
            have hsx := le_mul_r (a := s * x) (by omega) hpos
            exact .inr ⟨r, e, h, .inr ⟨by omega, by omega⟩⟩
  have := key o.length 0 1 (by omega) (by decide) (by decide)
  simp only [Int.one_mul, List.drop_zero] at this
  by_cases hz : o.length = 0
  · have ez : ((o.length : Int) == 0) = true := by simp [List.length_eq_zero_iff.1 hz]
    rcases this with ⟨e, h⟩ | ⟨r, e, h, h3⟩
    · rw [e]; exact ⟨0, rfl, .inl ⟨rfl, by omega⟩⟩
    · rw [e]; exact ⟨0, by simp only [Option.bind_some, onRes, ez, if_true], .inl ⟨rfl, by omega⟩⟩
  · have ez : ((o.length : Int) == 0) = false := by simp only [beq_eq_false_iff_ne, ne_eq]; omega
    rcases this with ⟨e, h⟩ | ⟨r, e, h, h3⟩
    · rw [e]; exact ⟨0, rfl, .inl ⟨rfl, fun hh => h hh.2⟩⟩
    · rw [e]
      have hpos := prodL_pos h
      refine ⟨r, by simp only [Option.bind_some, onRes, ez, Bool.false_eq_true, if_false], .inr ⟨⟨by omega, h⟩, ?_⟩⟩
      omega
theorem implSize : ∃ s, p_impl_groupSize o = some s ∧ ((1 ≤ s ∧ s ≤ 8) ↔ (1 ≤ o.length ∧ (∀ x ∈ o, 1 ≤ x) ∧ prodL o ≤ 8)) ∧ ((1 ≤ s ∧ s ≤ 8) → s = prodL o) := by
  obtain ⟨s, e, h⟩ := implSize2 (o := o)
  refine ⟨s, e, ?_, fun hh => by omega⟩
  rcases h with ⟨h0, h1⟩ | ⟨⟨h1, h2⟩, h3⟩
  · exact ⟨fun hh => by omega, fun hh => absurd ⟨hh.1, hh.2.1⟩ h1⟩
  · exact ⟨fun hh => ⟨h1, h2, by omega⟩, fun hh => by omega⟩

/-! ### The shape -/

theorem specShape : Says (p_spec_l17Shape o m V) (CocOK o m V) := by
  unfold p_spec_l17Shape
  obtain ⟨b, e1, hb⟩ := specOrders (o := o)
  rw [e1]
  simp only [Option.bind_some]
  cases b
  · exact ⟨false, rfl, by simp; exact fun h => absurd (hb.2 ⟨h.ne, h.pos⟩) (by simp)⟩
  · obtain ⟨hne, hpos⟩ := hb.1 rfl
    simp only [Bool.not_true, Bool.false_eq_true, if_false, p_spec_l01In, Option.bind_some]
    by_cases hm : 1 ≤ m ∧ m ≤ 1000
    · have ec : (decide (m ≥ 1) && decide (m ≤ 1000)) = true := by simpa using hm
      simp only [ec, Bool.not_true, Bool.false_eq_true, if_false]
      obtain ⟨s, e2, hs⟩ := specSize hpos
      rw [e2]
      simp only [Option.bind_some]
      by_cases hv : s ≤ 8 ∧ (V.length : Int) = s
      · have ec2 : (decide (s > 8) || ((V.length : Int) != s)) = false := by simp only [Bool.or_eq_false_iff, decide_eq_false_iff_not, bne_eq_false_iff_eq]; omega
        simp only [ec2, Bool.false_eq_true, if_false]
        have es : s.toNat = V.length := by omega
        rw [es]
        have hsz : prodL o = V.length := by omega
        refine Says.congr (Chk.says (forN_chk (P := fun i => GridOK V.length m (V.getD i [])) fun i hi _ => ?_)) ⟨fun h => ⟨hne, hpos, hsz, by omega, hm, h⟩, fun h => h.rows⟩
        simp only [p_spec_l17Shape_L1, idx_getD V [] hi, Option.bind_some, es]
        refine ChkC.congr (ChkC.iteAnd rfl fun hl => ChkC.loop (forN_chk (P := fun j => ((V.getD i []).getD j []).length = V.length ∧ ∀ k, k < V.length → 0 ≤ at2 (V.getD i []) j k ∧ at2 (V.getD i []) j k ≤ m - 1) fun j hj _ => ?_)) ?_
        · have hl' : (V.getD i []).length = V.length := by rw [bne_eq_false_iff_eq] at hl; omega
          simp only [p_spec_l17Shape_L2, idx_getD (V.getD i []) [] (by omega : j < (V.getD i []).length), Option.bind_some, es]
          refine ChkC.congr (ChkC.iteAnd rfl fun hl2 => ChkC.loop (forN_chk (P := fun k => 0 ≤ at2 (V.getD i []) j k ∧ at2 (V.getD i []) j k ≤ m - 1) fun k hk _ => ?_)) ?_
          · have hl2' : ((V.getD i []).getD j []).length = V.length := by rw [bne_eq_false_iff_eq] at hl2; omega
            have ew : w64 (m - 1) = m - 1 := w64_small (by omega) (by omega)
            simp only [p_spec_l17Shape_L3, p_spec_l01In, idx_getD ((V.getD i []).getD j []) 0 (by omega : k < ((V.getD i []).getD j []).length), Option.bind_some, ew]
            exact ChkC.congr (ChkC.ite rfl) (by simp [at2])
          · rw [bne_eq_false_iff_eq]; constructor <;> rintro ⟨h1, h2⟩ <;> exact ⟨by omega, h2⟩
        · rw [bne_eq_false_iff_eq]; constructor <;> rintro ⟨h1, h2⟩ <;> exact ⟨by omega, h2⟩
      · have ec2 : (decide (s > 8) || ((V.length : Int) != s)) = true := by
          cases hh : (decide (s > 8) || ((V.length : Int) != s)) with
          | true => rfl
          | false => simp only [Bool.or_eq_false_iff, decide_eq_false_iff_not, bne_eq_false_iff_eq] at hh; omega
        simp only [ec2, if_true]
        refine ⟨false, rfl, by simp; intro h; have := h.size; have := h.small; omega⟩
    · have ec : (decide (m ≥ 1) && decide (m ≤ 1000)) = false := by
        cases hh : (decide (m ≥ 1) && decide (m ≤ 1000)) with
        | false => rfl
        | true => exact absurd (by simpa using hh) hm
      simp only [ec, Bool.not_false, if_true]
      exact ⟨false, rfl, by simp; exact fun h => hm h.mod⟩
theorem implGrid (c : List (List Int)) {n : Nat} {q : Int} (hq : -1000000 ≤ q ∧ q ≤ 1000000) : Says (p_impl_isGrid c (n : Int) q) (GridOK n q c) := by
  unfold p_impl_isGrid
  have ew : w64 (q - 1) = q - 1 := w64_small (by omega) (by omega)
  by_cases hl : c.length = n
  · have e : ((c.length : Int) == (n : Int)) = true := by simp [hl]
    rw [e]
    simp only [if_true]
    refine Says.id (Says.congr (Says.not (indexFunc_l (Q := fun j => ¬ ((c.getD j []).length = n ∧ ∀ k, k < n → 0 ≤ at2 c j k ∧ at2 c j k ≤ q - 1)) fun j hj => ?_)) ?_)
    · simp only [p_impl_isGrid_c1, ew]
      refine Says.id ?_
      by_cases hr : (c.getD j []).length = n
      · have e2 : (((c.getD j []).length : Int) != (n : Int)) = false := by rw [hr]; simp
        simp only [e2, Bool.false_eq_true, if_false]
        refine Says.congr (Says.not (allWithin_says _ 0 (q - 1))) ?_
        rw [hr]; simp only [at2, true_and]
      · have e2 : (((c.getD j []).length : Int) != (n : Int)) = true := by simp only [bne_iff_ne, ne_eq]; omega
        simp only [e2, if_true]
        exact ⟨true, rfl, ⟨fun _ h => hr h.1, fun _ => rfl⟩⟩
    · constructor
      · intro h
        refine ⟨hl, fun i hi => Decidable.byContradiction fun hc => h ⟨i, by omega, hc⟩⟩
      · rintro h ⟨j, hj, hc⟩
        exact hc (h.2 j (by omega))
  · have e : ((c.length : Int) == (n : Int)) = false := by simp only [beq_eq_false_iff_ne, ne_eq]; omega
    rw [e]
    exact ⟨false, rfl, by simp; exact fun h => hl h.1⟩
theorem indexFunc_ll {l : List (List (List Int))} {f : List (List Int) → Option Bool} {Q : Nat → Prop} (h : ∀ j, j < l.length → Says (f (l.getD j [])) (Q j)) : Says (p_slices_ContainsFunc_LLLint64_LLint64 l f) (∃ j, j < l.length ∧ Q j) := by
  unfold p_slices_ContainsFunc_LLLint64_LLint64 p_slices_IndexFunc_LLLint64_LLint64
  have := forN_chk (N := l.length) (R := Int) (Bad := fun r => 0 ≤ r) (body := fun k s => p_slices_IndexFunc_LLLint64_LLint64_L1 l f k) (P := fun j => ¬ Q j) fun j hj _ => by
    obtain ⟨b, h1, h2⟩ := h j hj
    simp only [p_slices_IndexFunc_LLLint64_LLint64_L1, idx_getD l [] hj, Option.bind_some, h1]
    exact ChkC.congr (ChkC.ite (by omega)) (by rw [← h2]; simp)
  rcases this with ⟨h1, h2⟩ | ⟨h1, r, h2, h3⟩
  · rw [h2]; exact ⟨false, rfl, by simpa using h1⟩
  · rw [h2]; exact ⟨true, by simp [onRes, h3], by simpa using h1⟩
theorem implShape : Says (p_impl_isCochain o m V) (CocOK o m V) := by
  unfold p_impl_isCochain
  obtain ⟨s, e1, hs1, hs2⟩ := implSize (o := o)
  rw [e1]
  simp only [Option.bind_some, p_impl_within, p_impl_isModulus]
  by_cases hs : 1 ≤ s ∧ s ≤ 8
  · have ec : (decide (s ≥ 1) && decide (s ≤ 8)) = true := by simpa using hs
    obtain ⟨hne, hpos, hle⟩ := hs1.1 hs
    have hsp := hs2 hs
    simp only [ec, Bool.not_true, Bool.false_eq_true, if_false]
    by_cases hm : 1 ≤ m ∧ m ≤ 1000
    · have ec1 : (decide (m ≥ 1) && decide (m ≤ 1000)) = true := by simpa using hm
      simp only [ec1, Bool.not_true, Bool.false_or]
      by_cases hv : (V.length : Int) = s
      · have ec2 : ((V.length : Int) != s) = false := by simp [hv]
        simp only [ec2, Bool.false_eq_true, if_false]
        rw [← hv]
        refine Says.congr (Says.not (indexFunc_ll (Q := fun j => ¬ GridOK V.length m (V.getD j [])) fun j hj => ?_)) ?_
        · simp only [p_impl_isCochain_c1]
          exact Says.not (implGrid _ (by omega))
        · constructor
          · intro h
            exact ⟨hne, hpos, by omega, by omega, hm, fun i hi => Classical.byContradiction fun hc => h ⟨i, hi, hc⟩⟩
          · rintro h ⟨j, hj, hc⟩
            exact hc (h.rows j hj)
      · have ec2 : ((V.length : Int) != s) = true := by simp only [bne_iff_ne, ne_eq]; exact hv
        simp only [ec2, if_true]
        exact ⟨false, rfl, by simp; intro h; have := h.size; omega⟩
    · have ec1 : (decide (m ≥ 1) && decide (m ≤ 1000)) = false := by
        cases hh : (decide (m ≥ 1) && decide (m ≤ 1000)) with
        | false => rfl
        | true => exact absurd (by simpa using hh) hm
      simp only [ec1, Bool.not_false, Bool.true_or, if_true]
      exact ⟨false, rfl, by simp; exact fun h => hm h.mod⟩
  · have ec : (decide (s ≥ 1) && decide (s ≤ 8)) = false := by
      cases hh : (decide (s ≥ 1) && decide (s ≤ 8)) with
      | false => rfl
      | true => exact absurd (by simpa using hh) hs
    simp only [ec, Bool.not_false, if_true, Option.bind_some, Bool.true_or]
    exact ⟨false, rfl, by simp; intro h; exact hs (hs1.2 ⟨h.ne, h.pos, by have := h.size; have := h.small; omega⟩)⟩
end
end Go.VG
