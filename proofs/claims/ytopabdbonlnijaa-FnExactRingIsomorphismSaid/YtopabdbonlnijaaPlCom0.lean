/- The plain laws of the laws' own helpers: sizes, copies, comparisons. No condition but lengths. -/
import Derived.Test.YtopabdbonlnijaaGPure
import Derived.Test.YtopabdbonlnijaaVgPl
import Derived.Test.YtopabdbonlnijaaVgRow
set_option linter.all false
namespace Go.VG

theorem w64_small {x : Int} (h1 : -9223372036854775808 ≤ x) (h2 : x ≤ 9223372036854775807) : w64 x = x := w64_id (inR_i64.2 ⟨h1, h2⟩)

/-- A size that fits: what is left, and that the lists are short. -/
def Sz1 (a : List Int) (left r : Int) : Prop := r ≤ left ∧ (0 ≤ r → (a.length : Int) ≤ left)
def Sz2 (a : List (List Int)) (left r : Int) : Prop := r ≤ left ∧ (0 ≤ r → (a.length : Int) ≤ left ∧ ∀ x ∈ a, (x.length : Int) ≤ left)
def Sz3 (a : List (List (List Int))) (left r : Int) : Prop := r ≤ left ∧ (0 ≤ r → (a.length : Int) ≤ left ∧ ∀ x ∈ a, (x.length : Int) ≤ left ∧ ∀ y ∈ x, (y.length : Int) ≤ left)

theorem szInt64S_spec (a : List Int) (left : Int) (h0 : 0 ≤ left) (h1 : left ≤ 1048576) (ha : a.length ≤ maxLen) : ∃ r, p_laws_szInt64S a left = some r ∧ -1 ≤ r ∧ Sz1 a left r := by
  unfold p_laws_szInt64S
  simp only [maxLen] at ha
  rw [w64_small (by omega) (by omega)]
  by_cases h : left - (a.length : Int) < 0
  · exact ⟨-1, by simp [h], by omega, by omega, fun h => by omega⟩
  · exact ⟨left - (a.length : Int), by simp [h], by omega, by omega, fun h => by omega⟩

theorem getD_mem {α : Type} {l : List α} {d : α} {i : Nat} (h : i < l.length) : l.getD i d ∈ l := by
  have : l.getD i d = l[i] := by simp [List.getD, List.getElem?_eq_getElem h]
  rw [this]; exact List.getElem_mem h
theorem mem_getD {α : Type} {l : List α} {x : α} (d : α) (h : x ∈ l) : ∃ i, i < l.length ∧ l.getD i d = x := by
  obtain ⟨i, hi, e⟩ := List.mem_iff_getElem.1 h
  exact ⟨i, hi, by simp [List.getElem?_eq_getElem hi, e]⟩

/-- A loop that subtracts sizes. -/
theorem sz_loop {α : Type} {body : Nat → Int → Option (Ctl Int Int)} {l : List α} (d : α) (Q : α → Int → Prop) (hmono : ∀ x a b, a ≤ b → Q x a → Q x b) (left : Int) (h0 : 0 ≤ left)
    (hb : ∀ j s, j < l.length → 0 ≤ s → s ≤ left → ∃ r, -1 ≤ r ∧ r ≤ s ∧ (0 ≤ r → Q (l.getD j d) s) ∧ body j s = some (if decide (r < 0) = true then .ret (-1) else .next r)) :
    ∃ r, (forN body l.length 0 left).bind (fun res => onRes res (fun r => some r) fun x => some x) = some r ∧ -1 ≤ r ∧ r ≤ left ∧ (0 ≤ r → ∀ x ∈ l, Q x left) := by
  have key : ∀ (c k : Nat) (s : Int), k + c = l.length → 0 ≤ s → s ≤ left → (∀ i, i < k → Q (l.getD i d) left) →
      (∃ r, forN body c k s = some (.fin r) ∧ 0 ≤ r ∧ r ≤ left ∧ ∀ i, i < l.length → Q (l.getD i d) left) ∨ forN body c k s = some (.ret (-1)) := by
    intro c
    induction c with
    | zero => intro k s hk hs hl hq; exact .inl ⟨s, rfl, hs, hl, fun i hi => hq i (by omega)⟩
    | succ c ih =>
      intro k s hk hs hl hq
      obtain ⟨r, h1, h2, h3, h4⟩ := hb k s (by omega) hs hl
      simp only [forN, h4]
      by_cases hr : r < 0
      · right; simp [hr]
      · simp only [hr, decide_false, Bool.false_eq_true, if_false]
        refine ih (k + 1) r (by omega) (by omega) (by omega) fun i hi => ?_
        rcases Nat.lt_or_eq_of_le (Nat.le_of_lt_succ hi) with h | h
        · exact hq i h
        · subst h; exact hmono _ _ _ hl (h3 (by omega))
  rcases key l.length 0 left (by omega) h0 (Int.le_refl _) (fun i hi => by omega) with ⟨r, h1, h2, h3, h4⟩ | h1
  · refine ⟨r, by rw [h1]; rfl, by omega, h3, fun _ x hx => ?_⟩
    obtain ⟨i, hi, rfl⟩ := mem_getD d hx
    exact h4 i hi
  · exact ⟨-1, by rw [h1]; rfl, by omega, by omega, fun h => by omega⟩

theorem szInt64SS_spec (a : List (List Int)) (left : Int) (h0 : 0 ≤ left) (h1 : left ≤ 1048576) (ha : a.length ≤ maxLen) (hx : ∀ x ∈ a, x.length ≤ maxLen) : ∃ r, p_laws_szInt64SS a left = some r ∧ -1 ≤ r ∧ Sz2 a left r := by
  unfold p_laws_szInt64SS
  simp only [maxLen] at ha
  rw [w64_small (by omega) (by omega)]
  by_cases h : left - (a.length : Int) < 0
  · exact ⟨-1, by simp [h], by omega, by omega, fun h => by omega⟩
  · simp only [h, decide_false, Bool.false_eq_true, if_false]
    obtain ⟨r, e1, e2, e3, e4⟩ := sz_loop (body := fun k s => p_laws_szInt64SS_L1 a k s) (l := a) [] (fun x s => (x.length : Int) ≤ s) (fun x a b h1 h2 => Int.le_trans h2 h1) (left - a.length) (by omega) (fun j s hj hs hl => by
      obtain ⟨r, g1, g2, g3, g4⟩ := szInt64S_spec (a.getD j []) s hs (by omega) (hx _ (getD_mem hj))
      refine ⟨r, g2, g3, g4, ?_⟩
      simp only [p_laws_szInt64SS_L1, idx_getD a [] hj, Option.bind_some, g1]
      split <;> rfl)
    exact ⟨r, e1, e2, by omega, fun h => ⟨by omega, fun x hx => by have := e4 h x hx; omega⟩⟩

theorem szInt64SSS_spec (a : List (List (List Int))) (left : Int) (h0 : 0 ≤ left) (h1 : left ≤ 1048576) (ha : a.length ≤ maxLen) (hx : ∀ x ∈ a, x.length ≤ maxLen ∧ ∀ y ∈ x, y.length ≤ maxLen) : ∃ r, p_laws_szInt64SSS a left = some r ∧ -1 ≤ r ∧ Sz3 a left r := by
  unfold p_laws_szInt64SSS
  simp only [maxLen] at ha
  rw [w64_small (by omega) (by omega)]
  by_cases h : left - (a.length : Int) < 0
  · exact ⟨-1, by simp [h], by omega, by omega, fun h => by omega⟩
  · simp only [h, decide_false, Bool.false_eq_true, if_false]
    obtain ⟨r, e1, e2, e3, e4⟩ := sz_loop (body := fun k s => p_laws_szInt64SSS_L1 a k s) (l := a) [] (fun x s => (x.length : Int) ≤ s ∧ ∀ y ∈ x, (y.length : Int) ≤ s) (fun x a b h1 h2 => ⟨Int.le_trans h2.1 h1, fun y hy => Int.le_trans (h2.2 y hy) h1⟩) (left - a.length) (by omega) (fun j s hj hs hl => by
      obtain ⟨r, g1, g2, g3, g4⟩ := szInt64SS_spec (a.getD j []) s hs (by omega) (hx _ (getD_mem hj)).1 (hx _ (getD_mem hj)).2
      refine ⟨r, g2, g3, g4, ?_⟩
      simp only [p_laws_szInt64SSS_L1, idx_getD a [] hj, Option.bind_some, g1]
      split <;> rfl)
    exact ⟨r, e1, e2, by omega, fun h => ⟨by omega, fun x hx => by have := e4 h x hx; exact ⟨by omega, fun y hy => by have := this.2 y hy; omega⟩⟩⟩

theorem mkL_some' {α : Type} {m : Nat} (z : α) (h : (m : Int) ≤ 1048576) : mkL (m : Int) z = some (List.replicate m z) := by
  simp [mkL]; omega

theorem toInt64S_eq (a : List Int) (h : (a.length : Int) ≤ 1048576) : p_laws_toInt64S a = some a := by
  unfold p_laws_toInt64S
  rw [mkL_some' _ h]
  simp only [Option.bind_some]
  rw [forN_fill (0 : Int) (fun i => a.getD i 0) (fun j l hj hl => by
    simp only [p_laws_toInt64S_L1, idx_getD a 0 hj, idx_getD l 0 (by omega : j < l.length), Option.bind_some, Int.toNat_natCast])]
  show some _ = some a
  rw [map_range_getD]
theorem toInt64SS_eq (a : List (List Int)) (h : (a.length : Int) ≤ 1048576) (hx : ∀ x ∈ a, (x.length : Int) ≤ 1048576) : p_laws_toInt64SS a = some a := by
  unfold p_laws_toInt64SS
  rw [mkL_some' _ h]
  simp only [Option.bind_some]
  rw [forN_fill [] (fun i => a.getD i []) (fun j l hj hl => by
    simp only [p_laws_toInt64SS_L1, idx_getD a [] hj, idx_getD l [] (by omega : j < l.length), Option.bind_some, toInt64S_eq _ (hx _ (getD_mem hj)), Int.toNat_natCast])]
  show some _ = some a
  rw [map_range_getD]
theorem toInt64SSS_eq (a : List (List (List Int))) (h : (a.length : Int) ≤ 1048576) (hx : ∀ x ∈ a, (x.length : Int) ≤ 1048576 ∧ ∀ y ∈ x, (y.length : Int) ≤ 1048576) : p_laws_toInt64SSS a = some a := by
  unfold p_laws_toInt64SSS
  rw [mkL_some' _ h]
  simp only [Option.bind_some]
  rw [forN_fill [] (fun i => a.getD i []) (fun j l hj hl => by
    simp only [p_laws_toInt64SSS_L1, idx_getD a [] hj, idx_getD l [] (by omega : j < l.length), Option.bind_some, toInt64SS_eq _ (hx _ (getD_mem hj)).1 (hx _ (getD_mem hj)).2, Int.toNat_natCast])]
  show some _ = some a
  rw [map_range_getD]
/-! ### Comparisons -/

theorem eqS_says (a b : List Int) : Says (p_laws_eqInt64S a b) (a = b) := by
  unfold p_laws_eqInt64S
  by_cases hl : a.length = b.length
  · have : ((a.length : Int) != (b.length : Int)) = false := by simp [hl]
    rw [this]
    simp only [Bool.false_eq_true, if_false]
    refine (Chk.says (forN_chk (P := fun j => a.getD j 0 = b.getD j 0) fun j hj _ => ?_)).congr ?_
    · simp only [p_laws_eqInt64S_L1, idx_getD a 0 hj, idx_getD b 0 (by omega : j < b.length), Option.bind_some]
      exact ChkC.congr (ChkC.ite rfl) (by simp)
    · constructor
      · intro h
        apply List.ext_getElem hl
        intro i h1 h2
        have := h i h1
        simpa [List.getD, List.getElem?_eq_getElem h1, List.getElem?_eq_getElem h2] using this
      · rintro rfl j _; rfl
  · have : ((a.length : Int) != (b.length : Int)) = true := by simp; omega
    rw [this]
    exact ⟨false, by simp, by simp; intro h; exact hl (by rw [h])⟩
theorem eqSS_says (a b : List (List Int)) : Says (p_laws_eqInt64SS a b) (a = b) := by
  unfold p_laws_eqInt64SS
  by_cases hl : a.length = b.length
  · have : ((a.length : Int) != (b.length : Int)) = false := by simp [hl]
    rw [this]
    simp only [Bool.false_eq_true, if_false]
    refine (Chk.says (forN_chk (P := fun j => a.getD j [] = b.getD j []) fun j hj _ => ?_)).congr ?_
    · simp only [p_laws_eqInt64SS_L1, idx_getD a [] hj, idx_getD b [] (by omega : j < b.length), Option.bind_some]
      obtain ⟨c, h1, h2⟩ := eqS_says (a.getD j []) (b.getD j [])
      rw [h1]
      simp only [Option.bind_some]
      exact ChkC.congr (ChkC.ite rfl) (by rw [← h2]; simp)
    · constructor
      · intro h
        apply List.ext_getElem hl
        intro i h1 h2
        have := h i h1
        simpa [List.getD, List.getElem?_eq_getElem h1, List.getElem?_eq_getElem h2] using this
      · rintro rfl j _; rfl
  · have : ((a.length : Int) != (b.length : Int)) = true := by simp; omega
    rw [this]
    exact ⟨false, by simp, by simp; intro h; exact hl (by rw [h])⟩
theorem eqSSS_says (a b : List (List (List Int))) : Says (p_laws_eqInt64SSS a b) (a = b) := by
  unfold p_laws_eqInt64SSS
  by_cases hl : a.length = b.length
  · have : ((a.length : Int) != (b.length : Int)) = false := by simp [hl]
    rw [this]
    simp only [Bool.false_eq_true, if_false]
    refine (Chk.says (forN_chk (P := fun j => a.getD j [] = b.getD j []) fun j hj _ => ?_)).congr ?_
    · simp only [p_laws_eqInt64SSS_L1, idx_getD a [] hj, idx_getD b [] (by omega : j < b.length), Option.bind_some]
      obtain ⟨c, h1, h2⟩ := eqSS_says (a.getD j []) (b.getD j [])
      rw [h1]
      simp only [Option.bind_some]
      exact ChkC.congr (ChkC.ite rfl) (by rw [← h2]; simp)
    · constructor
      · intro h
        apply List.ext_getElem hl
        intro i h1 h2
        have := h i h1
        simpa [List.getD, List.getElem?_eq_getElem h1, List.getElem?_eq_getElem h2] using this
      · rintro rfl j _; rfl
  · have : ((a.length : Int) != (b.length : Int)) = true := by simp; omega
    rw [this]
    exact ⟨false, by simp, by simp; intro h; exact hl (by rw [h])⟩
theorem Says.refl_true {α : Type} {a : α} {o : Option Bool} (h : Says o (a = a)) : o = some true := by
  obtain ⟨b, h1, h2⟩ := h
  rw [h1, h2.2 rfl]
theorem eqS_self (a : List Int) : p_laws_eqInt64S a a = some true := (eqS_says a a).refl_true
theorem eqSS_self (a : List (List Int)) : p_laws_eqInt64SS a a = some true := (eqSS_says a a).refl_true
theorem eqSSS_self (a : List (List (List Int))) : p_laws_eqInt64SSS a a = some true := (eqSSS_says a a).refl_true
end Go.VG
