/- All isomorphisms that go on with a beginning, in order. Plain. -/
import Derived.Test.YtopabdbonlnijaaPlIsoFits
set_option linter.all false
namespace Go.VG
section
variable {T S : List (List (List Int))}
def Okk (T S : List (List (List Int))) (p : List Nat) (q : Nat) : Prop := q ∉ p ∧ Fit T S (p ++ [q])
open Classical in
noncomputable def leaves (T S : List (List (List Int))) : Nat → List Nat → List (List Int)
  | 0, p => [castL p]
  | d + 1, p => (List.range T.length).flatMap fun q => if Okk T S p q then leaves T S d (p ++ [q]) else []
open Classical in
noncomputable def br (T S : List (List (List Int))) (d : Nat) (p : List Nat) (q : Nat) : List (List Int) := if Okk T S p q then leaves T S d (p ++ [q]) else []
theorem leaves_succ (d : Nat) (p : List Nat) : leaves T S (d + 1) p = (List.range T.length).flatMap (br T S d p) := rfl
structure Val (T S : List (List (List Int))) (p : List Nat) : Prop where
  beg : Beg T S p
  nodup : p.Nodup
  zero : p.getD 0 0 = 0
  fits : ∀ k, 1 ≤ k → k ≤ p.length → Fit T S (p.take k)
theorem getD_app_l {p q : List Nat} {i : Nat} (h : i < p.length) : (p ++ q).getD i 0 = p.getD i 0 := by
  simp [List.getD, List.getElem?_append_left h]
theorem getD_app_r {p : List Nat} {q : Nat} : (p ++ [q]).getD p.length 0 = q := by
  simp [List.getD]
theorem Beg.app {p : List Nat} (h : Beg T S p) {q : Nat} (hl : p.length < T.length) (hq : q < S.length) : Beg T S (p ++ [q]) :=
  ⟨by simp, by simp; omega, fun i hi => by
    by_cases e : i < p.length
    · rw [getD_app_l e]; exact h.lt i e
    · have : i = p.length := by simp at hi; omega
      subst this
      rw [getD_app_r]; exact hq⟩
theorem Val.app {p : List Nat} (h : Val T S p) {q : Nat} (hl : p.length < T.length) (hq : q < S.length) (ho : Okk T S p q) : Val T S (p ++ [q]) := by
  refine ⟨h.beg.app hl hq, ?_, ?_, fun k h1 h2 => ?_⟩
  · rw [List.nodup_append]
    exact ⟨h.nodup, by simp, fun a ha b hb e => by
      simp only [List.mem_singleton] at hb
      subst hb; subst e; exact ho.1 ha⟩
  · rw [getD_app_l (by have := h.beg.pos; omega)]; exact h.zero
  · by_cases e : k ≤ p.length
    · rw [List.take_append_of_le_length e]; exact h.fits k h1 e
    · rw [List.take_of_length_le (by simp at h2 ⊢; omega)]; exact ho.2
/-- A whole renumbering that goes on with p. -/
structure Full (T S : List (List (List Int))) (p g : List Nat) : Prop where
  val : Val T S g
  len : g.length = T.length
  pre : g.take p.length = p
theorem leaves_full : ∀ (d : Nat) (p : List Nat), T.length = S.length → Val T S p → p.length + d = T.length → ∀ l ∈ leaves T S d p, ∃ g, l = castL g ∧ Full T S p g
  | 0, p, hn, hv, hd, l, hl => by
    simp only [leaves, List.mem_singleton] at hl
    exact ⟨p, hl, hv, by omega, by rw [List.take_of_length_le (Nat.le_refl _)]⟩
  | d + 1, p, hn, hv, hd, l, hl => by
    rw [leaves_succ] at hl
    obtain ⟨q, hq, hl⟩ := List.mem_flatMap.1 hl
    have hq := List.mem_range.1 hq
    unfold br at hl
    split at hl
    · rename_i ho
      obtain ⟨g, e, h1, h2, h3⟩ := leaves_full d (p ++ [q]) hn (hv.app (by omega) (by omega) ho) (by simp; omega) l hl
      refine ⟨g, e, h1, h2, ?_⟩
      have : (g.take (p ++ [q]).length).take p.length = (p ++ [q]).take p.length := by rw [h3]
      rw [List.take_take, List.take_append_of_le_length (Nat.le_refl _), List.take_of_length_le (Nat.le_refl _)] at this
      rw [Nat.min_eq_left (by simp)] at this
      exact this
    · cases hl
theorem take_getD {g p : List Nat} (h : g.take p.length = p) {i : Nat} (hi : i < p.length) : g.getD i 0 = p.getD i 0 := by
  rw [← h]
  simp only [List.getD_eq_getElem?_getD, List.getElem?_take, hi, if_true]
theorem Full.app {p g : List Nat} (h : Full T S p g) (hl : p.length < g.length) : Full T S (p ++ [g.getD p.length 0]) g := by
  refine ⟨h.val, h.len, ?_⟩
  rw [List.length_append, List.length_singleton, List.take_succ_eq_append_getElem hl, h.pre]
  simp [List.getD, List.getElem?_eq_getElem hl]
theorem Full.less {p g : List Nat} {q : Nat} (h : Full T S (p ++ [q]) g) : Full T S p g ∧ g.getD p.length 0 = q := by
  refine ⟨⟨h.val, h.len, ?_⟩, ?_⟩
  · have : (g.take (p ++ [q]).length).take p.length = (p ++ [q]).take p.length := by rw [h.pre]
    rw [List.take_take, List.take_append_of_le_length (Nat.le_refl _), List.take_of_length_le (Nat.le_refl _), Nat.min_eq_left (by simp)] at this
    exact this
  · rw [take_getD h.pre (by simp), getD_app_r]
theorem nodup_perm : ∀ {l l' : List Nat}, l.Nodup → (∀ x ∈ l, x ∈ l') → l.length = l'.length → l.Perm l'
  | [], l', _, _, h => by
    have : l' = [] := List.length_eq_zero_iff.1 h.symm
    subst this; exact List.Perm.refl _
  | a :: l, l', hn, hs, h => by
    have hn' := List.nodup_cons.1 hn
    have ha : a ∈ l' := hs a (by simp)
    refine List.Perm.trans (List.Perm.cons a (nodup_perm hn'.2 (l' := l'.erase a) (fun x hx => ?_) ?_)) (List.perm_cons_erase ha).symm
    · have hne : x ≠ a := fun e => hn'.1 (e ▸ hx)
      exact (List.mem_erase_of_ne hne).2 (hs x (by simp [hx]))
    · rw [List.length_erase_of_mem ha]; simp at h; omega
theorem Full.iso {p g : List Nat} (hn : T.length = S.length) (h : Full T S p g) : Iso T S fun x => g.getD x 0 := by
  have hmap : (List.range T.length).map (fun x => g.getD x 0) = g := by rw [← h.len]; exact map_range_getD g 0
  refine ⟨hn, ?_, fun x y z hx hy hz => ?_⟩
  · rw [hmap]
    have hsub : ∀ x ∈ g, x ∈ List.range T.length := fun x hx => by
      obtain ⟨i, hi, rfl⟩ := mem_getD 0 hx
      exact List.mem_range.2 (by rw [hn]; exact h.val.beg.lt i hi)
    exact nodup_perm h.val.nodup hsub (by simp [h.len])
  · have h1 := h.len
    have hk : Nat.max x (Nat.max y z) + 1 ≤ g.length := by
      have : Nat.max x (Nat.max y z) < T.length := Nat.max_lt.2 ⟨hx, Nat.max_lt.2 ⟨hy, hz⟩⟩
      omega
    have hf := h.val.fits (Nat.max x (Nat.max y z) + 1) (by omega) hk
    have hl : (g.take (Nat.max x (Nat.max y z) + 1)).length = Nat.max x (Nat.max y z) + 1 := by rw [List.length_take, Nat.min_eq_left hk]
    have hmx : x ≤ Nat.max x (Nat.max y z) := Nat.le_max_left _ _
    have hmy : y ≤ Nat.max x (Nat.max y z) := Nat.le_trans (Nat.le_max_left _ _) (Nat.le_max_right _ _)
    have hmz : z ≤ Nat.max x (Nat.max y z) := Nat.le_trans (Nat.le_max_right _ _) (Nat.le_max_right _ _)
    have hgd : ∀ i, i ≤ Nat.max x (Nat.max y z) → (g.take (Nat.max x (Nat.max y z) + 1)).getD i 0 = g.getD i 0 := fun i hi => by
      simp only [List.getD_eq_getElem?_getD, List.getElem?_take, show i < Nat.max x (Nat.max y z) + 1 by omega, if_true]
    have := hf x (by omega) y (by omega) z (by omega) (by
      rw [hl]
      have : Nat.max x (Nat.max y z) = x ∨ Nat.max x (Nat.max y z) = y ∨ Nat.max x (Nat.max y z) = z := by
        simp only [Nat.max_def]; split <;> (try split) <;> simp
      omega)
    rw [hgd x hmx, hgd y hmy, hgd z hmz] at this
    exact this
/-- There are no more than n^d. -/
theorem leaves_len : ∀ (d : Nat) (p : List Nat), (leaves T S d p).length ≤ T.length ^ d
  | 0, p => by simp [leaves]
  | d + 1, p => by
    rw [leaves_succ]
    have : ∀ k, ((List.range k).flatMap (br T S d p)).length ≤ k * T.length ^ d := by
      intro k
      induction k with
      | zero => simp
      | succ k ih =>
        rw [flat_succ, List.length_append, Nat.succ_mul]
        have : (br T S d p k).length ≤ T.length ^ d := by
          unfold br
          split
          · exact leaves_len d _
          · simp
        omega
    have := this T.length
    rw [Nat.pow_succ, Nat.mul_comm]; exact this
end
end Go.VG
