/- Numbers put in order by halves: the answer hangs only on how often each number is there. Plain. -/
import Derived.Test.YtopabdbonlnijaaPlRing2
import Derived.Test.YtopabdbonlnijaaPlLoops
set_option linter.all false
namespace Go.VG
def leI (a b : Int) : Bool := decide (a ≤ b)
theorem leI_trans (a b c : Int) : leI a b = true → leI b c = true → leI a c = true := by
  unfold leI; intro h1 h2
  have := of_decide_eq_true h1; have := of_decide_eq_true h2
  exact decide_eq_true (by omega)
theorem leI_total (a b : Int) : (leI a b || leI b a) = true := by
  unfold leI
  by_cases h : a ≤ b
  · simp [h]
  · simp; omega
def sortI (l : List Int) : List Int := l.mergeSort leI
theorem sortI_perm (l : List Int) : (sortI l).Perm l := List.mergeSort_perm l leI
theorem sortI_pw (l : List Int) : (sortI l).Pairwise (fun a b => leI a b = true) := List.pairwise_mergeSort leI_trans leI_total l
theorem sorted_unique {l r : List Int} (hp : r.Perm l) (hs : r.Pairwise (fun a b => leI a b = true)) : r = sortI l :=
  List.Perm.eq_of_pairwise (fun a b _ _ h1 h2 => by
    have := of_decide_eq_true h1; have := of_decide_eq_true h2
    omega) hs (sortI_pw l) (hp.trans (sortI_perm l).symm)
theorem sortI_congr {l l' : List Int} (h : l.Perm l') : sortI l = sortI l' := sorted_unique ((sortI_perm l).trans h) (sortI_pw l)
theorem sortI_len (l : List Int) : (sortI l).length = l.length := (sortI_perm l).length_eq
theorem drop_getD {l : List Int} {i : Nat} (h : i < l.length) : l.drop i = l.getD i 0 :: l.drop (i + 1) := by
  rw [List.drop_eq_getElem_cons h]
  simp [List.getD, List.getElem?_eq_getElem h]
theorem merge_loop (a b : List Int) (ha : a.length ≤ 1048576) (hb : b.length ≤ 1048576) : ∀ (m i k : Nat) (out : List Int), (a.length - i) + (b.length - k) = m → i ≤ a.length → k ≤ b.length → out.length ≤ 2097152 - m →
    ∃ i' k', iterW (fun s => p_spec_l03Sorted_L1 a b s.1 s.2.1 s.2.2) (m + 1) (out, (i : Int), (k : Int)) = some (.fin (out ++ List.merge (a.drop i) (b.drop k) leI, i', k'))
  | 0, i, k, out, hm, hi, hk, ho => by
    have e1 : i = a.length := by omega
    have e2 : k = b.length := by omega
    refine ⟨(i : Int), (k : Int), ?_⟩
    simp only [iterW, p_spec_l03Sorted_L1]
    rw [e1, e2]
    simp
  | m + 1, i, k, out, hm, hi, hk, ho => by
    have hw : ∀ j : Nat, j ≤ 1048576 → w64 ((j : Int) + 1) = ((j + 1 : Nat) : Int) := fun j hj => by
      rw [w64_small (by omega) (by omega)]; rfl
    have happ : ∀ x : Int, appL out [x] = some (out ++ [x]) := fun x => by simp [appL]; omega
    by_cases hkb : k = b.length
    · have hia : i < a.length := by omega
      obtain ⟨i', k', h⟩ := merge_loop a b ha hb m (i + 1) k (out ++ [a.getD i 0]) (by omega) (by omega) hk (by simp; omega)
      refine ⟨i', k', ?_⟩
      have hstep : p_spec_l03Sorted_L1 a b out (i : Int) (k : Int) = some (.next (out ++ [a.getD i 0], ((i + 1 : Nat) : Int), (k : Int))) := by
        unfold p_spec_l03Sorted_L1
        have h1 : (i : Int) < (a.length : Int) := by omega
        simp only [h1, decide_true, Bool.true_or, if_true, hkb, beq_self_eq_true, Option.bind_some, idx_getD a 0 hia, happ, hw i (by omega)]
      rw [iterW]
      simp only [hstep]
      rw [h]
      congr 3
      rw [drop_getD hia, List.drop_eq_nil_of_le (as := b) (i := k) (by omega)]
      simp
    · have hkb' : k < b.length := by omega
      have hne : ((k : Int) == (b.length : Int)) = false := by simp; omega
      by_cases hia : i < a.length
      · by_cases hle : a.getD i 0 ≤ b.getD k 0
        · obtain ⟨i', k', h⟩ := merge_loop a b ha hb m (i + 1) k (out ++ [a.getD i 0]) (by omega) (by omega) hk (by simp; omega)
          refine ⟨i', k', ?_⟩
          have hstep : p_spec_l03Sorted_L1 a b out (i : Int) (k : Int) = some (.next (out ++ [a.getD i 0], ((i + 1 : Nat) : Int), (k : Int))) := by
            unfold p_spec_l03Sorted_L1
            have h1 : (i : Int) < (a.length : Int) := by omega
            simp only [h1, decide_true, Bool.true_or, if_true, hne, Bool.false_eq_true, if_false, Option.bind_some, idx_getD a 0 hia, idx_getD b 0 hkb', hle, happ, hw i (by omega)]
          rw [iterW]
          simp only [hstep]
          rw [h]
          congr 3
          rw [drop_getD hia, drop_getD hkb', List.merge, if_pos (show leI (a.getD i 0) (b.getD k 0) = true from decide_eq_true hle), List.append_assoc]; rfl
        · obtain ⟨i', k', h⟩ := merge_loop a b ha hb m i (k + 1) (out ++ [b.getD k 0]) (by omega) hi (by omega) (by simp; omega)
          refine ⟨i', k', ?_⟩
          have hstep : p_spec_l03Sorted_L1 a b out (i : Int) (k : Int) = some (.next (out ++ [b.getD k 0], (i : Int), ((k + 1 : Nat) : Int))) := by
            unfold p_spec_l03Sorted_L1
            have h1 : (i : Int) < (a.length : Int) := by omega
            simp only [h1, decide_true, Bool.true_or, if_true, hne, Bool.false_eq_true, if_false, Option.bind_some, idx_getD a 0 hia, idx_getD b 0 hkb', hle, decide_false, happ, hw k (by omega)]
          rw [iterW]
          simp only [hstep]
          rw [h]
          congr 3
          rw [drop_getD hia, drop_getD hkb', List.merge, if_neg (show ¬ leI (a.getD i 0) (b.getD k 0) = true from fun h => hle (of_decide_eq_true h)), List.append_assoc]; rfl
      · obtain ⟨i', k', h⟩ := merge_loop a b ha hb m i (k + 1) (out ++ [b.getD k 0]) (by omega) hi (by omega) (by simp; omega)
        refine ⟨i', k', ?_⟩
        have hstep : p_spec_l03Sorted_L1 a b out (i : Int) (k : Int) = some (.next (out ++ [b.getD k 0], (i : Int), ((k + 1 : Nat) : Int))) := by
          unfold p_spec_l03Sorted_L1
          have h1 : ¬ (i : Int) < (a.length : Int) := by omega
          have h2 : (k : Int) < (b.length : Int) := by omega
          simp only [h1, h2, decide_true, decide_false, Bool.false_or, Bool.or_true, if_true, hne, Bool.false_eq_true, if_false, Option.bind_some, idx_getD b 0 hkb', happ, hw k (by omega)]
        rw [iterW]
        simp only [hstep]
        rw [h]
        congr 3
        rw [List.drop_eq_nil_of_le (as := a) (i := i) (by omega), drop_getD hkb']
        simp
theorem cut_take {α : Type} (l : List α) {k : Nat} (h : k ≤ l.length) : cutL l (0 : Int) (k : Int) = some (l.take k) := by
  unfold cutL
  rw [if_pos ⟨by omega, by omega, by omega⟩, Int.toNat_natCast]
  rfl
theorem cut_drop {α : Type} (l : List α) {k : Nat} (h : k ≤ l.length) : cutL l (k : Int) (l.length : Int) = some (l.drop k) := by
  unfold cutL
  rw [if_pos ⟨by omega, by omega, by omega⟩, Int.toNat_natCast, Int.toNat_natCast, List.take_length]
theorem sorted_F : ∀ (n : Nat) (l : List Int), l.length < n → l.length ≤ 1048576 → p_spec_l03Sorted_F n l = some (sortI l)
  | 0, l, h, _ => by omega
  | n + 1, l, h, hl => by
    show p_spec_l03Sorted_B (p_spec_l03Sorted_F n) l = _
    unfold p_spec_l03Sorted_B
    by_cases h2 : l.length < 2
    · have h2' : ((l.length : Int) < 2) := by omega
      simp only [h2', decide_true, if_true]
      congr 1
      refine sorted_unique (List.Perm.refl _) ?_
      match l, h2 with
      | [], _ => exact List.Pairwise.nil
      | [x], _ => exact List.pairwise_singleton _ _
      | _ :: _ :: _, h2 => simp at h2; omega
    · have h2' : ¬ ((l.length : Int) < 2) := by omega
      have eq : w64 ((l.length : Int).tdiv 2) = ((l.length / 2 : Nat) : Int) := by
        have : (l.length : Int).tdiv 2 = ((l.length / 2 : Nat) : Int) := by
          rw [Int.tdiv_eq_ediv_of_nonneg (by omega)]; omega
        rw [this, w64_small (by omega) (by omega)]
      have hc1 := cut_take l (k := l.length / 2) (by omega)
      have hc2 := cut_drop l (k := l.length / 2) (by omega)
      have r1 := sorted_F n (l.take (l.length / 2)) (by rw [List.length_take]; omega) (by rw [List.length_take]; omega)
      have r2 := sorted_F n (l.drop (l.length / 2)) (by rw [List.length_drop]; omega) (by rw [List.length_drop]; omega)
      simp only [h2', decide_false, Bool.false_eq_true, if_false, eq, hc1, hc2, Option.bind_some, r1, r2]
      obtain ⟨i', k', hm⟩ := merge_loop (sortI (l.take (l.length / 2))) (sortI (l.drop (l.length / 2))) (by rw [sortI_len, List.length_take]; omega) (by rw [sortI_len, List.length_drop]; omega) _ 0 0 [] rfl (Nat.zero_le _) (Nat.zero_le _) (by simp)
      have hw : whileC (fun s => p_spec_l03Sorted_L1 (sortI (l.take (l.length / 2))) (sortI (l.drop (l.length / 2))) s.1 s.2.1 s.2.2) (([] : List Int), (0 : Int), (0 : Int)) = _ := whileC_of hm
      rw [hw]
      simp only [Option.bind_some, onRes, List.nil_append, List.drop_zero]
      congr 1
      refine sorted_unique ?_ (List.pairwise_merge leI_trans leI_total _ _ (sortI_pw _) (sortI_pw _))
      refine (List.merge_perm_append (le := leI)).trans ?_
      refine ((sortI_perm _).append (sortI_perm _)).trans ?_
      rw [List.take_append_drop]
theorem sorted_eq (l : List Int) (h : l.length ≤ 1048576) : p_spec_l03Sorted l = some (sortI l) :=
  sorted_F _ l (by unfold fuelN; omega) h
end Go.VG
