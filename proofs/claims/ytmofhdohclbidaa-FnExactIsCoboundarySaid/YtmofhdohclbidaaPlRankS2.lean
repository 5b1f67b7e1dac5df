/- The model's rank modulo a small prime, all rows. Plain. -/
import Derived.Test.YtmofhdohclbidaaPlRankS
set_option linter.all false
namespace Go.VG
section
variable {p : Int} {m : Nat}
theorem Sp.mono {a : Nat → Nat → Int} {n : Nat} {v : Nat → Int} (h : Sp p m a n v) : Sp p m a (n + 1) v := Sp.trans (fun k hk => Sp.base (by omega)) h
theorem getD_app_lt {α : Type} (l : List α) (x d : α) {k : Nat} (h : k < l.length) : (l ++ [x]).getD k d = l.getD k d := by
  simp [List.getD_eq_getElem?_getD, List.getElem?_append_left h]
theorem getD_app_eq {α : Type} (l : List α) (x d : α) : (l ++ [x]).getD l.length d = x := by
  simp [List.getD_eq_getElem?_getD]
theorem rep_getD (n i : Nat) : (List.replicate n (0 : Int)).getD i 0 = 0 := by
  rw [List.getD_eq_getElem?_getD, List.getElem?_replicate]; split <;> rfl
theorem own_ok {l : List Int} (h : l.length ≤ 1048576) : p_spec_l01Own l = some l := by
  unfold p_spec_l01Own appL
  rw [if_pos (by simp; omega)]
  rfl
theorem specRank (hp : P4 p) (hm : m ≤ 1048576) {L : List (List Int)} (hN : L.length ≤ 1048576) (hl : ∀ j, j < L.length → Row p m (L.getD j [])) :
    ∃ (r : Nat) (b : Nat → Nat → Int) (piv : Nat → Nat), p_spec_l17Rank p L = some (r : Int) ∧ Ech p m (rv L) L.length b r piv := by
  have hp2 : 2 ≤ p ∧ p ≤ 7 := by unfold P4 at hp; omega
  obtain ⟨s, e, R, q, hs, hR, hr, hin, hon⟩ := forN_inv (R := Unit) (body := fun k s => p_spec_l17Rank_L1 L p k s.1 s.2) (N := L.length) (s := (([] : List (List Int)), ([] : List Int))) (fun i s => ∃ R q, s = (R, vecG (fun k => ((q k : Nat) : Int)) R.length) ∧ RI p m R q ∧ R.length ≤ i ∧ (∀ k, k < R.length → Sp p m (rv L) i (rv R k)) ∧ (∀ j, j < i → Sp p m (rv R) R.length (rv L j)))
    ⟨[], fun _ => 0, rfl, ⟨fun k hk => by simp at hk, fun k hk => by simp at hk, fun k hk => by simp at hk, fun k hk => by simp at hk⟩, by simp, fun k hk => by simp at hk, fun j hj => by omega⟩
    (fun i s hi ⟨R, q, hs, hR, hr, hin, hon⟩ => by
      subst hs
      have hrow := hl i hi
      have e0 : idx L (i : Int) = some (L.getD i []) := idx_getD L [] hi
      have e1 : p_spec_l01Own (L.getD i []) = some (L.getD i []) := by
        exact own_ok (by rw [hrow.1]; exact hm)
      obtain ⟨l', e2, g1, g2, g3⟩ := reduce_ok hp hm hR hrow
      obtain ⟨c, e3, c1, c2, c3⟩ := first_ok g1.1 hm
      simp only [p_spec_l17Rank_L1, e0, e1, Option.bind_some, e2, onRes, e3, g1.1]
      have hin' : ∀ k, k < R.length → Sp p m (rv L) (i + 1) (rv R k) := fun k hk => (hin k hk).mono
      have hl'in : Sp p m (rv L) (i + 1) (fun j => l'.getD j 0) := by
        refine ((Sp.base (b := rv L) (k := i) (r := i + 1) (by omega)).comb (-1) (Sp.trans hin' g3)).congr fun j hj => ?_
        have : l'.getD j 0 - (rv L i j + -1 * ((L.getD i []).getD j 0 - l'.getD j 0)) = 0 := by
          unfold rv; omega
        rw [this]; exact Int.dvd_zero p
      by_cases hc : c = m
      · subst hc
        have b1 : (((c : Nat) : Int) == (c : Int)) = true := beq_self_eq_true _
        rw [b1]
        refine ⟨_, rfl, R, q, rfl, hR, by omega, hin', fun j hj => ?_⟩
        by_cases hji : j < i
        · exact hon j hji
        · have : j = i := by omega
          subst this
          refine g3.congr fun k hk => ?_
          have : rv L j k - ((L.getD j []).getD k 0 - l'.getD k 0) = 0 := by
            rw [c2 k hk]; unfold rv; omega
          rw [this]; exact Int.dvd_zero p
      · have hcm : c < m := by omega
        have b1 : (((c : Nat) : Int) == (m : Int)) = false := beq_eq_false_iff_ne.2 (by omega)
        obtain ⟨v, e4, v1, v2, v3⟩ := inv_ok hp g1 hcm (c3 hcm)
        have hz : Row p m (List.replicate m (0 : Int)) := ⟨List.length_replicate, fun j hj => by rw [rep_getD]; omega⟩
        have hw : w64 (p - v) = p - v := w64_small (by omega) (by omega)
        have e5 := less_ok hp hm hz g1 (k := p - v) (by omega)
        have ex : vecG (fun j => ((List.replicate m (0 : Int)).getD j 0 + (p - (p - v)) * l'.getD j 0) % p) m = vecG (fun j => (v * l'.getD j 0) % p) m := vecG_congr fun j hj => by
          rw [rep_getD, Int.zero_add, show p - (p - v) = v by omega]
        rw [ex] at e5
        have e6 : mkL (m : Int) (0 : Int) = some (List.replicate m 0) := mkL_some' 0 (by omega)
        have a1 : ∀ x : List Int, appL R [x] = some (R ++ [x]) := fun x => by simp [appL]; omega
        have a2 : appL (vecG (fun k => ((q k : Nat) : Int)) R.length) [(c : Int)] = some (vecG (fun k => ((q k : Nat) : Int)) R.length ++ [(c : Int)]) := by
          simp [appL, vecG_len]; omega
        simp only [b1, Bool.false_eq_true, if_false, e4, Option.bind_some, onRes, e6, hw, e5, a1, a2]
        obtain ⟨nw, hnw⟩ : ∃ nw, nw = vecG (fun j => (v * l'.getD j 0) % p) m := ⟨_, rfl⟩
        have hnrow : Row p m nw := by rw [hnw]; exact row_vec hp _
        have hnat : ∀ j, j < m → nw.getD j 0 = (v * l'.getD j 0) % p := fun j hj => by rw [hnw, vecG_getD hj]
        rw [← hnw]
        have hlen : (R ++ [nw]).length = R.length + 1 := by simp
        have hold : ∀ k, k < R.length → rv (R ++ [nw]) k = rv R k := fun k hk => by
          unfold rv; rw [getD_app_lt R nw [] hk]
        have hnew : rv (R ++ [nw]) R.length = fun j => nw.getD j 0 := by
          unfold rv; rw [getD_app_eq R nw []]
        have hsplit : ∀ k, k < (R ++ [nw]).length → k < R.length ∨ k = R.length := fun k hk => by rw [hlen] at hk; omega
        refine ⟨_, rfl, R ++ [nw], fun k => if k = R.length then c else q k, ?_, ⟨fun k hk => ?_, fun k hk => ?_, fun k hk => ?_, fun k hk l hlk => ?_⟩, by rw [hlen]; omega, fun k hk => ?_, fun j hj => ?_⟩
        · congr 1
          rw [hlen]
          unfold vecG
          rw [List.range_succ, List.map_append]
          congr 1
          · refine List.map_congr_left fun k hk => ?_
            have : k < R.length := List.mem_range.1 hk
            show ((q k : Nat) : Int) = ((if k = R.length then c else q k : Nat) : Int)
            rw [if_neg (by omega)]
          · simp
        · rcases hsplit k hk with h | h
          · rw [getD_app_lt R nw [] h]; exact hR.row k h
          · rw [h, getD_app_eq R nw []]; exact hnrow
        · rcases hsplit k hk with h | h
          · rw [hold k h]; simp only [if_neg (by omega : ¬ k = R.length)]; exact hR.lead k h
          · subst h
            simp only [if_true]
            rw [hnew]
            refine ⟨hcm, fun j hj => ?_, fun hd => ?_⟩
            · simp only []
              rw [hnat j (by omega), c2 j hj, Int.mul_zero]; exact Int.dvd_zero p
            · simp only [] at hd
              rw [hnat c hcm, v3] at hd
              have := Int.le_of_dvd (by decide) hd
              omega
        · rcases hsplit k hk with h | h
          · rw [hold k h]; simp only [if_neg (by omega : ¬ k = R.length)]; exact hR.one k h
          · subst h
            simp only [if_true]
            rw [hnew]
            simp only []
            rw [hnat c hcm, v3]
        · have hl2 : l < R.length := by rw [hlen] at hk; omega
          simp only [if_neg (by omega : ¬ l = R.length)]
          rcases hsplit k hk with h | h
          · rw [hold k h]; exact hR.low k h l hlk
          · subst h
            rw [hnew]
            simp only []
            rw [hnat _ (hR.lead l hl2).1, g2 l hl2, Int.mul_zero]; rfl
        · rcases hsplit k hk with h | h
          · rw [hold k h]; exact hin' k h
          · subst h
            rw [hnew]
            refine ((Sp.zero (v := fun _ => 0) fun _ _ => Int.dvd_zero p).comb v hl'in).congr fun j hj => ?_
            rw [hnat j hj, Int.zero_add]; exact emod_sub _ p
        · have up : ∀ k, k < R.length → Sp p m (rv (R ++ [nw])) (R ++ [nw]).length (rv R k) := fun k hk => by
            rw [← hold k hk]; exact Sp.base (by rw [hlen]; omega)
          by_cases hji : j < i
          · exact Sp.trans up (hon j hji)
          · have : j = i := by omega
            subst this
            have hl2 : Sp p m (rv (R ++ [nw])) (R ++ [nw]).length (fun k => l'.getD k 0) := by
              refine ((Sp.zero (v := fun _ => 0) fun _ _ => Int.dvd_zero p).comb (l'.getD c 0) (Sp.base (b := rv (R ++ [nw])) (k := R.length) (r := (R ++ [nw]).length) (by rw [hlen]; omega))).congr fun k hk => ?_
              rw [hnew]
              simp only []
              rw [Int.zero_add]
              have d1 : p ∣ nw.getD k 0 - v * l'.getD k 0 := by rw [hnat k hk]; exact emod_sub _ p
              have d2 : p ∣ l'.getD c 0 * v - 1 := by
                have := emod_sub (v * l'.getD c 0) p
                rw [v3, Int.mul_comm] at this
                have h2 := Int.dvd_neg.2 this
                have e : -(1 - l'.getD c 0 * v) = l'.getD c 0 * v - 1 := by omega
                rwa [e] at h2
              have d3 := Int.dvd_sub (Int.dvd_neg.2 (Int.dvd_mul_of_dvd_right d1 : p ∣ l'.getD c 0 * (nw.getD k 0 - v * l'.getD k 0))) (Int.dvd_mul_of_dvd_left d2 : p ∣ (l'.getD c 0 * v - 1) * l'.getD k 0)
              have e : -(l'.getD c 0 * (nw.getD k 0 - v * l'.getD k 0)) - (l'.getD c 0 * v - 1) * l'.getD k 0 = l'.getD k 0 - l'.getD c 0 * nw.getD k 0 := by
                rw [Int.mul_sub, Int.sub_mul, Int.one_mul, Int.mul_assoc]; omega
              rwa [e] at d3
            refine ((Sp.trans up g3).comb 1 hl2).congr fun k hk => ?_
            have : rv L j k - ((L.getD j []).getD k 0 - l'.getD k 0 + 1 * l'.getD k 0) = 0 := by unfold rv; omega
            rw [this]; exact Int.dvd_zero p)
  refine ⟨R.length, rv R, q, ?_, hR.lead, fun k l hk hl' hkl => ?_, hin, hon⟩
  · unfold p_spec_l17Rank
    rw [e]
    simp only [Option.bind_some, onRes, hs]
  · rcases Nat.lt_trichotomy k l with h | h | h
    · have := hR.low l hl' k h
      rw [hkl, hR.one l hl'] at this; omega
    · exact h
    · have := hR.low k hk l h
      rw [← hkl, hR.one k hk] at this; omega
end
end Go.VG
