/- Isomorphisms: the code's and the model's, all or the first. Plain. -/
import Derived.Test.YtopabdbonlnijaaPlIsoEach
set_option linter.all false
namespace Go.VG
section
variable {T S : List (List (List Int))} (hT : Cube T) (hS : Cube S) (hn : T.length = S.length)
include hT hS hn
theorem maps_eq (first : Bool) (hlen : first = false → (leaves0 T S).length ≤ 1099511627776) : p_spec_l03Maps T S first = some (sel first (leaves0 T S)) := by
  have h1 := hT.1; have h2 := hS.1
  have hpos : 0 < T.length := by omega
  have hrep : (List.replicate T.length (0 : Int)).length = T.length := List.length_replicate
  have hcol : Col T S [] (List.replicate T.length (0 : Int)) (List.replicate T.length (0 : Int)) := ⟨hrep, hrep, fun g hg x hx => by
    have hz : ∀ i : Nat, (List.replicate T.length (0 : Int)).getD i 0 = 0 := fun i => by
      simp only [List.getD_eq_getElem?_getD, List.getElem?_replicate]
      split <;> rfl
    rw [hz, hz]⟩
  have hkeep := col_set (p := []) (q := 0) hpos hpos hcol
  unfold p_spec_l03Maps
  rw [mkL_some' (0 : Int) (by omega), Option.bind_some, mkL_some' (0 : Int) (by omega), Option.bind_some, idx_zero _ (0 : Int) (by rw [hrep]; omega), Option.bind_some, idx_zero _ (0 : Int) (by rw [List.length_replicate]; omega), Option.bind_some]
  have hS' : List.replicate S.length (0 : Int) = List.replicate T.length (0 : Int) := by rw [hn]
  rw [hS', Int.toNat_zero]
  obtain ⟨r, e, hr1, hr2⟩ := refine_eq hT hS hn (c := (List.replicate T.length (0 : Int)).set 0 60) (d := (List.replicate T.length (0 : Int)).set 0 60) (by rw [List.length_set, hrep]) (by rw [List.length_set, hrep])
  rw [e, Option.bind_some]
  have hbeg : Beg T S [0] := ⟨by simp, by simp; omega, fun i hi => by
    have : i = 0 := by simpa using hi
    subst this
    show 0 < S.length
    omega⟩
  obtain ⟨b, e2, hb⟩ := specFits hT hS hbeg
  have e2' : p_spec_l03Fits T S ([(0 : Int)] : List Int) = some b := e2
  have hnil : leaves0 T S = [] → (some ([] : List (List Int)) : Option (List (List Int))) = some (sel first (leaves0 T S)) := fun h => by
    rw [h]; unfold sel; simp
  by_cases hok : r.2.2 = true
  · simp only [hok, Bool.not_true, Bool.false_eq_true, if_false, e2', Option.bind_some]
    cases b with
    | false =>
      simp only [Bool.not_false, if_true]
      exact hnil (by unfold leaves0; rw [if_neg (fun h => by have := hb.2 h; cases this)])
    | true =>
      have hf := hb.1 rfl
      have hl0 : leaves0 T S = leaves T S (T.length - 1) [0] := by unfold leaves0; rw [if_pos hf]
      have hv := val0 hT hS hf
      simp only [Bool.not_true, Bool.false_eq_true, if_false]
      unfold p_spec_l03Seek
      have h5 := seek_F hT hS hn (T.length - 1) [0] hv (by simp; omega) fuelN (by unfold fuelN; omega) r.1 r.2.1 ⟨(hr1 hok).1, (hr1 hok).2, fun g hg => (hr2 _ (hg.iso hn) (hkeep g hg)).2⟩ first [] (fun _ => rfl) (fun h => by
        have := hlen h
        rw [hl0] at this
        simpa using this)
      have h6 : p_spec_l03Seek_F fuelN T S ([(0 : Int)] : List Int) r.1 r.2.1 first [] = some ([] ++ sel first (leaves T S (T.length - 1) [0])) := h5
      rw [h6, hl0]
      rfl
  · have hok' : r.2.2 = false := by simpa using hok
    simp only [hok', Bool.not_false, if_true, Option.bind_some]
    refine hnil ?_
    refine Classical.byContradiction fun hne => ?_
    by_cases hf : Fit T S [0]
    · have hl0 : leaves0 T S = leaves T S (T.length - 1) [0] := by unfold leaves0; rw [if_pos hf]
      rw [hl0] at hne
      obtain ⟨l, hl⟩ := List.exists_mem_of_ne_nil _ hne
      obtain ⟨g, _, hg⟩ := leaves_full (T.length - 1) [0] hn (val0 hT hS hf) (by simp; omega) l hl
      exact hok (hr2 _ (hg.iso hn) (hkeep g hg)).1
    · exact hne (by unfold leaves0; rw [if_neg hf])
theorem leaf0 : ∀ l ∈ leaves0 T S, l.length = T.length := fun l hl => by
  have h1 := hT.1
  by_cases hf : Fit T S [0]
  · have hl0 : leaves0 T S = leaves T S (T.length - 1) [0] := by unfold leaves0; rw [if_pos hf]
    rw [hl0] at hl
    obtain ⟨g, e, hg⟩ := leaves_full (T.length - 1) [0] hn (val0 hT hS hf) (by simp; omega) l hl
    rw [e, castL_len, hg.len]
  · have hl0 : leaves0 T S = [] := by unfold leaves0; rw [if_neg hf]
    rw [hl0] at hl; cases hl
end
theorem hand_one {p : List Int} (h1 : 1 ≤ p.length) (h2 : p.length ≤ 1048576) : p_impl_RingIsomorphism_c1 p [] = some (true, p) := by
  unfold p_impl_RingIsomorphism_c1
  have h := forN_det (R := Unit) (body := fun k s => p_impl_RingIsomorphism_c1_L1 p k s) (N := p.length) (fun j => p.take j) (fun j hj => by
    simp only [p_impl_RingIsomorphism_c1_L1, idx_getD p 0 hj, Option.bind_some]
    rw [app_ok (by rw [List.length_take]; simp; omega), Option.bind_some, List.take_succ_eq_append_getElem hj]
    have : p.getD j 0 = p[j] := by simp [List.getD, List.getElem?_eq_getElem hj]
    rw [this])
  rw [List.take_zero, List.take_length] at h
  rw [h]
  have he : p.isEmpty = false := by
    cases p with
    | nil => simp at h1
    | cons => rfl
  simp only [Option.bind_some, onRes, he, Bool.false_eq_true, if_false]
theorem run_first {ls : List (List Int)} (h : ∀ l ∈ ls, 1 ≤ l.length ∧ l.length ≤ 1048576) : ∃ b, runL p_impl_RingIsomorphism_c1 ls [] = some (b, ls.headD []) := by
  cases ls with
  | nil => exact ⟨false, rfl⟩
  | cons l ls =>
    have := h l (by simp)
    refine ⟨true, ?_⟩
    simp [runL, hand_one this.1 this.2]
theorem run_count : ∀ (ls : List (List Int)) (s : Int), 0 ≤ s → s + ls.length ≤ 1099511627776 → runL p_impl_CountRingAutomorphisms_c1 ls s = some (false, s + ls.length)
  | [], s, _, _ => by simp [runL]
  | l :: ls, s, h0, h1 => by
    simp only [List.length_cons] at h1
    have hw : w64 (s + 1) = s + 1 := w64_small (by omega) (by omega)
    simp only [runL, p_impl_CountRingAutomorphisms_c1, Option.bind_some, Bool.false_eq_true, if_false, hw]
    rw [run_count ls (s + 1) (by omega) (by omega)]
    simp only [List.length_cons]
    congr 2; omega
theorem iso_eq (T S : List (List (List Int))) : ∃ r, p_spec_RingIsomorphism T S = some r ∧ p_impl_RingIsomorphism T S = some r ∧ r.1.length ≤ 16 := by
  unfold p_spec_RingIsomorphism p_impl_RingIsomorphism
  obtain ⟨b, e1, hb⟩ := specIs (T := T)
  have e2 : p_impl_IsRing T = some b := by rw [← e1]; exact implIs.eq specIs
  obtain ⟨b', e1', hb'⟩ := specIs (T := S)
  have e2' : p_impl_IsRing S = some b' := by rw [← e1']; exact implIs.eq specIs
  rw [e1, e2, e1', e2']
  simp only [Option.bind_some]
  cases b
  · exact ⟨([], 1), rfl, rfl, by simp⟩
  · cases b'
    · exact ⟨([], 1), rfl, rfl, by simp⟩
    · have hT := (hb.1 rfl).cube
      have hS := (hb'.1 rfl).cube
      have h1 := hT.1
      simp only [Bool.not_true, Bool.false_eq_true, if_false, Option.bind_some]
      by_cases hn : T.length = S.length
      · have e3 : ((T.length : Int) == (S.length : Int)) = true := by rw [beq_iff_eq]; omega
        obtain ⟨b2, hrun⟩ := run_first (ls := leaves0 T S) (fun l hl => by have := leaf0 hT hS hn l hl; omega)
        simp only [e3, if_true, maps_eq hT hS hn true (fun h => by cases h), each_eq hT hS hn hrun, Option.bind_some]
        cases hl : leaves0 T S with
        | nil =>
          have e4 : sel true ([] : List (List Int)) = [] := rfl
          simp only [e4, List.headD_nil]
          exact ⟨([], 4), rfl, rfl, by simp⟩
        | cons l ls =>
          have e4 : sel true (l :: ls) = [l] := rfl
          have hlen := leaf0 hT hS hn l (by rw [hl]; simp)
          have he : l.isEmpty = false := by
            cases l with
            | nil => simp at hlen; omega
            | cons => rfl
          simp only [e4, List.headD_cons, he, Bool.false_eq_true, if_false]
          refine ⟨(l, 0), ?_, rfl, by simp; omega⟩
          rfl
      · have e3 : ((T.length : Int) == (S.length : Int)) = false := by rw [beq_eq_false_iff_ne]; omega
        simp only [e3, Bool.false_eq_true, if_false, Option.bind_some]
        exact ⟨([], 4), rfl, rfl, by simp⟩
theorem leaves0_len {T S : List (List (List Int))} (h : T.length ≤ 7) : (leaves0 T S).length ≤ 1048576 := by
  unfold leaves0
  split
  · have h1 := leaves_len (T := T) (S := S) (T.length - 1) [0]
    have h2 : T.length ^ (T.length - 1) ≤ 7 ^ (T.length - 1) := Nat.pow_le_pow_left h _
    have h3 : 7 ^ (T.length - 1) ≤ 7 ^ 6 := Nat.pow_le_pow_right (by omega) (by omega)
    have h4 : (7 : Nat) ^ 6 = 117649 := by decide
    omega
  · simp
theorem count_eq (T : List (List (List Int))) : ∃ r, p_spec_CountRingAutomorphisms T = some r ∧ p_impl_CountRingAutomorphisms T = some r := by
  unfold p_spec_CountRingAutomorphisms p_impl_CountRingAutomorphisms p_impl_formCode
  obtain ⟨b, e1, hb⟩ := specIs (T := T)
  have e2 : p_impl_IsRing T = some b := by rw [← e1]; exact implIs.eq specIs
  rw [e1, e2]
  simp only [Option.bind_some]
  cases b
  · exact ⟨(0, 1), rfl, rfl⟩
  · have hT := (hb.1 rfl).cube
    by_cases hlt : T.length ≤ 7
    · have hd : ¬ ((T.length : Int) > 7) := by omega
      have hl := leaves0_len (S := T) hlt
      have hrun := run_count (leaves0 T T) 0 (by omega) (by omega)
      simp only [Bool.not_true, Bool.false_eq_true, if_false, hd, decide_false, Option.bind_some, bne_self_eq_false, maps_eq hT hT rfl false (fun _ => by omega), each_eq hT hT rfl hrun]
      refine ⟨(((leaves0 T T).length : Int), 0), ?_, ?_⟩
      · simp [sel]
      · simp
    · have hd : (T.length : Int) > 7 := by omega
      simp only [Bool.not_true, Bool.false_eq_true, if_false, hd, decide_true, if_true, Option.bind_some]
      exact ⟨(0, 3), rfl, rfl⟩
end Go.VG
