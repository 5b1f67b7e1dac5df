/- Marks become colours, and whether both halves have the same. Plain. -/
import Derived.Test.YtopabdbonlnijaaPlIsoKinds
set_option linter.all false
namespace Go.VG
def posOf (m : List Int) : List (List Int) → Nat
  | [] => 0
  | k :: ks => if k = m then 0 else posOf m ks + 1
theorem posOf_lt {m : List Int} : ∀ {ks : List (List Int)}, m ∈ ks → posOf m ks < ks.length
  | [], h => by cases h
  | k :: ks, h => by
    unfold posOf
    split
    · simp
    · rename_i hn
      rcases List.mem_cons.1 h with rfl | h
      · exact absurd rfl hn
      · have := posOf_lt h; simp; omega
theorem posOf_getD {m : List Int} : ∀ {ks : List (List Int)}, m ∈ ks → ks.getD (posOf m ks) [] = m
  | [], h => by cases h
  | k :: ks, h => by
    unfold posOf
    split
    · rename_i e; simpa using e
    · rename_i hn
      rcases List.mem_cons.1 h with rfl | h
      · exact absurd rfl hn
      · simpa using posOf_getD h
theorem posOf_ne {m : List Int} : ∀ {ks : List (List Int)} {i : Nat}, i < posOf m ks → i < ks.length ∧ ks.getD i [] ≠ m
  | [], i, h => by simp [posOf] at h
  | k :: ks, i, h => by
    unfold posOf at h
    split at h
    · omega
    · rename_i hn
      cases i with
      | zero => exact ⟨by simp, by simpa using hn⟩
      | succ i =>
        have := posOf_ne (ks := ks) (i := i) (m := m) (by omega)
        exact ⟨by simp; omega, by simpa using this.2⟩
theorem posOf_self : ∀ {ks : List (List Int)} {j : Nat}, ks.Nodup → j < ks.length → posOf (ks.getD j []) ks = j
  | [], j, _, h => by simp at h
  | k :: ks, 0, _, _ => by simp [posOf]
  | k :: ks, j + 1, hn, h => by
    have hn' := List.nodup_cons.1 hn
    have hj : j < ks.length := by simpa using h
    have e : (k :: ks).getD (j + 1) [] = ks.getD j [] := by simp
    rw [e]
    unfold posOf
    rw [if_neg (fun e => hn'.1 (by rw [e]; exact getD_mem hj)), posOf_self hn'.2 hj]
theorem SLt.nodup {ks : List (List Int)} (h : SLt ks) : ks.Nodup :=
  h.imp fun hab e => by subst e; rw [lexB_irrefl] at hab; cases hab
def cnt (N : Nat) (ids : List Nat) : Nat → Nat → Int
  | 0, _ => 0
  | k + 1, j => cnt N ids k j + (if ids.getD k 0 = j then (if k < N then 1 else -1) else 0)
theorem cnt_succ (N : Nat) (ids : List Nat) (k j : Nat) : cnt N ids (k + 1) j = cnt N ids k j + (if ids.getD k 0 = j then (if k < N then 1 else -1) else 0) := rfl
theorem set_self {l : List Int} {i : Nat} {v : Int} (h : i < l.length) : (l.set i v).getD i 0 = v := by
  simp [List.getD, h]
theorem set_other {l : List Int} {i j : Nat} {v : Int} (h : i ≠ j) : (l.set i v).getD j 0 = l.getD j 0 := by
  simp [List.getD, List.getElem?_set_ne h]
theorem cnt_bd (N : Nat) (ids : List Nat) (j : Nat) : ∀ k : Nat, -(k : Int) ≤ cnt N ids k j ∧ cnt N ids k j ≤ k
  | 0 => by simp [cnt]
  | k + 1 => by
    have := cnt_bd N ids j k
    unfold cnt
    split
    · split <;> omega
    · omega
theorem cnt_one {N : Nat} {ids : List Nat} (hN : N ≤ ids.length) (j : Nat) : ∀ k : Nat, k ≤ N → cnt N ids k j = ((ids.take k).count j : Int)
  | 0, _ => by simp [cnt]
  | k + 1, h => by
    have hk : k < ids.length := by omega
    unfold cnt
    rw [cnt_one hN j k (by omega), List.take_succ_eq_append_getElem hk, List.count_append]
    have e : ids.getD k 0 = ids[k] := by simp [List.getD, List.getElem?_eq_getElem hk]
    rw [e]
    by_cases h2 : ids[k] = j
    · simp [h2, show k < N by omega]
    · simp [h2, List.count_cons]
theorem cnt_two {N : Nat} {ids : List Nat} (hN : N ≤ ids.length) (j : Nat) : ∀ t : Nat, N + t ≤ ids.length → cnt N ids (N + t) j = ((ids.take N).count j : Int) - (((ids.drop N).take t).count j : Int)
  | 0, _ => by simp [cnt_one hN j N (Nat.le_refl _)]
  | t + 1, h => by
    have hk : N + t < ids.length := by omega
    have hk2 : t < (ids.drop N).length := by rw [List.length_drop]; omega
    rw [show N + (t + 1) = (N + t) + 1 from rfl]
    unfold cnt
    rw [cnt_two hN j t (by omega), List.take_succ_eq_append_getElem hk2, List.count_append]
    have e : ids.getD (N + t) 0 = (ids.drop N)[t] := by simp [List.getD, List.getElem?_eq_getElem hk]
    rw [e]
    by_cases h2 : (ids.drop N)[t] = j
    · rw [if_pos h2, if_neg (by omega), h2]; simp; omega
    · rw [if_neg h2]
      have : [(ids.drop N)[t]].count j = 0 := by simp only [List.count_cons, List.count_nil]; rw [if_neg (by simpa using h2)]
      rw [this]; omega
theorem cnt_zero {N : Nat} {ids : List Nat} (hN : ids.length = N + N) (hp : (ids.take N).Perm (ids.drop N)) (j : Nat) : cnt N ids (N + N) j = 0 := by
  rw [cnt_two (by omega) j N (by omega), List.take_of_length_le (l := ids.drop N) (by rw [List.length_drop]; omega), hp.count_eq]
  omega
section
variable {marks ks : List (List Int)} (hk : ks.length ≤ 64) (hmk : ∀ x ∈ marks, x ∈ ks)
include hk hmk
theorem posOf_loop {k : Nat} (hkm : k < marks.length) : ∀ (r i : Nat), posOf (marks.getD k []) ks - i = r → i ≤ posOf (marks.getD k []) ks →
    iterW (fun s => p_spec_l03Kinds_L4 ks marks k s) (r + 1) (i : Int) = some (.fin ((posOf (marks.getD k []) ks : Nat) : Int)) := by
  have hmem : marks.getD k [] ∈ ks := hmk _ (getD_mem hkm)
  have hlt := posOf_lt hmem
  intro r
  induction r with
  | zero =>
    intro i hr hi
    have e : i = posOf (marks.getD k []) ks := by omega
    obtain ⟨b, hb, hbe⟩ := same_says (ks.getD i []) (marks.getD k [])
    have hstep : p_spec_l03Kinds_L4 ks marks k (i : Int) = some (.brk (i : Int)) := by
      unfold p_spec_l03Kinds_L4
      have hbt : b = true := hbe.2 (by rw [e]; exact posOf_getD hmem)
      subst hbt
      simp only [idx_getD ks [] (show i < ks.length by omega), idx_getD marks [] hkm, Option.bind_some, hb]
      rfl
    rw [iterW]
    simp only [hstep]
    rw [← e]
  | succ r ih =>
    intro i hr hi
    obtain ⟨hil, hne⟩ := posOf_ne (m := marks.getD k []) (ks := ks) (i := i) (by omega)
    obtain ⟨b, hb, hbe⟩ := same_says (ks.getD i []) (marks.getD k [])
    have hw : w64 ((i : Int) + 1) = ((i + 1 : Nat) : Int) := by rw [w64_small (by omega) (by omega)]; rfl
    have hstep : p_spec_l03Kinds_L4 ks marks k (i : Int) = some (.next ((i + 1 : Nat) : Int)) := by
      unfold p_spec_l03Kinds_L4
      have hbf : b = false := by cases b with | false => rfl | true => exact absurd (hbe.1 rfl) hne
      subst hbf
      simp only [idx_getD ks [] hil, idx_getD marks [] hkm, Option.bind_some, hb, hw]
      rfl
    rw [iterW]
    simp only [hstep]
    exact ih (i + 1) (by omega) (by omega)
def idsOf (marks ks : List (List Int)) : List Nat := marks.map fun m => posOf m ks
omit hk hmk in
theorem ids_getD {k : Nat} (h : k < marks.length) : (idsOf marks ks).getD k 0 = posOf (marks.getD k []) ks := by
  simp [idsOf, List.getD, List.getElem?_eq_getElem h]
theorem cols_loop {N : Nat} (hN : marks.length = N + N) (hN2 : N ≤ 16) : ∃ cs, forN (R := Unit) (fun k s => p_spec_l03Kinds_L3 ks marks k s.1 s.2) marks.length 0 (List.replicate ks.length (0 : Int), ([] : List Int)) = some (.fin (cs, (idsOf marks ks).map fun (i : Nat) => (i : Int))) ∧
    cs.length = ks.length ∧ ∀ j, j < ks.length → cs.getD j 0 = cnt N (idsOf marks ks) marks.length j := by
  obtain ⟨s, e, h1, h2, h3⟩ := forN_inv (R := Unit) (body := fun k s => p_spec_l03Kinds_L3 ks marks k s.1 s.2) (N := marks.length) (s := (List.replicate ks.length (0 : Int), ([] : List Int)))
    (fun k s => s.2 = (List.range k).map (fun i => (((idsOf marks ks).getD i 0 : Nat) : Int)) ∧ s.1.length = ks.length ∧ ∀ j, j < ks.length → s.1.getD j 0 = cnt N (idsOf marks ks) k j)
    ⟨rfl, by simp, fun j hj => by simp [cnt, List.getD, List.getElem?_replicate, hj]⟩ (fun k s hkm ⟨h1, h2, h3⟩ => by
      have hmem : marks.getD k [] ∈ ks := hmk _ (getD_mem hkm)
      have hlt := posOf_lt hmem
      have hw0 : whileC (fun s => p_spec_l03Kinds_L4 ks marks k s) (0 : Int) = some (.fin ((posOf (marks.getD k []) ks : Nat) : Int)) := whileC_of (posOf_loop hk hmk hkm _ 0 rfl (Nat.zero_le _))
      have hid := ids_getD (ks := ks) hkm
      have hap : appL s.2 [((posOf (marks.getD k []) ks : Nat) : Int)] = some ((List.range (k + 1)).map fun i => (((idsOf marks ks).getD i 0 : Nat) : Int)) := by
        rw [h1, ← hid]
        rw [app_ok (by simp; omega), List.range_succ, List.map_append]
        rfl
      have hdiv : w64 ((marks.length : Int).tdiv 2) = (N : Int) := by
        have : (marks.length : Int).tdiv 2 = (N : Int) := by rw [Int.tdiv_eq_ediv_of_nonneg (by omega)]; omega
        rw [this, w64_small (by omega) (by omega)]
      have hb := cnt_bd N (idsOf marks ks) (posOf (marks.getD k []) ks) k
      have hc := h3 _ hlt
      have hset : ∀ v : Int, v = cnt N (idsOf marks ks) (k + 1) (posOf (marks.getD k []) ks) → (s.1.set (posOf (marks.getD k []) ks) v).length = ks.length ∧ ∀ j, j < ks.length → (s.1.set (posOf (marks.getD k []) ks) v).getD j 0 = cnt N (idsOf marks ks) (k + 1) j := fun v hv => by
        refine ⟨by simp [h2], fun j hj => ?_⟩
        by_cases hjp : posOf (marks.getD k []) ks = j
        · subst hjp
          rw [set_self (by omega)]
          exact hv
        · have : cnt N (idsOf marks ks) (k + 1) j = cnt N (idsOf marks ks) k j := by
            rw [cnt_succ, hid, if_neg hjp]; omega
          rw [this, ← h3 j hj, set_other hjp]
      by_cases hkN : k < N
      · refine ⟨(s.1.set (posOf (marks.getD k []) ks) (w64 (cnt N (idsOf marks ks) k (posOf (marks.getD k []) ks) + 1)), (List.range (k + 1)).map fun i => (((idsOf marks ks).getD i 0 : Nat) : Int)), ?_, rfl, hset _ ?_⟩
        · have hd : (k : Int) < (N : Int) := by omega
          simp only [p_spec_l03Kinds_L3]
          rw [hw0]
          simp only [Option.bind_some, onRes, hap, hdiv, hd, decide_true, if_true, idx_getD s.1 0 (show posOf (marks.getD k []) ks < s.1.length by omega), hc, Int.toNat_natCast]
        · rw [w64_small (by omega) (by omega)]
          show _ = cnt N (idsOf marks ks) k _ + _
          rw [hid, if_pos rfl, if_pos hkN]
      · refine ⟨(s.1.set (posOf (marks.getD k []) ks) (w64 (cnt N (idsOf marks ks) k (posOf (marks.getD k []) ks) - 1)), (List.range (k + 1)).map fun i => (((idsOf marks ks).getD i 0 : Nat) : Int)), ?_, rfl, hset _ ?_⟩
        · have hd : ¬ (k : Int) < (N : Int) := by omega
          simp only [p_spec_l03Kinds_L3]
          rw [hw0]
          simp only [Option.bind_some, onRes, hap, hdiv, hd, decide_false, Bool.false_eq_true, if_false, idx_getD s.1 0 (show posOf (marks.getD k []) ks < s.1.length by omega), hc, Int.toNat_natCast]
        · rw [w64_small (by omega) (by omega)]
          show _ = cnt N (idsOf marks ks) k _ + _
          rw [hid, if_pos rfl, if_neg hkN]; omega)
  refine ⟨s.1, ?_, h2, h3⟩
  rw [e]
  have : s.2 = (idsOf marks ks).map fun (i : Nat) => (i : Int) := by
    rw [h1]
    have h4 := map_range_getD (idsOf marks ks) 0
    have h5 : (idsOf marks ks).length = marks.length := by simp [idsOf]
    rw [h5] at h4
    conv => rhs; rw [← h4]
    rw [List.map_map]; rfl
  rw [← this]
end
theorem kinds_eq {marks : List (List Int)} {N : Nat} (hN : marks.length = N + N) (hN2 : N ≤ 16) (hs : ∀ x ∈ marks, x.length ≤ 1048576) :
    ∃ ks, SLt ks ∧ (∀ x, x ∈ ks ↔ x ∈ marks) ∧ ks.length ≤ N + N ∧
      (p_spec_l03Kinds marks = some ([], [], 0, false) ∨ p_spec_l03Kinds marks = some (((idsOf marks ks).map fun (i : Nat) => (i : Int)).take N, ((idsOf marks ks).map fun (i : Nat) => (i : Int)).drop N, (ks.length : Int), true)) ∧
      ((marks.take N).Perm (marks.drop N) → p_spec_l03Kinds marks = some (((idsOf marks ks).map fun (i : Nat) => (i : Int)).take N, ((idsOf marks ks).map fun (i : Nat) => (i : Int)).drop N, (ks.length : Int), true)) := by
  obtain ⟨ks, e1, h1, h2, h3⟩ := kinds_found (by omega) hs
  obtain ⟨cs, e2, h4, h5⟩ := cols_loop (ks := ks) (by omega) (fun x hx => (h2 x).2 hx) hN hN2
  have hdiv : w64 ((marks.length : Int).tdiv 2) = (N : Int) := by
    have : (marks.length : Int).tdiv 2 = (N : Int) := by rw [Int.tdiv_eq_ediv_of_nonneg (by omega)]; omega
    rw [this, w64_small (by omega) (by omega)]
  have hlen : ((idsOf marks ks).map fun (i : Nat) => (i : Int)).length = N + N := by simp [idsOf, hN]
  have h6 : Chk (forN (fun k s => p_spec_l03Kinds_L5 cs k) cs.length 0 ()) (∀ j, j < cs.length → cs.getD j 0 = 0) (fun r => r = ([], [], 0, false)) :=
    forN_chk (P := fun j => cs.getD j 0 = 0) (fun j hj _ => by
      unfold p_spec_l03Kinds_L5
      rw [idx_getD cs 0 hj, Option.bind_some]
      refine ChkC.congr (Q := cs.getD j 0 = 0) (ChkC.ite (b := cs.getD j 0 != 0) rfl) ?_
      simp)
  have hrun : p_spec_l03Kinds marks = (forN (fun k s => p_spec_l03Kinds_L5 cs k) cs.length 0 ()).bind fun res1124 => onRes res1124 (fun r1296 => some r1296) fun _ =>
      some (((idsOf marks ks).map fun (i : Nat) => (i : Int)).take N, ((idsOf marks ks).map fun (i : Nat) => (i : Int)).drop N, (ks.length : Int), true) := by
    unfold p_spec_l03Kinds
    rw [e1]
    simp only [Option.bind_some, onRes]
    rw [mkL_some' (0 : Int) (by omega), Option.bind_some, e2]
    simp only [Option.bind_some, onRes, hdiv, cut_take _ (show N ≤ ((idsOf marks ks).map fun (i : Nat) => (i : Int)).length by omega), cut_drop _ (show N ≤ ((idsOf marks ks).map fun (i : Nat) => (i : Int)).length by omega)]
  refine ⟨ks, h1, h2, by omega, ?_, fun hp => ?_⟩
  · rcases h6 with ⟨_, h6⟩ | ⟨_, r, h6, rfl⟩
    · right; rw [hrun, h6]; rfl
    · left; rw [hrun, h6]; rfl
  · have hz : ∀ j, j < cs.length → cs.getD j 0 = 0 := fun j hj => by
      rw [h5 j (by omega), hN]
      refine cnt_zero (by rw [idsOf, List.length_map]; exact hN) ?_ j
      unfold idsOf
      rw [← List.map_take, ← List.map_drop]
      exact hp.map _
    rcases h6 with ⟨_, h6⟩ | ⟨hn, _⟩
    · rw [hrun, h6]; rfl
    · exact absurd hz hn
end Go.VG
