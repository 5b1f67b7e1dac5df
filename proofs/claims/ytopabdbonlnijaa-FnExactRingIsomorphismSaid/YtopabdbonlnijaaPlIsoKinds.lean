/- Marks become colours. Plain. -/
import Derived.Test.YtopabdbonlnijaaPlIsoMark
set_option linter.all false
namespace Go.VG
theorem same_says (a b : List Int) : Says (p_spec_l01Same a b) (a = b) := eqS_says a b
/-! ### The order of lists -/
def lexB : List Int → List Int → Bool
  | [], [] => false
  | [], _ :: _ => true
  | _ :: _, [] => false
  | a :: as, b :: bs => if a = b then lexB as bs else decide (a < b)
theorem lexB_irrefl : ∀ a : List Int, lexB a a = false
  | [] => rfl
  | a :: as => by simp [lexB, lexB_irrefl as]
theorem lexB_trans : ∀ a b c : List Int, lexB a b = true → lexB b c = true → lexB a c = true
  | [], [], c, h, _ => by simp [lexB] at h
  | [], _ :: _, [], _, h => by simp [lexB] at h
  | [], _ :: _, _ :: _, _, _ => rfl
  | _ :: _, [], _, h, _ => by simp [lexB] at h
  | _ :: _, _ :: _, [], _, h => by simp [lexB] at h
  | a :: as, b :: bs, c :: cs, h1, h2 => by
    simp only [lexB] at h1 h2 ⊢
    by_cases e1 : a = b
    · subst e1
      rw [if_pos rfl] at h1
      by_cases e2 : a = c
      · subst e2
        rw [if_pos rfl] at h2 ⊢
        exact lexB_trans as bs cs h1 h2
      · rw [if_neg e2] at h2 ⊢
        exact h2
    · rw [if_neg e1] at h1
      have h1' := of_decide_eq_true h1
      by_cases e2 : b = c
      · subst e2
        rw [if_neg e1]
        exact h1
      · rw [if_neg e2] at h2
        have h2' := of_decide_eq_true h2
        rw [if_neg (by omega)]
        exact decide_eq_true (by omega)
theorem lexB_total : ∀ a b : List Int, lexB a b = false → a ≠ b → lexB b a = true
  | [], [], _, h => absurd rfl h
  | [], _ :: _, h, _ => by simp [lexB] at h
  | _ :: _, [], _, _ => rfl
  | a :: as, b :: bs, h, hn => by
    simp only [lexB] at h ⊢
    by_cases e : a = b
    · subst e
      rw [if_pos rfl] at h ⊢
      exact lexB_total as bs h fun e => hn (by rw [e])
    · rw [if_neg e] at h
      have := of_decide_eq_false h
      rw [if_neg (fun e' => e e'.symm)]
      exact decide_eq_true (by omega)
theorem less_loop (a b : List Int) (ha : a.length ≤ 1048576) : ∀ (m i : Nat), a.length - i = m → i ≤ a.length → i ≤ b.length →
    iterW (fun s => p_spec_l01Less_L1 a b s) (m + 1) (i : Int) = some (.ret (lexB (a.drop i) (b.drop i))) ∨ ∃ j, iterW (fun s => p_spec_l01Less_L1 a b s) (m + 1) (i : Int) = some (.fin j) ∧ lexB (a.drop i) (b.drop i) = decide ((a.length : Int) < (b.length : Int)) := by
  intro m
  induction m with
  | zero =>
    intro i hm hi hb
    have hia : i = a.length := by omega
    refine .inr ⟨(i : Int), ?_, ?_⟩
    · simp only [iterW, p_spec_l01Less_L1]
      have : ¬ ((i : Int) < (a.length : Int)) := by omega
      simp [this]
    · rw [List.drop_eq_nil_of_le (as := a) (by omega)]
      by_cases h : i < b.length
      · rw [drop_getD h]
        have : (a.length : Int) < (b.length : Int) := by omega
        simp [lexB, this]
      · rw [List.drop_eq_nil_of_le (as := b) (by omega)]
        have : ¬ (a.length : Int) < (b.length : Int) := by omega
        simp [lexB, this]
  | succ m ih =>
    intro i hm hi hb
    have hia : i < a.length := by omega
    by_cases hib : i < b.length
    · have h1 : (i : Int) < (a.length : Int) := by omega
      have h2 : (i : Int) < (b.length : Int) := by omega
      have hw : w64 ((i : Int) + 1) = ((i + 1 : Nat) : Int) := by rw [w64_small (by omega) (by omega)]; rfl
      by_cases e : a.getD i 0 = b.getD i 0
      · have hs : p_spec_l01Less_L1 a b (i : Int) = some (.next ((i + 1 : Nat) : Int)) := by
          unfold p_spec_l01Less_L1
          simp only [h1, h2, decide_true, Bool.and_true, if_true, idx_getD a 0 hia, idx_getD b 0 hib, Option.bind_some, e, bne_self_eq_false, Bool.false_eq_true, if_false, hw]
        have hl : lexB (a.drop i) (b.drop i) = lexB (a.drop (i + 1)) (b.drop (i + 1)) := by
          rw [drop_getD hia, drop_getD hib, lexB, if_pos e]
        rw [hl, iterW]
        simp only [hs]
        exact ih (i + 1) (by omega) (by omega) (by omega)
      · have hs : p_spec_l01Less_L1 a b (i : Int) = some (.ret (decide (a.getD i 0 < b.getD i 0))) := by
          unfold p_spec_l01Less_L1
          have hne : (a.getD i 0 != b.getD i 0) = true := by simpa [bne_iff_ne] using e
          simp only [h1, h2, decide_true, Bool.and_true, if_true, idx_getD a 0 hia, idx_getD b 0 hib, Option.bind_some, hne]
        have hl : lexB (a.drop i) (b.drop i) = decide (a.getD i 0 < b.getD i 0) := by
          rw [drop_getD hia, drop_getD hib, lexB, if_neg e]
        refine .inl ?_
        rw [hl, iterW]
        simp only [hs]
    · refine .inr ⟨(i : Int), ?_, ?_⟩
      · have h2 : ¬ (i : Int) < (b.length : Int) := by omega
        simp only [iterW, p_spec_l01Less_L1]
        simp [h2]
      · rw [List.drop_eq_nil_of_le (as := b) (by omega), drop_getD hia]
        have : ¬ (a.length : Int) < (b.length : Int) := by omega
        simp [lexB, this]
theorem less_eq (a b : List Int) (ha : a.length ≤ 1048576) : p_spec_l01Less a b = some (lexB a b) := by
  unfold p_spec_l01Less
  rcases less_loop a b ha _ 0 rfl (Nat.zero_le _) (Nat.zero_le _) with h | ⟨j, h, e⟩
  · have h' : whileC (fun s => p_spec_l01Less_L1 a b s) (0 : Int) = _ := whileC_of h
    rw [h']; rfl
  · have h' : whileC (fun s => p_spec_l01Less_L1 a b s) (0 : Int) = _ := whileC_of h
    rw [h']
    simp only [Option.bind_some, onRes]
    rw [← e]; rfl
/-! ### Kinds -/
def SLt (ks : List (List Int)) : Prop := ks.Pairwise fun a b => lexB a b = true
def pos (m : List Int) (ks : List (List Int)) : Nat := (ks.takeWhile fun k => lexB k m).length
theorem pos_le (m : List Int) (ks : List (List Int)) : pos m ks ≤ ks.length := (List.takeWhile_sublist _).length_le
theorem pos_cons (m k : List Int) (ks : List (List Int)) : pos m (k :: ks) = if lexB k m = true then pos m ks + 1 else 0 := by
  unfold pos
  rw [List.takeWhile_cons]
  split <;> rfl
theorem drop_getD' {α : Type} (d : α) {l : List α} {i : Nat} (h : i < l.length) : l.drop i = l.getD i d :: l.drop (i + 1) := by
  rw [List.drop_eq_getElem_cons h]
  simp [List.getD, List.getElem?_eq_getElem h]
section
variable {marks : List (List Int)} (hm : marks.length ≤ 64) (hs : ∀ x ∈ marks, x.length ≤ 1048576)
include hm hs
theorem pos_loop {ks : List (List Int)} (hk : ks.length ≤ 64) (hks : ∀ x ∈ ks, x.length ≤ 1048576) {k : Nat} (hkm : k < marks.length) : ∀ (r i : Nat), ks.length - i = r → i ≤ ks.length →
    iterW (fun s => p_spec_l03Kinds_L2 ks marks k s) (r + 1) (i : Int) = some (.fin ((i + pos (marks.getD k []) (ks.drop i) : Nat) : Int)) := by
  intro r
  induction r with
  | zero =>
    intro i hr hi
    have h : ¬ ((i : Int) < (ks.length : Int)) := by omega
    have hd : ks.drop i = [] := List.drop_eq_nil_of_le (by omega)
    simp only [iterW, p_spec_l03Kinds_L2, h, decide_false, Bool.false_eq_true, if_false, Option.bind_some, hd]
    simp [pos]
  | succ r ih =>
    intro i hr hi
    have hlt : i < ks.length := by omega
    have h : (i : Int) < (ks.length : Int) := by omega
    have hw : w64 ((i : Int) + 1) = ((i + 1 : Nat) : Int) := by rw [w64_small (by omega) (by omega)]; rfl
    have hL := less_eq (ks.getD i []) (marks.getD k []) (hks _ (getD_mem hlt))
    have hstep : p_spec_l03Kinds_L2 ks marks k (i : Int) = some (if lexB (ks.getD i []) (marks.getD k []) = true then .next ((i + 1 : Nat) : Int) else .brk (i : Int)) := by
      unfold p_spec_l03Kinds_L2
      simp only [h, decide_true, if_true, idx_getD ks [] hlt, idx_getD marks [] hkm, Option.bind_some, hL, hw]
      split <;> rfl
    rw [drop_getD' [] hlt, pos_cons, iterW]
    simp only [hstep]
    by_cases e : lexB (ks.getD i []) (marks.getD k []) = true
    · simp only [e, if_true]
      rw [ih (i + 1) (by omega) (by omega)]
      congr 3; omega
    · simp only [e, Bool.false_eq_true, if_false]
      simp
end
def ins (m : List Int) (ks : List (List Int)) : List (List Int) := if pos m ks < ks.length ∧ ks.getD (pos m ks) [] = m then ks else ks.take (pos m ks) ++ (m :: ks.drop (pos m ks))
theorem ins_mem (m : List Int) (ks : List (List Int)) (x : List Int) : x ∈ ins m ks ↔ x ∈ ks ∨ x = m := by
  unfold ins
  split
  · rename_i h
    constructor
    · exact .inl
    · rintro (h' | rfl)
      · exact h'
      · have := getD_mem (d := []) h.1
        rw [h.2] at this; exact this
  · have e : x ∈ ks ↔ x ∈ ks.take (pos m ks) ∨ x ∈ ks.drop (pos m ks) := by
      rw [← List.mem_append, List.take_append_drop]
    rw [e]
    simp only [List.mem_append, List.mem_cons]
    constructor
    · rintro (h | h | h) <;> simp [h]
    · rintro ((h | h) | h) <;> simp [h]
theorem ins_len (m : List Int) (ks : List (List Int)) : (ins m ks).length ≤ ks.length + 1 := by
  unfold ins
  split
  · omega
  · rw [List.length_append, List.length_take, List.length_cons, List.length_drop]; omega
theorem take_pos (m : List Int) : ∀ (ks : List (List Int)), ks.take (pos m ks) = ks.takeWhile fun k => lexB k m
  | [] => rfl
  | k :: ks => by
    rw [pos_cons, List.takeWhile_cons]
    split
    · rw [List.take_succ_cons, take_pos m ks]
    · rfl
theorem pos_stop (m : List Int) : ∀ (ks : List (List Int)), pos m ks < ks.length → lexB (ks.getD (pos m ks) []) m = false
  | [], h => by simp at h
  | k :: ks, h => by
    rw [pos_cons] at h ⊢
    split at h
    · rename_i e
      rw [if_pos e]
      simpa using pos_stop m ks (by simpa using h)
    · rename_i e
      rw [if_neg e]
      simpa using e
theorem takeWhile_all {α : Type} {p : α → Bool} : ∀ {l : List α} {x : α}, x ∈ l.takeWhile p → p x = true
  | [], x, h => by simp at h
  | y :: l, x, h => by
    rw [List.takeWhile_cons] at h
    split at h
    · rcases List.mem_cons.1 h with rfl | h
      · assumption
      · exact takeWhile_all h
    · cases h
theorem ins_sorted {m : List Int} {ks : List (List Int)} (h : SLt ks) : SLt (ins m ks) := by
  unfold ins
  split
  · exact h
  · rename_i hn
    have h0 : SLt (ks.take (pos m ks) ++ ks.drop (pos m ks)) := by rw [List.take_append_drop]; exact h
    obtain ⟨h1, h2, h3⟩ := List.pairwise_append.1 h0
    have hless : ∀ x ∈ ks.take (pos m ks), lexB x m = true := fun x hx => by
      rw [take_pos] at hx
      exact takeWhile_all (p := fun k => lexB k m) hx
    have hmore : ∀ x ∈ ks.drop (pos m ks), lexB m x = true := by
      intro x hx
      by_cases hlt : pos m ks < ks.length
      · have hst := pos_stop m ks hlt
        have hne : ks.getD (pos m ks) [] ≠ m := fun e => hn ⟨hlt, e⟩
        have hy := lexB_total _ _ hst hne
        rw [drop_getD' [] hlt] at hx h2
        rcases List.mem_cons.1 hx with rfl | hx
        · exact hy
        · exact lexB_trans _ _ _ hy ((List.pairwise_cons.1 h2).1 x hx)
      · rw [List.drop_eq_nil_of_le (by omega)] at hx; cases hx
    exact List.pairwise_append.2 ⟨h1, List.pairwise_cons.2 ⟨hmore, h2⟩, fun a ha b hb => by
      rcases List.mem_cons.1 hb with rfl | hb
      · exact hless a ha
      · exact h3 a ha b hb⟩
section
variable {marks : List (List Int)} (hm : marks.length ≤ 64) (hs : ∀ x ∈ marks, x.length ≤ 1048576)
include hm hs
theorem kinds_step {ks : List (List Int)} (hk : ks.length ≤ 64) (hks : ∀ x ∈ ks, x.length ≤ 1048576) {k : Nat} (hkm : k < marks.length) : p_spec_l03Kinds_L1 marks k ks = some (.next (ins (marks.getD k []) ks)) := by
  have hp := pos_le (marks.getD k []) ks
  have hw := whileC_of (pos_loop hm hs hk hks hkm _ 0 rfl (Nat.zero_le _))
  have hw' : whileC (fun s => p_spec_l03Kinds_L2 ks marks k s) (0 : Int) = some (.fin ((pos (marks.getD k []) ks : Nat) : Int)) := by
    simpa using hw
  unfold p_spec_l03Kinds_L1
  rw [hw']
  simp only [Option.bind_some, onRes]
  have htail : ∀ p : Nat, p ≤ ks.length → ((idx marks (k : Int)).bind fun x721 => (cutL ks (p : Int) (ks.length : Int)).bind fun x782 => (appL ([x721] : List (List Int)) x782).bind fun x808 => (cutL ks (0 : Int) (p : Int)).bind fun x818 => (appL ([] : List (List Int)) x818).bind fun x822 => (appL x822 x808).bind fun x828 => (some (.next x828) : Option (Ctl (List (List Int)) Unit))) = some (.next (ks.take p ++ (marks.getD k [] :: ks.drop p))) := fun p hp => by
    rw [idx_getD marks [] hkm, Option.bind_some, cut_drop ks hp, Option.bind_some, app_ok (by rw [List.length_drop]; simp; omega), Option.bind_some, cut_take ks hp, Option.bind_some, app_ok (by rw [List.length_take]; simp; omega), Option.bind_some, app_ok (by simp; omega), Option.bind_some]
    rfl
  by_cases hlt : pos (marks.getD k []) ks < ks.length
  · have h1 : ((pos (marks.getD k []) ks : Nat) : Int) < (ks.length : Int) := by omega
    obtain ⟨b, hb, hbe⟩ := same_says (ks.getD (pos (marks.getD k []) ks) []) (marks.getD k [])
    simp only [h1, decide_true, if_true, idx_getD ks [] hlt, idx_getD marks [] hkm, Option.bind_some, hb]
    cases b with
    | true =>
      simp only [if_true]
      unfold ins
      rw [if_pos ⟨hlt, hbe.1 rfl⟩]
    | false =>
      simp only [Bool.false_eq_true, if_false]
      have := htail _ hp
      rw [idx_getD marks [] hkm, Option.bind_some] at this
      rw [this]
      unfold ins
      rw [if_neg (fun h => by have := hbe.2 h.2; cases this)]
  · have h1 : ¬ ((pos (marks.getD k []) ks : Nat) : Int) < (ks.length : Int) := by omega
    simp only [h1, decide_false, Bool.false_eq_true, if_false, Option.bind_some]
    rw [htail _ hp]
    unfold ins
    rw [if_neg (fun h => hlt h.1)]
theorem take_mem_succ {k : Nat} (hk : k < marks.length) (x : List Int) : x ∈ marks.take (k + 1) ↔ x ∈ marks.take k ∨ x = marks.getD k [] := by
  have e : marks.getD k [] = marks[k] := by simp [List.getD, List.getElem?_eq_getElem hk]
  rw [List.take_succ_eq_append_getElem hk, List.mem_append, List.mem_singleton, e]
theorem kinds_found : ∃ ks, forN (R := Unit) (fun k s => p_spec_l03Kinds_L1 marks k s) marks.length 0 ([] : List (List Int)) = some (.fin ks) ∧ SLt ks ∧ (∀ x, x ∈ ks ↔ x ∈ marks) ∧ ks.length ≤ marks.length := by
  obtain ⟨ks, e, h1, h2, h3⟩ := forN_inv (R := Unit) (body := fun k s => p_spec_l03Kinds_L1 marks k s) (N := marks.length) (s := ([] : List (List Int))) (fun k ks => SLt ks ∧ (∀ x, x ∈ ks ↔ x ∈ marks.take k) ∧ ks.length ≤ k) ⟨List.Pairwise.nil, by simp, by simp⟩ (fun j ks hj ⟨h1, h2, h3⟩ => by
    refine ⟨_, kinds_step hm hs (by omega) (fun x hx => hs x (List.mem_of_mem_take ((h2 x).1 hx))) hj, ins_sorted h1, fun x => ?_, ?_⟩
    · rw [ins_mem, h2, take_mem_succ hm hs hj]
    · have := ins_len (marks.getD j []) ks; omega)
  exact ⟨ks, e, h1, by simpa using h2, h3⟩
end
end Go.VG
