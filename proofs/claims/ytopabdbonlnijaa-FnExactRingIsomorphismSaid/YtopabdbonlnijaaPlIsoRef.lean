/- Colours made finer: it ends, and a renumbering that keeps the first colours keeps the last. Plain. -/
import Derived.Test.YtopabdbonlnijaaPlIsoCols
set_option linter.all false
namespace Go.VG
theorem nodup_le {α : Type} [DecidableEq α] : ∀ {l l' : List α}, l.Nodup → (∀ x ∈ l, x ∈ l') → l.length ≤ l'.length
  | [], l', _, _ => by simp
  | a :: l, l', hn, hs => by
    have hn' := List.nodup_cons.1 hn
    have ha : a ∈ l' := hs a (by simp)
    have := nodup_le (l := l) (l' := l'.erase a) hn'.2 fun x hx => by
      have hne : x ≠ a := fun e => hn'.1 (e ▸ hx)
      exact (List.mem_erase_of_ne hne).2 (hs x (by simp [hx]))
    rw [List.length_erase_of_mem ha] at this
    have h0 : 0 < l'.length := List.length_pos_of_mem ha
    simp only [List.length_cons]; omega
section
variable {T S : List (List (List Int))} (hT : Cube T) (hS : Cube S) (hn : T.length = S.length)
def marksOf (T S : List (List (List Int))) (c d : List Int) : List (List Int) := (List.range T.length).map (mark T c) ++ (List.range S.length).map (mark S d)
theorem mark_len {T : List (List (List Int))} (hT : Cube T) (c : List Int) (x : Nat) : (mark T c x).length ≤ 1048576 := by
  have h1 := hT.1
  have hb : T.length * (T.length * 3 + 1) ≤ 16 * 49 := Nat.mul_le_mul (by omega) (by omega)
  have hl : (markL T c x).length = T.length * (T.length * 3 + 1) := flat_len (fun y => mRow_len x y) _
  unfold mark
  rw [List.length_cons, sortI_len, hl]; omega
include hT hS hn
theorem marks_run {c d : List Int} (hc : c.length = T.length) (hd : d.length = T.length) :
    ((forN (R := Unit) (fun k s => p_spec_l03Refine_L2 T (c, d) k s) T.length 0 ([] : List (List Int))) = some (.fin ((List.range T.length).map (mark T c)))) ∧
    (forN (R := Unit) (fun k s => p_spec_l03Refine_L3 S (c, d) k s) S.length 0 ((List.range T.length).map (mark T c)) = some (.fin (marksOf T S c d))) := by
  have h1 := hT.1
  constructor
  · exact forN_app (R := Unit) (mark T c) fun j hj => by
      simp only [p_spec_l03Refine_L2, mark_eq hT hc hj, Option.bind_some]
      rw [app_ok (by simp; omega), Option.bind_some, List.range_succ, List.map_append]
      rfl
  · have h := forN_det (R := Unit) (body := fun k s => p_spec_l03Refine_L3 S (c, d) k s) (N := S.length) (fun j => (List.range T.length).map (mark T c) ++ (List.range j).map (mark S d)) (fun j hj => by
      simp only [p_spec_l03Refine_L3, mark_eq hS (show d.length = S.length by omega) hj, Option.bind_some]
      rw [app_ok (by simp; omega), Option.bind_some, List.range_succ, List.map_append, List.append_assoc]
      rfl)
    simpa [marksOf] using h
theorem marks_len (c d : List Int) : (marksOf T S c d).length = T.length + T.length := by simp [marksOf, hn]
theorem marks_short (c d : List Int) : ∀ x ∈ marksOf T S c d, x.length ≤ 1048576 := fun x hx => by
  rcases List.mem_append.1 hx with hx | hx
  · obtain ⟨y, _, rfl⟩ := List.mem_map.1 hx; exact mark_len hT c y
  · obtain ⟨y, _, rfl⟩ := List.mem_map.1 hx; exact mark_len hS d y
theorem marks_take (c d : List Int) : (marksOf T S c d).take T.length = (List.range T.length).map (mark T c) := by
  unfold marksOf
  rw [List.take_append_of_le_length (by simp), List.take_of_length_le (by simp)]
theorem marks_drop (c d : List Int) : (marksOf T S c d).drop T.length = (List.range T.length).map (mark S d) := by
  unfold marksOf
  rw [List.drop_append_of_le_length (by simp), List.drop_of_length_le (by simp), hn]; rfl
omit hT hS hn in
theorem Iso.lt {g : Nat → Nat} (hg : Iso T S g) {x : Nat} (hx : x < T.length) : g x < T.length :=
  List.mem_range.1 ((hg.perm.mem_iff).1 (List.mem_map.2 ⟨x, List.mem_range.2 hx, rfl⟩))
theorem marks_perm {c d : List Int} {g : Nat → Nat} (hg : Iso T S g) (hk : Keeps T.length g c d) : ((marksOf T S c d).take T.length).Perm ((marksOf T S c d).drop T.length) := by
  rw [marks_take hT hS hn, marks_drop hT hS hn]
  have e : (List.range T.length).map (mark T c) = ((List.range T.length).map g).map (mark S d) := by
    rw [List.map_map]
    exact List.map_congr_left fun x hx => mark_iso hg hk (List.mem_range.1 hx)
  rw [e]
  exact hg.perm.map _
def castL (l : List Nat) : List Int := l.map fun (i : Nat) => (i : Int)
theorem cols_keep {c d : List Int} {g : Nat → Nat} {ks : List (List Int)} (hg : Iso T S g) (hk : Keeps T.length g c d) :
    Keeps T.length g ((castL (idsOf (marksOf T S c d) ks)).take T.length) ((castL (idsOf (marksOf T S c d) ks)).drop T.length) := by
  intro x hx
  have hgx := hg.lt hx
  have e1 : (castL (idsOf (marksOf T S c d) ks)).take T.length = ((List.range T.length).map (mark T c)).map fun m => ((posOf m ks : Nat) : Int) := by
    unfold castL idsOf
    rw [List.map_map, ← List.map_take, marks_take hT hS hn]; rfl
  have e2 : (castL (idsOf (marksOf T S c d) ks)).drop T.length = ((List.range T.length).map (mark S d)).map fun m => ((posOf m ks : Nat) : Int) := by
    unfold castL idsOf
    rw [List.map_map, ← List.map_drop, marks_drop hT hS hn]; rfl
  rw [e1, e2]
  simp [List.getD, List.getElem?_range hx, List.getElem?_range hgx, mark_iso hg hk hx]
theorem refine_round {c d : List Int} (hc : c.length = T.length) (hd : d.length = T.length) (number : Nat) :
    ∃ ks, SLt ks ∧ (∀ x, x ∈ ks ↔ x ∈ marksOf T S c d) ∧ ks.length ≤ T.length + T.length ∧
      (p_spec_l03Refine_L1 T S (c, d) (number : Int) = some (.ret ([], [], false)) ∨
        p_spec_l03Refine_L1 T S (c, d) (number : Int) = if ks.length = number then some (.ret ((castL (idsOf (marksOf T S c d) ks)).take T.length, (castL (idsOf (marksOf T S c d) ks)).drop T.length, true))
          else some (.next (((castL (idsOf (marksOf T S c d) ks)).take T.length, (castL (idsOf (marksOf T S c d) ks)).drop T.length), (ks.length : Int)))) ∧
      (((marksOf T S c d).take T.length).Perm ((marksOf T S c d).drop T.length) → p_spec_l03Refine_L1 T S (c, d) (number : Int) = if ks.length = number then some (.ret ((castL (idsOf (marksOf T S c d) ks)).take T.length, (castL (idsOf (marksOf T S c d) ks)).drop T.length, true))
          else some (.next (((castL (idsOf (marksOf T S c d) ks)).take T.length, (castL (idsOf (marksOf T S c d) ks)).drop T.length), (ks.length : Int)))) := by
  obtain ⟨ks, h1, h2, h3, h4, h5⟩ := kinds_eq (marks_len hT hS hn c d) (by have := hT.1; omega) (marks_short hT hS hn c d)
  obtain ⟨r1, r2⟩ := marks_run hT hS hn hc hd
  have hyes : p_spec_l03Kinds (marksOf T S c d) = some (((castL (idsOf (marksOf T S c d) ks)).take T.length, (castL (idsOf (marksOf T S c d) ks)).drop T.length, (ks.length : Int), true)) → p_spec_l03Refine_L1 T S (c, d) (number : Int) = if ks.length = number then some (.ret ((castL (idsOf (marksOf T S c d) ks)).take T.length, (castL (idsOf (marksOf T S c d) ks)).drop T.length, true))
          else some (.next (((castL (idsOf (marksOf T S c d) ks)).take T.length, (castL (idsOf (marksOf T S c d) ks)).drop T.length), (ks.length : Int))) := fun h => by
    unfold p_spec_l03Refine_L1
    rw [r1]
    simp only [Option.bind_some, onRes]
    rw [r2]
    simp only [Option.bind_some, onRes, h, Bool.not_true, Bool.false_eq_true, if_false]
    by_cases e : ks.length = number
    · rw [if_pos e, if_pos (by simp [e])]
    · rw [if_neg e, if_neg (by simp; omega)]
  refine ⟨ks, h1, h2, h3, ?_, fun hp => hyes (h5 hp)⟩
  rcases h4 with h4 | h4
  · left
    unfold p_spec_l03Refine_L1
    rw [r1]
    simp only [Option.bind_some, onRes]
    rw [r2]
    simp only [Option.bind_some, onRes, h4, Bool.not_false, if_true]
  · exact .inr (hyes h4)
def RefOK (T S : List (List (List Int))) (c d : List Int) (r : List Int × List Int × Bool) : Prop :=
  (r.2.2 = true → r.1.length = T.length ∧ r.2.1.length = T.length) ∧ ∀ g, Iso T S g → Keeps T.length g c d → r.2.2 = true ∧ Keeps T.length g r.1 r.2.1
theorem refine_loop : ∀ (M : Nat) (c d : List Int) (number : Nat), number + M = T.length + T.length → c.length = T.length → d.length = T.length → (∀ j, j < number → (j : Int) ∈ c ∨ (j : Int) ∈ d) →
    ∃ r n, iterW (fun s => p_spec_l03Refine_L1 T S s.1 s.2) n ((c, d), (number : Int)) = some (.ret r) ∧ RefOK T S c d r := by
  intro M
  induction M using Nat.strongRecOn with
  | _ M ih =>
  intro c d number hM hc hd hcol
  obtain ⟨ks, h1, h2, h3, h4, h5⟩ := refine_round hT hS hn hc hd number
  have hlen1 : ((castL (idsOf (marksOf T S c d) ks)).take T.length).length = T.length := by
    rw [List.length_take, castL, List.length_map, idsOf, List.length_map, marks_len hT hS hn]; omega
  have hlen2 : ((castL (idsOf (marksOf T S c d) ks)).drop T.length).length = T.length := by
    rw [List.length_drop, castL, List.length_map, idsOf, List.length_map, marks_len hT hS hn]; omega
  rcases h4 with h4 | h4
  · refine ⟨([], [], false), 1, iterW_ret h4, fun h => (by cases h), fun g hg hk => ?_⟩
    have h6 := h5 (marks_perm hT hS hn hg hk)
    rw [h4] at h6
    split at h6 <;> simp at h6
  · by_cases e : ks.length = number
    · rw [if_pos e] at h4
      exact ⟨_, 1, iterW_ret h4, fun _ => ⟨hlen1, hlen2⟩, fun g hg hk => ⟨rfl, cols_keep hT hS hn hg hk⟩⟩
    · rw [if_neg e] at h4
      have hge : number ≤ ks.length := by
        have := nodup_le (l := (List.range number).map fun (j : Nat) => (j : Int)) (l' := ks.map fun m => m.headD 0) (by
          exact List.pairwise_map.2 (List.nodup_range.imp fun hab e => hab (Int.ofNat.inj e))) (fun x hx => by
          obtain ⟨j, hj, rfl⟩ := List.mem_map.1 hx
          have hj := List.mem_range.1 hj
          rcases hcol j hj with h | h
          · obtain ⟨i, hi, he⟩ := mem_getD 0 h
            refine List.mem_map.2 ⟨mark T c i, (h2 _).2 (List.mem_append.2 (.inl (List.mem_map.2 ⟨i, List.mem_range.2 (by omega), rfl⟩))), ?_⟩
            simpa [mark] using he
          · obtain ⟨i, hi, he⟩ := mem_getD 0 h
            refine List.mem_map.2 ⟨mark S d i, (h2 _).2 (List.mem_append.2 (.inr (List.mem_map.2 ⟨i, List.mem_range.2 (by omega), rfl⟩))), ?_⟩
            simpa [mark] using he)
        simpa using this
      obtain ⟨r, n, h7, h8⟩ := ih (T.length + T.length - ks.length) (by omega) ((castL (idsOf (marksOf T S c d) ks)).take T.length) ((castL (idsOf (marksOf T S c d) ks)).drop T.length) ks.length (by omega) hlen1 hlen2 (fun j hj => by
        have hm : ks.getD j [] ∈ marksOf T S c d := (h2 _).1 (getD_mem hj)
        have hj2 : (j : Int) ∈ castL (idsOf (marksOf T S c d) ks) := List.mem_map.2 ⟨j, List.mem_map.2 ⟨ks.getD j [], hm, posOf_self h1.nodup hj⟩, rfl⟩
        rw [← List.take_append_drop T.length (castL (idsOf (marksOf T S c d) ks))] at hj2
        exact List.mem_append.1 hj2)
      exact ⟨r, n + 1, iterW_next h4 h7, h8.1, fun g hg hk => h8.2 g hg (cols_keep hT hS hn hg hk)⟩
theorem refine_eq {c d : List Int} (hc : c.length = T.length) (hd : d.length = T.length) : ∃ r, p_spec_l03Refine T S c d = some r ∧ RefOK T S c d r := by
  obtain ⟨r, n, h, hr⟩ := refine_loop hT hS hn (T.length + T.length) c d 0 (by omega) hc hd (fun j hj => by omega)
  refine ⟨r, ?_, hr⟩
  unfold p_spec_l03Refine
  have h' : whileC (fun s => p_spec_l03Refine_L1 T S s.1 s.2) ((c, d), (0 : Int)) = _ := whileC_of h
  rw [h']
  rfl
end
end Go.VG
