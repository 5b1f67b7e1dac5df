/- The code's count of edges, by a map: what it finds is what the model finds. Plain. -/
import Derived.Test.YtbgebkgpodgjdaaPlTri
set_option linter.all false
namespace Go.VG
def bump (m : List (Int × Int)) (e : Int) : List (Int × Int) := mpPut m e (w64 (mpGet m e + 1))
def tal (F : List Int) : List (Int × Int) := F.foldl bump []
theorem tal_app (F : List Int) (e : Int) : tal (F ++ [e]) = bump (tal F) e := by simp [tal]
structure Tal (F : List Int) (m : List (Int × Int)) : Prop where
  nodup : ∀ i j, i < m.length → j < m.length → (m.getD i (0, 0)).1 = (m.getD j (0, 0)).1 → i = j
  val : ∀ i, i < m.length → (m.getD i (0, 0)).2 = ((F.count (m.getD i (0, 0)).1 : Nat) : Int)
  keys : ∀ e ∈ F, ∃ i, i < m.length ∧ (m.getD i (0, 0)).1 = e
  mem : ∀ i, i < m.length → (m.getD i (0, 0)).1 ∈ F
  len : m.length ≤ F.length
theorem Tal.step {F : List Int} {m : List (Int × Int)} (h : Tal F m) (hF : F.length ≤ 1000000000) (e : Int) : Tal (F ++ [e]) (bump m e) := by
  unfold bump mpPut mpGet
  cases hm : mpAt m e with
  | some i =>
    obtain ⟨hi, hk⟩ := mpAt_some hm
    have hv := h.val i hi
    have hc : F.count e ≤ F.length := List.count_le_length
    rw [hk] at hv
    simp only [hv]
    rw [w64_small (by omega) (by omega)]
    have g1 : (m.set i (e, ((F.count e : Nat) : Int) + 1)).getD i (0, 0) = (e, ((F.count e : Nat) : Int) + 1) := getD_set_eq m _ _ hi
    have g2 : ∀ j, j ≠ i → (m.set i (e, ((F.count e : Nat) : Int) + 1)).getD j (0, 0) = m.getD j (0, 0) := fun j hj => getD_set_ne m _ _ (Ne.symm hj)
    have gk : ∀ j, ((m.set i (e, ((F.count e : Nat) : Int) + 1)).getD j (0, 0)).1 = (m.getD j (0, 0)).1 := fun j => by
      by_cases hj : j = i
      · subst hj; rw [g1, hk]
      · rw [g2 j hj]
    refine ⟨fun a b ha hb he => ?_, fun j hj => ?_, fun x hx => ?_, fun j hj => ?_, by rw [List.length_set, List.length_append]; have := h.len; omega⟩
    · rw [List.length_set] at ha hb
      rw [gk, gk] at he
      exact h.nodup a b ha hb he
    · rw [List.length_set] at hj
      rw [gk, count_app]
      by_cases hji : j = i
      · subst hji
        rw [g1, hk, if_pos rfl]; simp
      · rw [g2 j hji, h.val j hj, if_neg]
        · simp
        · intro e2; exact hji (h.nodup j i hj hi (by rw [hk, e2]))
    · rcases List.mem_append.1 hx with hx | hx
      · obtain ⟨j, hj, e2⟩ := h.keys x hx
        exact ⟨j, by rw [List.length_set]; exact hj, by rw [gk]; exact e2⟩
      · simp at hx; subst hx
        exact ⟨i, by rw [List.length_set]; exact hi, by rw [gk]; exact hk⟩
    · rw [List.length_set] at hj
      rw [gk]
      exact List.mem_append.2 (.inl (h.mem j hj))
  | none =>
    have hno := mpAt_none hm
    have hnF : e ∉ F := fun he => by
      obtain ⟨i, hi, e2⟩ := h.keys e he
      exact hno _ (getD_mem2 hi) e2
    have hc : F.count e = 0 := List.count_eq_zero.2 hnF
    have ew : w64 (0 + 1) = 1 := w64_small (by decide) (by decide)
    simp only [ew]
    have g1 : (m ++ [(e, (1 : Int))]).getD m.length (0, 0) = (e, 1) := by simp [List.getD]
    have g2 : ∀ j, j < m.length → (m ++ [(e, (1 : Int))]).getD j (0, 0) = m.getD j (0, 0) := fun j hj => by simp [List.getD, List.getElem?_append_left hj]
    have hlen : (m ++ [(e, (1 : Int))]).length = m.length + 1 := by simp
    refine ⟨fun a b ha hb he => ?_, fun j hj => ?_, fun x hx => ?_, fun j hj => ?_, by rw [hlen, List.length_append]; have := h.len; simp; omega⟩
    · rw [hlen] at ha hb
      by_cases h1 : a < m.length
      · by_cases h2 : b < m.length
        · rw [g2 a h1, g2 b h2] at he; exact h.nodup a b h1 h2 he
        · have : b = m.length := by omega
          subst this
          rw [g2 a h1, g1] at he
          exact absurd he (hno _ (getD_mem2 h1))
      · have : a = m.length := by omega
        subst this
        by_cases h2 : b < m.length
        · rw [g2 b h2, g1] at he
          exact absurd he.symm (hno _ (getD_mem2 h2))
        · omega
    · rw [hlen] at hj
      rw [count_app]
      by_cases h1 : j < m.length
      · rw [g2 j h1, h.val j h1, if_neg]
        · simp
        · intro e2; exact hno _ (getD_mem2 h1) e2.symm
      · have : j = m.length := by omega
        subst this
        rw [g1, hc]; simp
    · rcases List.mem_append.1 hx with hx | hx
      · obtain ⟨j, hj, e2⟩ := h.keys x hx
        exact ⟨j, by rw [hlen]; omega, by rw [g2 j hj]; exact e2⟩
      · simp at hx; subst hx
        exact ⟨m.length, by rw [hlen]; omega, by rw [g1]⟩
    · rw [hlen] at hj
      by_cases h1 : j < m.length
      · rw [g2 j h1]; exact List.mem_append.2 (.inl (h.mem j h1))
      · have : j = m.length := by omega
        subst this
        rw [g1]; simp
theorem tal_ok : ∀ (n : Nat) (F : List Int), F.length = n → F.length ≤ 1000000000 → Tal F (tal F)
  | 0, F, h, _ => by
    have : F = [] := List.eq_nil_of_length_eq_zero h
    subst this
    exact ⟨fun i j hi => by simp [tal] at hi, fun i hi => by simp [tal] at hi, fun e he => (by cases he), fun i hi => by simp [tal] at hi, by simp [tal]⟩
  | n + 1, F, h, hb => by
    have hne : F ≠ [] := fun e => by rw [e] at h; simp at h
    have e := List.dropLast_concat_getLast hne
    have hl : F.dropLast.length = n := by rw [List.length_dropLast, h]; rfl
    rw [← e, tal_app]
    exact (tal_ok n F.dropLast hl (by omega)).step (by omega) _
theorem count_sum {D : Nat} : ∀ {F : List Int}, (∀ e ∈ F, 0 ≤ e ∧ e < D) → (F.length : Int) = sumN (fun i => ((F.count (i : Int) : Nat) : Int)) D
  | [], _ => by simp [sumN_zero]
  | e :: F, h => by
    have ih := count_sum (F := F) fun x hx => h x (by simp [hx])
    obtain ⟨h0, h1⟩ := h e (by simp)
    have hs : sumN (fun i => if e = (i : Int) then (1 : Int) else 0) D = 1 := by
      have := sumN_dlt (fun _ => (1 : Int)) e.toNat D
      rw [if_pos (by omega)] at this
      refine Eq.trans (sumN_congr fun k hk => ?_) this
      unfold dlt
      by_cases hek : e = (k : Int)
      · rw [if_pos hek, if_pos (by omega)]; rfl
      · rw [if_neg hek, if_neg (by omega)]; rfl
    have e2 : sumN (fun i => (((e :: F).count (i : Int) : Nat) : Int)) D = sumN (fun i => ((F.count (i : Int) : Nat) : Int) + (if e = (i : Int) then (1 : Int) else 0)) D := by
      refine sumN_congr fun k hk => ?_
      rw [List.count_cons]
      by_cases hek : e = (k : Int)
      · simp [hek]
      · simp [hek]
    rw [e2, sumN_add, hs, ← ih]
    simp
/-- What a map's loop gives where each entry says yes or no. -/
theorem rangeM_val {g : Int → Int → Option (Ctl Unit Bool)} {l : List (Int × Int)} (Good : Int × Int → Prop) (h1 : ∀ p ∈ l, Good p → g p.1 p.2 = some (.next ())) (h2 : ∀ p ∈ l, ¬ Good p → g p.1 p.2 = some (.ret false)) :
    ((∀ p ∈ l, Good p) ∧ rangeM g l false = some (.fin ())) ∨ ((¬ ∀ p ∈ l, Good p) ∧ rangeM g l false = some (.ret false)) := by
  unfold rangeM
  by_cases hall : ∀ p ∈ l, Good p
  · left
    exact ⟨hall, if_pos fun p hp => h1 p hp (hall p hp)⟩
  · right
    refine ⟨hall, ?_⟩
    have hn : ¬ ∀ p ∈ l, g p.1 p.2 = some (.next ()) := fun hc => hall fun p hp => by
      apply Classical.byContradiction
      intro hb
      have := h2 p hp hb
      rw [hc p hp] at this
      cases this
    rw [if_neg hn, if_pos fun p hp => by
      by_cases hb : Good p
      · exact .inl (h1 p hp hb)
      · exact .inr (h2 p hp hb)]
/-- As many keys as places: each place is a key. -/
theorem onto_of {D : Nat} {f : Nat → Nat} (h : ∀ i, i < D → f i < D) (hi : ∀ i j, i < D → j < D → f i = f j → i = j) {x : Nat} (hx : x < D) : ∃ i, i < D ∧ f i = x := by
  apply Classical.byContradiction
  intro hn
  have hne : ∀ i, i < D → f i ≠ x := fun i hi he => hn ⟨i, hi, he⟩
  have := pigeon (D - 1) D (fun i => if x < f i then f i - 1 else f i) (fun i hi' => by
    have h1 := h i hi'
    have h2 := hne i hi'
    (try dsimp only)
    split <;> omega) (fun i j hi' hj' he => by
    have h1 := hne i hi'
    have h2 := hne j hj'
    try dsimp only at he
    refine hi i j hi' hj' ?_
    split at he <;> split at he <;> omega)
  omega
section
variable {G : List (List Int)}
theorem tri_iff (h3 : ∀ k, k < G.length → (G.getD k []).length = 3) (hG : G.length ≤ 1048576) :
    ((∀ p ∈ tal G.flatten, p.2 = 2 ∧ 0 ≤ p.1 ∧ p.1 ≤ ((tal G.flatten).length : Int) - 1) ∧ 1 ≤ (tal G.flatten).length ∧ (tal G.flatten).length ≤ 9) ↔ TriOK G := by
  have hrows : ∀ x ∈ G, x.length = 3 := fun x hx => by
    obtain ⟨k, hk, rfl⟩ := mem_getD [] hx
    exact h3 k hk
  have hFl := flat_len3 hrows
  have ht := tal_ok _ G.flatten rfl (by omega)
  generalize tal G.flatten = m at *
  constructor
  · rintro ⟨hall, hd1, hd2⟩
    have hat : ∀ i, i < m.length → (m.getD i (0, 0)).2 = 2 ∧ 0 ≤ (m.getD i (0, 0)).1 ∧ (m.getD i (0, 0)).1 ≤ (m.length : Int) - 1 := fun i hi => hall _ (getD_mem2 hi)
    have hcount : ∀ i : Nat, i < m.length → G.flatten.count (i : Int) = 2 := fun i hi => by
      obtain ⟨j, hj, e⟩ := onto_of (D := m.length) (f := fun i => (m.getD i (0, 0)).1.toNat) (fun i hi => by have := hat i hi; (try dsimp only); omega) (fun a b ha hb he => by
        have h1 := hat a ha
        have h2 := hat b hb
        try dsimp only at he
        exact ht.nodup a b ha hb (by omega)) hi
      have h1 := hat j hj
      have h2 := ht.val j hj
      try dsimp only at e
      have e2 : (m.getD j (0, 0)).1 = (i : Int) := by omega
      rw [e2] at h2
      omega
    have hin : ∀ e ∈ G.flatten, 0 ≤ e ∧ e < m.length := fun e he => by
      obtain ⟨i, hi, e2⟩ := ht.keys e he
      have := hat i hi
      rw [e2] at this
      omega
    refine ⟨h3, m.length, hd1, hd2, ?_, hin, hcount⟩
    have hs := count_sum hin
    have hs2 : sumN (fun i => ((G.flatten.count (i : Int) : Nat) : Int)) m.length = sumN (fun _ => 2 * 1) m.length := sumN_congr fun k hk => by rw [hcount k hk]; rfl
    have hone : ∀ n : Nat, sumN (fun _ => (1 : Int)) n = n := fun n => by
      induction n with
      | zero => rfl
      | succ n ih => simp only [sumN, ih]; omega
    rw [hs2, sumN_mulL, hone, hFl] at hs
    omega
  · rintro ⟨_, E, hE1, hE2, hE3, hin, hcount⟩
    have hat : ∀ i, i < m.length → (m.getD i (0, 0)).2 = 2 ∧ 0 ≤ (m.getD i (0, 0)).1 ∧ (m.getD i (0, 0)).1 < E := fun i hi => by
      have h1 := hin _ (ht.mem i hi)
      have h2 := ht.val i hi
      have h3 := hcount (m.getD i (0, 0)).1.toNat (by omega)
      rw [show (((m.getD i (0, 0)).1.toNat : Nat) : Int) = (m.getD i (0, 0)).1 by omega] at h3
      omega
    have hDE : m.length ≤ E := pigeon E m.length (fun i => (m.getD i (0, 0)).1.toNat) (fun i hi => by have := hat i hi; (try dsimp only); omega) (fun a b ha hb he => by
      have h1 := hat a ha
      have h2 := hat b hb
      try dsimp only at he
      exact ht.nodup a b ha hb (by omega))
    have hED : E ≤ m.length := by
      have ex : ∀ i : Nat, ∃ j, i < E → j < m.length ∧ (m.getD j (0, 0)).1 = (i : Int) := fun i => by
        by_cases hi : i < E
        · have hc := hcount i hi
          obtain ⟨j, hj, e⟩ := ht.keys (i : Int) (List.count_pos_iff.1 (by omega))
          exact ⟨j, fun _ => ⟨hj, e⟩⟩
        · exact ⟨0, fun h => absurd h hi⟩
      obtain ⟨f, hf⟩ := Classical.axiomOfChoice ex
      exact pigeon m.length E f (fun i hi => (hf i hi).1) (fun a b ha hb he => by
        have h1 := (hf a ha).2
        have h2 := (hf b hb).2
        rw [he] at h1
        omega)
    refine ⟨fun p hp => ?_, by omega, by omega⟩
    obtain ⟨i, hi⟩ := List.mem_iff_getElem?.1 hp
    have hl := (List.getElem?_eq_some_iff.1 hi).1
    have e : m.getD i (0, 0) = p := by simp [List.getD, hi]
    have := hat i hl
    rw [e] at this
    omega
theorem implTri (hG : G.length ≤ 1048576) : Says (p_impl_IsTrivalent G) (TriOK G) := by
  unfold p_impl_IsTrivalent
  rcases forN_scan (R := Bool) (b := fun k s => p_impl_IsTrivalent_L1 G k s) (N := G.length) (fun k => (G.getD k []).length = 3) (fun k => tal (G.take k).flatten) (r0 := false) (fun k hk h => by
      have e : (((G.getD k []).length : Int) != 3) = false := by rw [h]; rfl
      have e2 := forN_det (R := Unit) (N := (G.getD k []).length) (body := fun j s => p_impl_IsTrivalent_L2 (G.getD k []) j s) (fun j => tal ((G.take k).flatten ++ (G.getD k []).take j)) (fun j hj => by
        simp only [p_impl_IsTrivalent_L2, idx_getD (G.getD k []) 0 hj, Option.bind_some]
        rw [take_step (G.getD k []) 0 hj, ← List.append_assoc, tal_app]
        rfl)
      simp only [List.take_zero, List.append_nil, List.take_length] at e2
      rw [← flat_step G hk] at e2
      simp only [p_impl_IsTrivalent_L1, idx_getD G [] hk, Option.bind_some, e, Bool.false_eq_true, if_false, e2, onRes]) (fun k hk h => by
      have e : (((G.getD k []).length : Int) != 3) = true := by rw [bne_iff_ne]; omega
      simp only [p_impl_IsTrivalent_L1, idx_getD G [] hk, Option.bind_some, e, if_true]) with ⟨h3, e1⟩ | ⟨⟨k, hk, hbad⟩, e1⟩
  · have e1' : forN (R := Bool) (fun k s => p_impl_IsTrivalent_L1 G k s) G.length 0 ([] : List (Int × Int)) = _ := e1
    rw [e1']
    simp only [Option.bind_some, onRes, List.take_length]
    have hrows : ∀ x ∈ G, x.length = 3 := fun x hx => by
      obtain ⟨k, hk, rfl⟩ := mem_getD [] hx
      exact h3 k hk
    have hFl := flat_len3 hrows
    have hle := (tal_ok _ G.flatten rfl (by omega)).len
    refine Says.congr ?_ (tri_iff h3 hG)
    generalize tal G.flatten = m at *
    have el : mpLen m = some (m.length : Int) := by unfold mpLen; rw [if_pos (by omega)]
    rcases rangeM_val (g := p_impl_IsTrivalent_L3 m) (l := m) (fun p => p.2 = 2 ∧ 0 ≤ p.1 ∧ p.1 ≤ (m.length : Int) - 1) (fun p hp hg => by
        have e2 : (p.2 != 2) = false := by rw [hg.1]; rfl
        have hin : (decide (p.1 ≥ 0) && decide (p.1 ≤ w64 ((m.length : Int) - 1))) = true := by
          rw [w64_small (by omega) (by omega)]; simp only [Bool.and_eq_true, decide_eq_true_eq]; omega
        simp only [p_impl_IsTrivalent_L3, e2, Bool.false_eq_true, if_false, el, Option.bind_some, p_impl_within, hin, Bool.not_true]) (fun p hp hg => by
        by_cases h2 : p.2 = 2
        · have e2 : (p.2 != 2) = false := by rw [h2]; rfl
          have hin : (decide (p.1 ≥ 0) && decide (p.1 ≤ w64 ((m.length : Int) - 1))) = false := by
            rw [w64_small (by omega) (by omega)]; simp only [Bool.and_eq_false_iff, decide_eq_false_iff_not]; omega
          simp only [p_impl_IsTrivalent_L3, e2, Bool.false_eq_true, if_false, el, Option.bind_some, p_impl_within, hin, Bool.not_false, if_true]
        · have e2 : (p.2 != 2) = true := bne_iff_ne.2 h2
          simp only [p_impl_IsTrivalent_L3, e2, if_true, Option.bind_some]) with ⟨hall, er⟩ | ⟨hn, er⟩
    · simp only [er, Option.bind_some, el]
      by_cases h1 : 1 ≤ m.length
      · have d1 : decide ((m.length : Int) ≥ 1) = true := decide_eq_true (by omega)
        simp only [d1, if_true, Option.bind_some]
        refine ⟨_, rfl, ?_⟩
        simp only [decide_eq_true_eq]
        constructor
        · intro h; exact ⟨hall, h1, by omega⟩
        · intro h; omega
      · have d1 : decide ((m.length : Int) ≥ 1) = false := decide_eq_false (by omega)
        simp only [d1, Bool.false_eq_true, if_false, Option.bind_some]
        exact ⟨false, rfl, ⟨fun h => (by cases h), fun h => absurd h.2.1 h1⟩⟩
    · simp only [er, Option.bind_some]
      exact ⟨false, rfl, ⟨fun h => (by cases h), fun h => absurd h.1 hn⟩⟩
  · have e1' : forN (R := Bool) (fun k s => p_impl_IsTrivalent_L1 G k s) G.length 0 ([] : List (Int × Int)) = _ := e1
    rw [e1']
    exact ⟨false, rfl, ⟨fun h => (by cases h), fun h => absurd (h.1 k hk) hbad⟩⟩
end
end Go.VG
