/- Graphs of which each vertex has three ends of edges: the code's count by a map, the model's by a list. Plain. -/
import Derived.Test.YtbgebkgpodgjdaaPlGrid
import Derived.Test.YtbgebkgpodgjdaaPlLin
set_option linter.all false
namespace Go.VG
theorem forN_scan {S R : Type} {b : Nat → S → Option (Ctl S R)} {N : Nat} (Good : Nat → Prop) (g : Nat → S) {r0 : R} (hg : ∀ k, k < N → Good k → b k (g k) = some (.next (g (k + 1)))) (hb : ∀ k, k < N → ¬ Good k → b k (g k) = some (.ret r0)) :
    ((∀ k, k < N → Good k) ∧ forN b N 0 (g 0) = some (.fin (g N))) ∨ ((∃ k, k < N ∧ ¬ Good k) ∧ forN b N 0 (g 0) = some (.ret r0)) := by
  have key : ∀ c k, k + c = N → (∀ j, j < k → Good j) → ((∀ k, k < N → Good k) ∧ forN b c k (g k) = some (.fin (g N))) ∨ ((∃ k, k < N ∧ ¬ Good k) ∧ forN b c k (g k) = some (.ret r0)) := by
    intro c
    induction c with
    | zero => intro k hk hj; have : k = N := by omega
              subst this; exact .inl ⟨hj, rfl⟩
    | succ c ih =>
      intro k hk hj
      by_cases h : Good k
      · rw [forN_next1 (hg k (by omega) h)]
        exact ih (k + 1) (by omega) fun j hjk => by
          by_cases e : j < k
          · exact hj j e
          · have : j = k := by omega
            rw [this]; exact h
      · exact .inr ⟨⟨k, by omega, h⟩, forN_ret1 (hb k (by omega) h)⟩
  exact key N 0 (by omega) fun j hj => by omega
theorem flat_step {α : Type} (l : List (List α)) {j : Nat} (hj : j < l.length) : (l.take (j + 1)).flatten = (l.take j).flatten ++ l.getD j [] := by
  rw [List.take_succ_eq_append_getElem hj, List.flatten_append]
  simp [List.getElem?_eq_getElem hj]
theorem take_step {α : Type} (l : List α) (d : α) {j : Nat} (hj : j < l.length) : l.take (j + 1) = l.take j ++ [l.getD j d] := by
  rw [List.take_succ_eq_append_getElem hj]
  simp [List.getElem?_eq_getElem hj]
theorem flat_len3 : ∀ {l : List (List Int)}, (∀ x ∈ l, x.length = 3) → l.flatten.length = 3 * l.length
  | [], _ => rfl
  | x :: l, h => by
    rw [List.flatten_cons, List.length_append, flat_len3 fun y hy => h y (by simp [hy]), h x (by simp), List.length_cons]
    omega
def TriOK (G : List (List Int)) : Prop := (∀ k, k < G.length → (G.getD k []).length = 3) ∧ ∃ E : Nat, 1 ≤ E ∧ E ≤ 9 ∧ 2 * E = 3 * G.length ∧ (∀ e ∈ G.flatten, 0 ≤ e ∧ e < E) ∧ ∀ i : Nat, i < E → G.flatten.count (i : Int) = 2

/-! ### The model's count -/
def cnt (F : List Int) (E : Nat) : List Int := vecG (fun i => ((F.count (i : Int) : Nat) : Int)) E
theorem count_app (F : List Int) (e i : Int) : (F ++ [e]).count i = F.count i + if e = i then 1 else 0 := by
  rw [List.count_append]
  congr 1
  by_cases h : e = i
  · subst h; simp
  · simp [h]
theorem cnt_step {F : List Int} {E : Nat} {e : Int} (he : 0 ≤ e ∧ e < E) (hF : F.length ≤ 1000000) : idx (cnt F E) e = some ((F.count e : Nat) : Int) ∧ (cnt F E).set e.toNat (w64 (((F.count e : Nat) : Int) + 1)) = cnt (F ++ [e]) E := by
  obtain ⟨i, rfl⟩ : ∃ i : Nat, e = (i : Int) := ⟨e.toNat, by omega⟩
  have hi : i < E := by omega
  have hc : F.count (i : Int) ≤ F.length := List.count_le_length
  refine ⟨vecG_idx (f := fun i => ((F.count ((i : Nat) : Int) : Nat) : Int)) hi, ?_⟩
  rw [Int.toNat_natCast, w64_small (by omega) (by omega)]
  unfold cnt
  rw [vecG_set hi]
  refine vecG_congr fun j hj => ?_
  simp only [up1]
  rw [count_app]
  by_cases h : j = i
  · subst h; simp
  · have : ¬ (i : Int) = (j : Int) := by omega
    rw [if_neg h, if_neg this]; rfl
section
variable {G : List (List Int)}
theorem specTri (hG : G.length ≤ 1048576) : Says (p_spec_l15Graph G) (TriOK G) := by
  unfold p_spec_l15Graph
  rcases forN_scan (R := Bool) (b := fun k s => p_spec_l15Graph_L1 G k s) (N := G.length) (fun k => (G.getD k []).length = 3) (fun k => 3 * (k : Int)) (r0 := false) (fun k hk h => by
      have e : (((G.getD k []).length : Int) != 3) = false := by rw [h]; rfl
      simp only [p_spec_l15Graph_L1, idx_getD G [] hk, Option.bind_some, e, Bool.false_eq_true, if_false]
      rw [w64_small (by omega) (by omega)]
      have : 3 * (k : Int) + 3 = 3 * ((k + 1 : Nat) : Int) := by omega
      rw [this]) (fun k hk h => by
      have e : (((G.getD k []).length : Int) != 3) = true := by rw [bne_iff_ne]; omega
      simp only [p_spec_l15Graph_L1, idx_getD G [] hk, Option.bind_some, e, if_true]) with ⟨h3, e1⟩ | ⟨⟨k, hk, hbad⟩, e1⟩
  · have e1' : forN (R := Bool) (fun k s => p_spec_l15Graph_L1 G k s) G.length 0 (0 : Int) = _ := e1
    rw [e1']
    simp only [Option.bind_some, onRes]
    have hrows : ∀ x ∈ G, x.length = 3 := fun x hx => by
      obtain ⟨k, hk, rfl⟩ := mem_getD [] hx
      exact h3 k hk
    have hFl := flat_len3 hrows
    by_cases hc : (3 * G.length) % 2 = 0 ∧ 2 ≤ 3 * G.length ∧ 3 * G.length ≤ 18
    · have et : (3 * (G.length : Int)).tmod 2 = 0 := by
        rw [Int.tmod_eq_emod_of_nonneg (by omega)]; omega
      have ec : ((((3 * (G.length : Int)).tmod 2 != 0) || decide (3 * (G.length : Int) < 2)) || decide (3 * (G.length : Int) > 18)) = false := by
        rw [et]
        simp only [bne_self_eq_false, Bool.false_or, Bool.or_eq_false_iff, decide_eq_false_iff_not]
        omega
      rw [ec]
      simp only [Bool.false_eq_true, if_false]
      obtain ⟨E, hE⟩ : ∃ E : Nat, 2 * E = 3 * G.length := ⟨3 * G.length / 2, by omega⟩
      have ed : (3 * (G.length : Int)).tdiv 2 = (E : Int) := by
        rw [Int.tdiv_eq_ediv_of_nonneg (by omega)]; omega
      rw [ed, w64_small (by omega) (by omega), mkL_some' (0 : Int) (by omega)]
      simp only [Option.bind_some]
      have ez : List.replicate E (0 : Int) = cnt [] E := by
        unfold cnt vecG
        apply List.ext_getElem
        · simp
        · intro i h1 h2; simp
      rw [ez]
      have hFb : ∀ k j : Nat, k < G.length → j ≤ 3 → ((G.take k).flatten ++ (G.getD k []).take j).length ≤ 1000000 := fun k j hk hj => by
        have := flat_len3 (l := G.take k) fun x hx => hrows x (List.mem_of_mem_take hx)
        rw [List.length_append, this, List.length_take, List.length_take]
        omega
      have inner : ∀ k, k < G.length → ((∀ j, j < 3 → 0 ≤ (G.getD k []).getD j 0 ∧ (G.getD k []).getD j 0 < E) ∧ forN (R := Bool) (fun j s => p_spec_l15Graph_L3 G k j s) 3 0 (cnt (G.take k).flatten E) = some (.fin (cnt (G.take (k + 1)).flatten E))) ∨
          ((∃ j, j < 3 ∧ ¬ (0 ≤ (G.getD k []).getD j 0 ∧ (G.getD k []).getD j 0 < E)) ∧ forN (R := Bool) (fun j s => p_spec_l15Graph_L3 G k j s) 3 0 (cnt (G.take k).flatten E) = some (.ret false)) := fun k hk => by
        have hl : (G.getD k []).length = 3 := h3 k hk
        have := forN_scan (R := Bool) (b := fun j s => p_spec_l15Graph_L3 G k j s) (N := 3) (fun j => 0 ≤ (G.getD k []).getD j 0 ∧ (G.getD k []).getD j 0 < E) (fun j => cnt ((G.take k).flatten ++ (G.getD k []).take j) E) (r0 := false) (fun j hj hg => by
          have hb := hFb k j hk (by omega)
          obtain ⟨q1, q2⟩ := cnt_step (F := (G.take k).flatten ++ (G.getD k []).take j) hg hb
          have hlen : (cnt ((G.take k).flatten ++ (G.getD k []).take j) E).length = E := vecG_len
          have hin : (decide ((G.getD k []).getD j 0 ≥ 0) && decide ((G.getD k []).getD j 0 ≤ w64 ((E : Int) - 1))) = true := by
            rw [w64_small (by omega) (by omega)]; simp only [Bool.and_eq_true, decide_eq_true_eq]; omega
          simp only [p_spec_l15Graph_L3, p_spec_l01In, idx_getD G [] hk, idx_getD (G.getD k []) 0 (by omega : j < (G.getD k []).length), Option.bind_some, hlen, hin, Bool.not_true, Bool.false_eq_true, if_false, q1, q2]
          rw [take_step (G.getD k []) 0 (by omega : j < (G.getD k []).length), ← List.append_assoc]) (fun j hj hg => by
          have hlen : (cnt ((G.take k).flatten ++ (G.getD k []).take j) E).length = E := vecG_len
          have hin : (decide ((G.getD k []).getD j 0 ≥ 0) && decide ((G.getD k []).getD j 0 ≤ w64 ((E : Int) - 1))) = false := by
            rw [w64_small (by omega) (by omega)]; simp only [Bool.and_eq_false_iff, decide_eq_false_iff_not]; omega
          simp only [p_spec_l15Graph_L3, p_spec_l01In, idx_getD G [] hk, idx_getD (G.getD k []) 0 (by omega : j < (G.getD k []).length), Option.bind_some, hlen, hin, Bool.not_false, if_true])
        simp only [List.take_zero, List.append_nil] at this
        have e3 : (G.getD k []).take 3 = G.getD k [] := List.take_of_length_le (by omega)
        rw [e3, ← flat_step G hk] at this
        exact this
      have t3 : (3 : Int).toNat = 3 := rfl
      rcases forN_scan (R := Bool) (b := fun k s => p_spec_l15Graph_L2 G k s) (N := G.length) (fun k => ∀ j, j < 3 → 0 ≤ (G.getD k []).getD j 0 ∧ (G.getD k []).getD j 0 < E) (fun k => cnt (G.take k).flatten E) (r0 := false) (fun k hk h => by
          rcases inner k hk with ⟨_, e⟩ | ⟨⟨j, hj, hn⟩, _⟩
          · simp only [p_spec_l15Graph_L2, t3, e, Option.bind_some, onRes]
          · exact absurd (h j hj) hn) (fun k hk h => by
          rcases inner k hk with ⟨h', _⟩ | ⟨_, e⟩
          · exact absurd h' h
          · simp only [p_spec_l15Graph_L2, t3, e, Option.bind_some, onRes]) with ⟨hin, e2⟩ | ⟨⟨k, hk, hbad⟩, e2⟩
      · have e2' : forN (R := Bool) (fun k s => p_spec_l15Graph_L2 G k s) G.length 0 (cnt [] E) = _ := e2
        rw [e2']
        simp only [Option.bind_some, onRes, List.take_length]
        have hin' : ∀ e ∈ G.flatten, 0 ≤ e ∧ e < E := fun e he => by
          obtain ⟨row, hr, he⟩ := List.mem_flatten.1 he
          obtain ⟨k, hk, rfl⟩ := mem_getD [] hr
          obtain ⟨j, hj, rfl⟩ := mem_getD 0 he
          exact hin k hk j (by have := h3 k hk; omega)
        have hlen : (cnt G.flatten E).length = E := vecG_len
        refine Says.congr (Chk.says (forN_chk (P := fun i => G.flatten.count (i : Int) = 2) fun i hi _ => ?_)) ?_
        · rw [hlen] at hi
          simp only [p_spec_l15Graph_L4, show idx (cnt G.flatten E) (i : Int) = _ from vecG_idx (f := fun i => ((G.flatten.count ((i : Nat) : Int) : Nat) : Int)) hi, Option.bind_some]
          exact ChkC.congr (ChkC.ite rfl) (by rw [bne_eq_false_iff_eq]; omega)
        · rw [hlen]
          constructor
          · intro h; exact ⟨h3, E, by omega, by omega, hE, hin', h⟩
          · rintro ⟨_, E', _, _, h5, _, h7⟩
            have : E' = E := by omega
            subst this; exact h7
      · have e2' : forN (R := Bool) (fun k s => p_spec_l15Graph_L2 G k s) G.length 0 (cnt [] E) = _ := e2
        rw [e2']
        refine ⟨false, rfl, ⟨fun h => (by cases h), fun ⟨_, E', _, _, h5, h6, _⟩ => absurd (fun j hj => ?_) hbad⟩⟩
        have : E' = E := by omega
        subst this
        have hl := h3 k hk
        exact h6 _ (List.mem_flatten.2 ⟨_, getD_mem hk, getD_mem (by omega)⟩)
    · have ec : ((((3 * (G.length : Int)).tmod 2 != 0) || decide (3 * (G.length : Int) < 2)) || decide (3 * (G.length : Int) > 18)) = true := by
        have et : (3 * (G.length : Int)).tmod 2 = (3 * (G.length : Int)) % 2 := Int.tmod_eq_emod_of_nonneg (by omega)
        rw [et]
        by_cases h0 : (3 * (G.length : Int)) % 2 = 0
        · simp only [Bool.or_eq_true, decide_eq_true_eq]; omega
        · have : ((3 * (G.length : Int)) % 2 != 0) = true := bne_iff_ne.2 h0
          rw [this]; rfl
      rw [ec]
      exact ⟨false, rfl, ⟨fun h => (by cases h), fun ⟨_, E, h4, h5, h6, _⟩ => absurd ⟨by omega, by omega, by omega⟩ hc⟩⟩
  · have e1' : forN (R := Bool) (fun k s => p_spec_l15Graph_L1 G k s) G.length 0 (0 : Int) = _ := e1
    rw [e1']
    exact ⟨false, rfl, by simp; exact fun h => hbad (h.1 k hk)⟩
end
end Go.VG
