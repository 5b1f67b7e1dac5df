/- The plain law of FnExactGraphDimension. No condition but the readings'. -/
import Derived.Test.YtbgebkgpodgjdaaPlGSum2
set_option linter.all false
namespace Go.VG
theorem forN_scan2 {S R : Type} {b : Nat → S → Option (Ctl S R)} {N : Nat} (Good : Nat → Prop) (g : Nat → S) {r0 : R} (hg : ∀ k, k < N → (∀ j, j < k → Good j) → Good k → b k (g k) = some (.next (g (k + 1)))) (hb : ∀ k, k < N → (∀ j, j < k → Good j) → ¬ Good k → b k (g k) = some (.ret r0)) :
    ((∀ k, k < N → Good k) ∧ forN b N 0 (g 0) = some (.fin (g N))) ∨ ((¬ ∀ k, k < N → Good k) ∧ forN b N 0 (g 0) = some (.ret r0)) := by
  have key : ∀ c k, k + c = N → (∀ j, j < k → Good j) → ((∀ k, k < N → Good k) ∧ forN b c k (g k) = some (.fin (g N))) ∨ ((¬ ∀ k, k < N → Good k) ∧ forN b c k (g k) = some (.ret r0)) := by
    intro c
    induction c with
    | zero => intro k hk hj; have : k = N := by omega
              subst this; exact .inl ⟨hj, rfl⟩
    | succ c ih =>
      intro k hk hj
      by_cases h : Good k
      · rw [forN_next1 (hg k (by omega) hj h)]
        exact ih (k + 1) (by omega) fun j hjk => by
          by_cases e : j < k
          · exact hj j e
          · have : j = k := by omega
            rw [this]; exact h
      · exact .inr ⟨fun hc => h (hc k (by omega)), forN_ret1 (hb k (by omega) hj h)⟩
  exact key N 0 (by omega) fun j hj => by omega

/-! ### The greatest number -/
def MX (Q : Int → Prop) (s r : Int) : Prop := s ≤ r ∧ (∀ x, Q x → x ≤ r) ∧ (r = s ∨ Q r)
theorem forN_mx {b : Nat → Int → Option (Ctl Int Unit)} {N : Nat} {Q : Nat → Int → Prop} (h : ∀ k, k < N → ∀ s, ∃ r, b k s = some (.next r) ∧ MX (Q k) s r) (s : Int) : ∃ r, forN b N 0 s = some (.fin r) ∧ MX (fun x => ∃ k, k < N ∧ Q k x) s r := by
  obtain ⟨r, e, h1, h2, h3⟩ := forN_inv (R := Unit) (body := b) (N := N) (s := s) (fun k r => s ≤ r ∧ (∀ x, (∃ j, j < k ∧ Q j x) → x ≤ r) ∧ (r = s ∨ ∃ j, j < k ∧ Q j r)) ⟨Int.le_refl _, fun x ⟨j, hj, _⟩ => by omega, .inl rfl⟩ (fun k r hk ⟨g1, g2, g3⟩ => by
    obtain ⟨r', e, h1, h2, h3⟩ := h k hk r
    refine ⟨r', e, by omega, fun x ⟨j, hj, hq⟩ => ?_, ?_⟩
    · by_cases hjk : j < k
      · have := g2 x ⟨j, hjk, hq⟩; omega
      · have : j = k := by omega
        subst this; exact h2 x hq
    · rcases h3 with h3 | h3
      · rw [h3]
        rcases g3 with g3 | ⟨j, hj, g3⟩
        · exact .inl g3
        · exact .inr ⟨j, by omega, g3⟩
      · exact .inr ⟨k, by omega, h3⟩)
  exact ⟨r, e, h1, h2, h3⟩
theorem mx_one (f s : Int) : MX (fun x => x = f) s (if f > s then f else s) := by
  unfold MX
  split
  · exact ⟨by omega, fun x hx => by omega, .inr rfl⟩
  · exact ⟨by omega, fun x hx => by omega, .inl rfl⟩
section
variable {T : List (List (List Int))}
def EntQ (T : List (List (List Int))) (x : Int) : Prop := ∃ i j k, i < T.length ∧ j < T.length ∧ k < T.length ∧ x = at3 T i j k
theorem specMost (h : Cube T) : ∃ r, forN (R := Unit) (fun k s => p_spec_GraphDimension_L2 T k s) T.length 0 (1 : Int) = some (.fin r) ∧ MX (EntQ T) 1 r := by
  obtain ⟨r, e, h1, h2, h3⟩ := forN_mx (b := fun k s => p_spec_GraphDimension_L2 T k s) (N := T.length) (Q := fun i x => ∃ j, j < T.length ∧ ∃ k, k < T.length ∧ x = at3 T i j k) (fun i hi s => by
    obtain ⟨r, e, h1⟩ := forN_mx (b := fun k s => p_spec_GraphDimension_L3 T i k s) (N := T.length) (Q := fun j x => ∃ k, k < T.length ∧ x = at3 T i j k) (fun j hj s => by
      obtain ⟨r, e, h1⟩ := forN_mx (b := fun k s => p_spec_GraphDimension_L4 T i j k s) (N := T.length) (Q := fun k x => x = at3 T i j k) (fun k hk s => by
        refine ⟨_, ?_, mx_one (at3 T i j k) s⟩
        simp only [p_spec_GraphDimension_L4, h.i1 hi, h.i2 hi hj, h.i3 hi hj hk, Option.bind_some]) s
      exact ⟨r, by simp only [p_spec_GraphDimension_L3, e, Option.bind_some, onRes], h1⟩) s
    exact ⟨r, by simp only [p_spec_GraphDimension_L2, e, Option.bind_some, onRes], h1⟩) 1
  refine ⟨r, e, h1, fun x ⟨i, j, k, hi, hj, hk, hx⟩ => h2 x ⟨i, hi, j, hj, k, hk, hx⟩, ?_⟩
  rcases h3 with h3 | ⟨i, hi, j, hj, k, hk, hx⟩
  · exact .inl h3
  · exact .inr ⟨i, j, k, hi, hj, hk, hx⟩
theorem rowMax {l : List Int} (hl : 1 ≤ l.length ∧ l.length ≤ 1048576) : ∃ r, p_slices_Max_Lint64_int64 l = some r ∧ (∀ k, k < l.length → l.getD k 0 ≤ r) ∧ ∃ k, k < l.length ∧ r = l.getD k 0 := by
  unfold p_slices_Max_Lint64_int64
  have d1 : decide ((l.length : Int) < 1) = false := decide_eq_false (by omega)
  have i0 : idx l (0 : Int) = some (l.getD 0 0) := idx_getD l 0 (i := 0) (by omega)
  have en : ((l.length : Int) - 1).toNat = l.length - 1 := by omega
  simp only [d1, Bool.false_eq_true, if_false, Option.bind_some, i0, en]
  obtain ⟨r, e, h1, h2, h3⟩ := forN_mx (b := fun k s => p_slices_Max_Lint64_int64_L1 l k s) (N := l.length - 1) (Q := fun k x => x = l.getD (1 + k) 0) (fun k hk s => by
    refine ⟨_, ?_, mx_one (l.getD (1 + k) 0) s⟩
    have ex : (1 : Int) + (k : Int) = ((1 + k : Nat) : Int) := by omega
    simp only [p_slices_Max_Lint64_int64_L1, ex, idx_getD l 0 (by omega : 1 + k < l.length), Option.bind_some]) (l.getD 0 0)
  simp only [e, Option.bind_some, onRes]
  refine ⟨r, rfl, fun k hk => ?_, ?_⟩
  · by_cases h0 : k = 0
    · subst h0; exact h1
    · exact h2 _ ⟨k - 1, by omega, by rw [show 1 + (k - 1) = k from by omega]⟩
  · rcases h3 with h3 | ⟨k, hk, hx⟩
    · exact ⟨0, by omega, h3⟩
    · exact ⟨1 + k, by omega, hx⟩
theorem implMost (h : Cube T) : ∃ r, p_impl_Ring_greatest T = some r ∧ MX (EntQ T) 0 r := by
  have hn := h.1
  obtain ⟨r, e, h1, h2, h3⟩ := forN_mx (b := fun k s => p_impl_Ring_greatest_L1 T k s) (N := T.length) (Q := fun i x => ∃ j, j < T.length ∧ ∃ k, k < T.length ∧ x = at3 T i j k ∧ ∀ k', k' < T.length → at3 T i j k' ≤ x) (fun i hi s => by
    obtain ⟨r, e, h1⟩ := forN_mx (b := fun k s => p_impl_Ring_greatest_L2 (T.getD i []) k s) (N := T.length) (Q := fun j x => ∃ k, k < T.length ∧ x = at3 T i j k ∧ ∀ k', k' < T.length → at3 T i j k' ≤ x) (fun j hj s => by
      have hrl := h.row hi hj
      obtain ⟨r, e, g1, k, hk, hx⟩ := rowMax (l := (T.getD i []).getD j []) (by omega)
      rw [hrl] at g1 hk
      obtain ⟨m1, m2, m3⟩ := mx_one r s
      refine ⟨_, by simp only [p_impl_Ring_greatest_L2, h.i2 hi hj, e, Option.bind_some], m1, fun x hq => ?_, ?_⟩
      · obtain ⟨k', hk', hx', hall⟩ := hq
        have e1 : x ≤ r := by rw [hx']; exact g1 k' hk'
        have := m2 r rfl
        omega
      · rcases m3 with m3 | m3
        · exact .inl m3
        · refine .inr ?_
          rw [m3]
          exact ⟨k, hk, hx, g1⟩) s
    exact ⟨r, by simp only [p_impl_Ring_greatest_L1, h.i1 hi, h.mat hi, e, Option.bind_some, onRes], h1⟩) 0
  unfold p_impl_Ring_greatest
  simp only [e, Option.bind_some, onRes]
  refine ⟨r, rfl, h1, fun x ⟨i, j, k, hi, hj, hk, hx⟩ => ?_, ?_⟩
  · obtain ⟨m, hm, g1, k2, hk2, hx2⟩ := rowMax (l := (T.getD i []).getD j []) (by rw [h.row hi hj]; omega)
    rw [h.row hi hj] at g1 hk2
    have a1 := h2 m ⟨i, hi, j, hj, k2, hk2, hx2, g1⟩
    have a2 := g1 k hk
    rw [hx]
    unfold at3
    omega
  · rcases h3 with h3 | ⟨i, hi, j, hj, k, hk, hx, _⟩
    · exact .inl h3
    · exact .inr ⟨i, j, k, hi, hj, hk, hx⟩
theorem most_eq (h : RingOK T) : ∃ g : Nat, 1 ≤ g ∧ g ≤ 1000 ∧ forN (R := Unit) (fun k s => p_spec_GraphDimension_L2 T k s) T.length 0 (1 : Int) = some (.fin (g : Int)) ∧ p_impl_Ring_greatest T = some (g : Int) := by
  obtain ⟨r, e, h1, h2, h3⟩ := specMost h.cube
  obtain ⟨r', e', h1', h2', h3'⟩ := implMost h.cube
  have hn := h.cube.1
  have u0 : EntQ T 1 := ⟨0, 0, 0, by omega, by omega, by omega, by have := (h.unit 0 (by omega) 0 (by omega)).1; rw [this]; rfl⟩
  have hr : EntQ T r := by
    rcases h3 with h3 | h3
    · rw [h3]; exact u0
    · exact h3
  have hr' : EntQ T r' := by
    rcases h3' with h3' | h3'
    · have := h2' 1 u0; omega
    · exact h3'
  have q1 := h2 r' hr'
  have q2 := h2' r hr
  have e3 : r' = r := by omega
  subst e3
  obtain ⟨i, j, k, hi, hj, hk, hx⟩ := hr
  have hb := h.cube.rng hi hj hk
  obtain ⟨g, rfl⟩ : ∃ g : Nat, r' = (g : Int) := ⟨r'.toNat, by omega⟩
  exact ⟨g, by omega, by omega, e, e'⟩

/-! ### The limits -/
theorem pow_mul_le {n k : Nat} : n ^ k * n = n ^ (k + 1) := by rw [Nat.pow_succ]
theorem lab_loop {R : Type} {n E : Nat} (hn : 1 ≤ n ∧ n ≤ 16) {b : Nat → Int → Option (Ctl Int R)} {r0 : R} (hb : ∀ k x, b k x = if decide (w64 (x * (n : Int)) > 300000) = true then some (.ret r0) else some (.next (w64 (x * (n : Int))))) :
    ((∀ k, k < E → n ^ (k + 1) ≤ 300000) ∧ forN b E 0 (1 : Int) = some (.fin ((n ^ E : Nat) : Int))) ∨ ((¬ ∀ k, k < E → n ^ (k + 1) ≤ 300000) ∧ forN b E 0 (1 : Int) = some (.ret r0)) := by
  have hs : ∀ k, k < E → (∀ j, j < k → n ^ (j + 1) ≤ 300000) → n ^ k ≤ 300000 := fun k _ hj => by
    cases k with
    | zero => simp
    | succ k => exact hj k (by omega)
  have hw : ∀ k, k < E → (∀ j, j < k → n ^ (j + 1) ≤ 300000) → w64 (((n ^ k : Nat) : Int) * (n : Int)) = ((n ^ (k + 1) : Nat) : Int) := fun k hk hj => by
    have h1 := hs k hk hj
    have h2 : n ^ k * n ≤ 300000 * 16 := Nat.mul_le_mul h1 hn.2
    have e : ((n ^ k : Nat) : Int) * (n : Int) = ((n ^ (k + 1) : Nat) : Int) := by rw [← pow_mul_le]; exact (Int.natCast_mul _ _).symm
    rw [← pow_mul_le] at e ⊢
    rw [e]
    exact w64_small (by omega) (by omega)
  have := forN_scan2 (b := b) (N := E) (fun k => n ^ (k + 1) ≤ 300000) (fun k => ((n ^ k : Nat) : Int)) (r0 := r0) (fun k hk hj hg => by
    rw [hb, hw k hk hj]
    have : decide (((n ^ (k + 1) : Nat) : Int) > 300000) = false := decide_eq_false (by omega)
    rw [this]; rfl) (fun k hk hj hg => by
    rw [hb, hw k hk hj]
    have : decide (((n ^ (k + 1) : Nat) : Int) > 300000) = true := decide_eq_true (by omega)
    rw [this]; rfl)
  simpa using this
theorem lim_small {a g : Nat} (ha : a ≤ 1000000000000000) (hg : g ≤ 1000) : a * g ≤ 1000000000000000000 := Nat.mul_le_mul ha hg
theorem w64_lim {a g : Nat} (ha : a ≤ 1000000000000000) (hg : g ≤ 1000) : w64 ((a : Int) * (g : Int)) = ((a * g : Nat) : Int) := by
  have := lim_small ha hg
  rw [← Int.natCast_mul]
  exact w64_small (by omega) (by omega)
theorem quo_lim' {g : Nat} (hg : 1 ≤ g) : quoI .i64 (1000000000000000 : Int) (g : Int) = some ((1000000000000000 / g : Nat) : Int) := by
  have h0 : (g : Int) ≠ 0 := by omega
  simp only [quoI, ne_eq, h0, not_false_eq_true, if_true]
  rw [Int.tdiv_eq_ediv_of_nonneg (by omega)]
  have h2 : 1000000000000000 / g ≤ 1000000000000000 := Nat.div_le_self _ _
  have e : ((1000000000000000 : Int) / (g : Int)) = ((1000000000000000 / g : Nat) : Int) := rfl
  rw [e]
  generalize 1000000000000000 / g = q at h2 ⊢
  exact congrArg some (w64_small (by omega) (by omega))
theorem gt_quo {a g : Nat} (hg : 1 ≤ g) : ((a : Int) > ((1000000000000000 / g : Nat) : Int)) ↔ ¬ a * g ≤ 1000000000000000 := by
  rw [← Nat.le_div_iff_mul_le hg]
  omega
theorem lim_loop {R : Type} {A g V : Nat} (hA : A ≤ 300000) (hg : 1 ≤ g ∧ g ≤ 1000) {b : Nat → Int → Option (Ctl Int R)} {r0 : R}
    (hb : ∀ k a, (a : Nat) ≤ 1000000000000000 → b k (a : Int) = if a * g ≤ 1000000000000000 then some (.next ((a * g : Nat) : Int)) else some (.ret r0)) :
    ((∀ k, k < V → A * g ^ (k + 1) ≤ 1000000000000000) ∧ forN b V 0 (A : Int) = some (.fin ((A * g ^ V : Nat) : Int))) ∨ ((¬ ∀ k, k < V → A * g ^ (k + 1) ≤ 1000000000000000) ∧ forN b V 0 (A : Int) = some (.ret r0)) := by
  have hs : ∀ k, (∀ j, j < k → A * g ^ (j + 1) ≤ 1000000000000000) → A * g ^ k ≤ 1000000000000000 := fun k hj => by
    cases k with
    | zero => simp; omega
    | succ k => exact hj k (by omega)
  have hm : ∀ k, A * g ^ k * g = A * g ^ (k + 1) := fun k => by rw [Nat.mul_assoc, ← Nat.pow_succ]
  have := forN_scan2 (b := b) (N := V) (fun k => A * g ^ (k + 1) ≤ 1000000000000000) (fun k => ((A * g ^ k : Nat) : Int)) (r0 := r0) (fun k hk hj hgd => by
    rw [hb k _ (hs k hj), hm, if_pos hgd]) (fun k hk hj hgd => by
    rw [hb k _ (hs k hj), hm, if_neg hgd])
  simpa using this
theorem graph_eq (T : List (List (List Int))) (G : List (List Int)) (hGl : G.length ≤ 1048576) : ∃ r, p_spec_GraphDimension T G = some r ∧ p_impl_GraphDimension T G = some r := by
  unfold p_spec_GraphDimension p_impl_GraphDimension
  obtain ⟨b, e1, hb⟩ := specIs (T := T)
  have e2 : p_impl_IsRing T = some b := by rw [← e1]; exact (implIs.eq specIs)
  rw [e1, e2]
  simp only [Option.bind_some]
  cases b
  · exact ⟨(0, 1), rfl, rfl⟩
  have hT := hb.1 rfl
  obtain ⟨t, f1, ht⟩ := specTri hGl
  have f2 : p_impl_IsTrivalent G = some t := by rw [← f1]; exact ((implTri hGl).eq (specTri hGl))
  simp only [Bool.not_true, Bool.false_eq_true, if_false, f1, f2, Option.bind_some]
  cases t
  · exact ⟨(0, 1), rfl, rfl⟩
  obtain ⟨E, hG⟩ := (ht.1 rfl).gr
  obtain ⟨c, g1, hc⟩ := spec_comm hT.cube
  have g2 : p_impl_Ring_isCommutative T = some c := by rw [← g1]; exact ((impl_comm hT.cube).eq (spec_comm hT.cube))
  simp only [Bool.not_true, Bool.false_eq_true, if_false, g1, g2, Option.bind_some]
  cases c
  · exact ⟨(0, 5), rfl, rfl⟩
  obtain ⟨g, hg1, hg2, m1, m2⟩ := most_eq hT
  have hn := hT.cube.1
  have hE := hG.small
  simp only [Bool.not_true, Bool.false_eq_true, if_false, edgesE hG, p_impl_Ring_labellings, Int.toNat_natCast, duals_eq hT.cube, specDuals hT.cube, m1, m2, Option.bind_some, onRes]
  have l1 := lab_loop (n := T.length) (E := E) hn (b := fun k s => p_spec_GraphDimension_L1 T k s) (r0 := ((0 : Int), (3 : Int))) (fun k x => rfl)
  have l2 := lab_loop (n := T.length) (E := E) hn (b := fun k s => p_impl_Ring_labellings_L1 T k s) (r0 := (-1 : Int)) (fun k x => rfl)
  by_cases hlab : ∀ k, k < E → T.length ^ (k + 1) ≤ 300000
  · have q1 := (l1.resolve_right fun h => h.1 hlab).2
    have q2 := (l2.resolve_right fun h => h.1 hlab).2
    have hA : T.length ^ E ≤ 300000 := by
      have := hlab (E - 1) (by omega)
      rwa [show E - 1 + 1 = E from by omega] at this
    rw [q1, q2]
    simp only [Option.bind_some, onRes]
    have w1 := lim_loop (V := G.length) hA ⟨hg1, hg2⟩ (b := fun k s => p_spec_GraphDimension_L5 (g : Int) k s) (r0 := ((0 : Int), (3 : Int))) (fun k a ha => by
      simp only [p_spec_GraphDimension_L5, quo_lim' hg1, Option.bind_some, w64_lim ha hg2]
      by_cases h : a * g ≤ 1000000000000000
      · have : decide ((a : Int) > ((1000000000000000 / g : Nat) : Int)) = false := decide_eq_false fun hh => (gt_quo hg1).1 hh h
        rw [this, if_pos h]; rfl
      · have : decide ((a : Int) > ((1000000000000000 / g : Nat) : Int)) = true := decide_eq_true ((gt_quo hg1).2 h)
        rw [this, if_neg h]; rfl)
    have w2 := lim_loop (V := G.length) hA ⟨hg1, hg2⟩ (b := fun k s => p_impl_Ring_labellings_L2 (g : Int) k s) (r0 := (-1 : Int)) (fun k a ha => by
      simp only [p_impl_Ring_labellings_L2, w64_lim ha hg2]
      by_cases h : a * g ≤ 1000000000000000
      · have : decide (((a * g : Nat) : Int) > 1000000000000000) = false := decide_eq_false (by omega)
        rw [this, if_pos h]; rfl
      · have : decide (((a * g : Nat) : Int) > 1000000000000000) = true := decide_eq_true (by omega)
        rw [this, if_neg h]; rfl)
    by_cases hlim : ∀ k, k < G.length → T.length ^ E * g ^ (k + 1) ≤ 1000000000000000
    · rw [(w1.resolve_right fun h => h.1 hlim).2, (w2.resolve_right fun h => h.1 hlim).2]
      have dn' : decide (((T.length ^ E : Nat) : Int) < 0) = false := decide_eq_false (by omega)
      obtain ⟨k, hk⟩ := fuel_ge (n := E) (by omega)
      have es : p_spec_l15Sum T (duL T) G [] = some (w64 (NS T.length E fun l => vp T G E l)) := by
        unfold p_spec_l15Sum
        rw [hk, show E + (k + 1) = E + 1 + k from by omega]
        exact specSum hT hG E k [] (by simp) (fun x hx => by cases hx)
      simp only [Option.bind_some, onRes, dn', Bool.false_eq_true, if_false, Int.toNat_natCast, implSum hT hG hA, es]
      exact ⟨_, rfl, rfl⟩
    · rw [(w1.resolve_left fun h => hlim h.1).2, (w2.resolve_left fun h => hlim h.1).2]
      exact ⟨(0, 3), rfl, rfl⟩
  · have q1 := (l1.resolve_left fun h => hlab h.1).2
    have q2 := (l2.resolve_left fun h => hlab h.1).2
    rw [q1, q2]
    exact ⟨(0, 3), rfl, rfl⟩
end
theorem plain_FnExactGraphDimension (aR_Table : (List (List (List Int)))) (aGraph : (List (List Int))) (h0 : Good3 .i64 aR_Table) (h1 : Good2 .i64 aGraph) : p_laws_FnExactGraphDimension aR_Table aGraph = some true := by
  unfold p_laws_FnExactGraphDimension
  obtain ⟨r, e, hr, hs⟩ := szRing_spec aR_Table 1048576 (by decide) (by decide) h0
  rw [e]
  simp only [Option.bind_some]
  by_cases hr0 : r < 0
  · simp [hr0]
  simp only [hr0, decide_false, Bool.false_eq_true, if_false]
  have hrl : r ≤ 1048576 := hs.1
  obtain ⟨r2, e2, hr2, hs2⟩ := szInt64SS_spec aGraph r (by omega) (by omega) h1.1 (fun x hx => (h1.2 x hx).1)
  rw [e2]
  simp only [Option.bind_some]
  by_cases hr3 : r2 < 0
  · simp [hr3]
  · simp only [hr3, decide_false, Bool.false_eq_true, if_false]
    obtain ⟨v1, v2⟩ := hs2.2 (by omega)
    obtain ⟨x, g1, g2⟩ := graph_eq aR_Table aGraph (by omega)
    simp only [toRing_eq aR_Table hs (by omega), toInt64SS_eq aGraph (by omega) (fun y hy => by have := v2 y hy; omega), Option.bind_some, g1, g2, eqRing_self, eqSS_self]
    simp
end Go.VG
