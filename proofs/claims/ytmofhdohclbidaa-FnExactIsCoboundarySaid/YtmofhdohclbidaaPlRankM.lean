/- The code's rank modulo a small prime: an echelon of the rows. Plain. -/
import Derived.Test.YtmofhdohclbidaaPlRankS2
import Derived.Test.YtmofhdohclbidaaPlRankG
import Derived.Test.YtmofhdohclbidaaPlMarkL
import Derived.Test.YtmofhdohclbidaaPlClone
set_option linter.all false
namespace Go.VG
section
variable {p : Int} {m : Nat}
theorem two_rem (hp : 2 ≤ p ∧ p ≤ 7) {n : Int} (hn : -1000000 ≤ n ∧ n ≤ 1000000) : ((remI n p).bind fun x => remI (w64 (x + p)) p) = some (n % p) := by
  have h0 : p ≠ 0 := by omega
  simp only [remI, ne_eq, h0, not_false_eq_true, if_true, Option.bind_some]
  have a1 := Int.lt_tmod_of_pos n (show 0 < p by omega)
  have a2 := Int.tmod_lt_of_pos n (show 0 < p by omega)
  rw [w64_small (by omega) (by omega), Int.tmod_eq_emod_of_nonneg (by omega), Int.add_emod_right]
  have e := Int.mul_tdiv_add_tmod n p
  conv => rhs; rw [← e]
  rw [Int.add_comm, Int.add_mul_emod_self_left]
theorem set_getD_self {α : Type} (l : List α) (d : α) {i : Nat} (h : i < l.length) : l.set i (l.getD i d) = l := by
  simp [List.getD, List.getElem?_eq_getElem h]
theorem indexFunc_at {l : List (List Int)} {f : List Int → Option Bool} {g : Nat → Bool} (h : ∀ j, j < l.length → f (l.getD j []) = some (g j)) :
    (∃ a : Nat, a < l.length ∧ g a = true ∧ p_slices_IndexFunc_LLint64_Lint64 l f = some (a : Int)) ∨ ((∀ j, j < l.length → g j = false) ∧ p_slices_IndexFunc_LLint64_Lint64 l f = some (-1)) := by
  have key : ∀ c k, k + c = l.length → (∀ j, j < k → g j = false) → (∃ a : Nat, a < l.length ∧ g a = true ∧ forN (fun k s => p_slices_IndexFunc_LLint64_Lint64_L1 l f k) c k () = some (.ret (a : Int))) ∨ ((∀ j, j < l.length → g j = false) ∧ forN (fun k s => p_slices_IndexFunc_LLint64_Lint64_L1 l f k) c k () = some (.fin ())) := by
    intro c
    induction c with
    | zero => intro k hk hz; exact .inr ⟨fun j hj => hz j (by omega), rfl⟩
    | succ c ih =>
      intro k hk hz
      have hkl : k < l.length := by omega
      have eb : p_slices_IndexFunc_LLint64_Lint64_L1 l f k = (if g k = true then some (.ret (k : Int)) else some (.next ())) := by
        simp only [p_slices_IndexFunc_LLint64_Lint64_L1, idx_getD l [] hkl, Option.bind_some, h k hkl]
      cases hg : g k with
      | true => exact .inl ⟨k, hkl, hg, forN_ret1 (by rw [eb, hg]; rfl)⟩
      | false =>
        rw [forN_next1 (s' := ()) (by rw [eb, hg]; rfl)]
        exact ih (k + 1) (by omega) fun j hj => by
          by_cases e : j < k
          · exact hz j e
          · have : j = k := by omega
            rw [this]; exact hg
  unfold p_slices_IndexFunc_LLint64_Lint64
  rcases key l.length 0 (by omega) (fun j hj => by omega) with ⟨a, h1, h2, h3⟩ | ⟨h1, h2⟩
  · exact .inl ⟨a, h1, h2, by rw [h3]; rfl⟩
  · exact .inr ⟨h1, by rw [h2]; rfl⟩

/-- The rows of a list that is being worked on. -/
def Rows (p : Int) (m N : Nat) (R : List (List Int)) : Prop := R.length = N ∧ ∀ k, k < N → Row p m (R.getD k [])
theorem Rows.at {N : Nat} {R : List (List Int)} (h : Rows p m N R) {k : Nat} (hk : k < N) : idx R (k : Int) = some (R.getD k []) := idx_getD R [] (by rw [h.1]; exact hk)
theorem Rows.at2 {N : Nat} {R : List (List Int)} (h : Rows p m N R) {k i : Nat} (hk : k < N) (hi : i < m) : idx (R.getD k []) (i : Int) = some (rv R k i) := idx_getD _ _ (by rw [(h.2 k hk).1]; exact hi)
theorem Rows.rng {N : Nat} {R : List (List Int)} (h : Rows p m N R) {k i : Nat} (hk : k < N) (hi : i < m) : 0 ≤ rv R k i ∧ rv R k i < p := (h.2 k hk).2 i hi

def mixR (p : Int) (m : Nat) (R : List (List Int)) (i d col : Nat) (f : Int) (j : Nat) : List Int := vecG (fun t => if col ≤ t ∧ t < j then (rv R i t - f * rv R d t) % p else rv R i t) m
/-- One row less a multiple of another, from a column on. -/
theorem row_less (hp : P4 p) (hm : m ≤ 1048576) {N : Nat} {R : List (List Int)} (h : Rows p m N R) (hN : N ≤ 1048576) {i d col k : Nat} (hi : i < N) (hd : d < N) (hne : d ≠ i) (hc : col ≤ m) {f : Int} (hf : 0 ≤ f ∧ f < p) (hx : (w64 ((d : Int) + 1)) + (k : Int) = (i : Int))
    (hz : ∀ t, t < col → p ∣ rv R d t) :
    ∃ R' c', whileC (R := Unit) (fun s : List (List Int) × Int => p_impl_rankModulo_L5 f (d : Int) k p s.1 s.2) (R, (col : Int)) = some (.fin (R', c')) ∧ Rows p m N R' ∧ (∀ t, t ≠ i → R'.getD t [] = R.getD t []) ∧ ∀ t, t < m → p ∣ rv R' i t - (rv R i t - f * rv R d t) := by
  have hp2 : 2 ≤ p ∧ p ≤ 7 := by unfold P4 at hp; omega
  have hil : i < R.length := by rw [h.1]; exact hi
  by_cases h0 : f = 0
  · subst h0
    refine ⟨R, (col : Int), whileC_of (iterW_brk ?_), h, fun _ _ => rfl, fun t ht => ?_⟩
    · simp only [p_impl_rankModulo_L5, bne_self_eq_false, Bool.false_eq_true, if_false, Option.bind_some]
    · rw [Int.zero_mul, Int.sub_zero, Int.sub_self]; exact Int.dvd_zero p
  · have hfb : (f != 0) = true := bne_iff_ne.2 h0
    have e0 : mixR p m R i d col f col = R.getD i [] := by
      rw [show mixR p m R i d col f col = vecG (fun t => rv R i t) m from vecG_congr fun t _ => if_neg (by omega)]
      exact (eq_vecG (h.2 i hi).1).symm
    have sd : ∀ x : List Int, (R.set i x).getD d [] = R.getD d [] := fun x => getD_set_ne R [] x (Ne.symm hne)
    have si : ∀ x : List Int, (R.set i x).getD i [] = x := fun x => getD_set_eq R [] x hil
    have e := whileC_det (R := Unit) (step := fun s : List (List Int) × Int => p_impl_rankModulo_L5 f (d : Int) k p s.1 s.2) (m - col) (fun j => (R.set i (mixR p m R i d col f (col + j)), ((col + j : Nat) : Int)))
      (s' := (R.set i (mixR p m R i d col f m), (m : Int))) (fun j hj => by
        have hjm : col + j < m := by omega
        have x1 : idx (R.set i (mixR p m R i d col f (col + j))) (i : Int) = some (mixR p m R i d col f (col + j)) := by
          rw [idx_getD _ [] (by rw [List.length_set]; exact hil), si]
        have x2 : idx (R.set i (mixR p m R i d col f (col + j))) (d : Int) = some (R.getD d []) := by
          rw [idx_getD _ [] (by rw [List.length_set, h.1]; exact hd), sd]
        have x3 : idx (mixR p m R i d col f (col + j)) ((col + j : Nat) : Int) = some (rv R i (col + j)) := by
          rw [show mixR p m R i d col f (col + j) = vecG _ m from rfl, vecG_idx hjm, if_neg (by omega)]
        have x4 := h.at2 hd hjm
        have l1 : (mixR p m R i d col f (col + j)).length = m := vecG_len
        have dj : decide (((col + j : Nat) : Int) < (((mixR p m R i d col f (col + j)).length : Nat) : Int)) = true := by rw [l1]; exact decide_eq_true (by omega)
        have r1 := h.rng hi hjm
        have r2 := h.rng hd hjm
        have q1 : 0 ≤ f * rv R d (col + j) := Int.mul_nonneg hf.1 r2.1
        have q2 : f * rv R d (col + j) ≤ 7 * 7 := Int.mul_le_mul (by omega) (by omega) r2.1 (by decide)
        have tr := two_rem hp2 (n := rv R i (col + j) - f * rv R d (col + j)) (by omega)
        show p_impl_rankModulo_L5 f (d : Int) k p (R.set i (mixR p m R i d col f (col + j))) ((col + j : Nat) : Int) = _
        simp only [p_impl_rankModulo_L5, hfb, if_true, hx, x1, Option.bind_some, dj, x2, x3, x4]
        rw [w64_small (x := f * rv R d (col + j)) (by omega) (by omega), w64_small (x := rv R i (col + j) - f * rv R d (col + j)) (by omega) (by omega)]
        cases hr : remI (rv R i (col + j) - f * rv R d (col + j)) p with
        | none => rw [hr] at tr; cases tr
        | some y =>
          rw [hr] at tr
          simp only [Option.bind_some] at tr
          simp only [Option.bind_some, tr, Int.toNat_natCast]
          rw [w64_small (x := ((col + j : Nat) : Int) + 1) (by omega) (by omega), List.set_set]
          have e5 : (mixR p m R i d col f (col + j)).set (col + j) ((rv R i (col + j) - f * rv R d (col + j)) % p) = mixR p m R i d col f (col + (j + 1)) := by
            rw [show mixR p m R i d col f (col + j) = vecG _ m from rfl, vecG_set hjm]
            refine vecG_congr fun t ht => ?_
            simp only [up1]
            by_cases c1 : t = col + j
            · subst c1
              rw [if_pos rfl, if_pos (by omega)]
            · rw [if_neg c1]
              by_cases c2 : col ≤ t ∧ t < col + j
              · rw [if_pos c2, if_pos (by omega)]
              · rw [if_neg c2, if_neg (by omega)]
          rw [e5]
          rfl) (by
        have ej : col + (m - col) = m := by omega
        rw [ej]
        have x1 : idx (R.set i (mixR p m R i d col f m)) (i : Int) = some (mixR p m R i d col f m) := by
          rw [idx_getD _ [] (by rw [List.length_set]; exact hil), si]
        have l1 : (mixR p m R i d col f m).length = m := vecG_len
        have dj : decide ((m : Int) < (((mixR p m R i d col f m).length : Nat) : Int)) = false := by rw [l1]; exact decide_eq_false (by omega)
        show p_impl_rankModulo_L5 f (d : Int) k p (R.set i (mixR p m R i d col f m)) (m : Int) = _
        simp only [p_impl_rankModulo_L5, hfb, if_true, hx, x1, Option.bind_some, dj, Bool.false_eq_true, if_false])
    simp only [Nat.add_zero] at e
    rw [e0, set_getD_self R [] hil] at e
    refine ⟨_, _, e, ⟨by rw [List.length_set]; exact h.1, fun k hk => ?_⟩, fun t ht => getD_set_ne R [] _ (Ne.symm ht), fun t ht => ?_⟩
    · by_cases hki : k = i
      · subst hki
        rw [si]
        refine ⟨vecG_len, fun t ht => ?_⟩
        rw [show mixR p m R k d col f m = vecG _ m from rfl, vecG_getD ht]
        split
        · exact ⟨Int.emod_nonneg _ (by omega), Int.emod_lt_of_pos _ (by omega)⟩
        · exact h.rng hi ht
      · rw [getD_set_ne R [] _ (Ne.symm hki)]; exact h.2 k hk
    · have ev : rv (R.set i (mixR p m R i d col f m)) i t = if col ≤ t ∧ t < m then (rv R i t - f * rv R d t) % p else rv R i t := by
        show ((R.set i (mixR p m R i d col f m)).getD i []).getD t 0 = _
        rw [si, show mixR p m R i d col f m = vecG _ m from rfl, vecG_getD ht]
      rw [ev]
      by_cases c1 : col ≤ t
      · rw [if_pos ⟨c1, ht⟩]; exact emod_sub _ p
      · rw [if_neg (by omega)]
        have e3 : rv R i t - (rv R i t - f * rv R d t) = f * rv R d t := by omega
        rw [e3]; exact Int.dvd_mul_of_dvd_right (hz t (by omega))
theorem fac_dvd {x v c f : Int} (h1 : f = (x * v) % p) (h2 : (v * c) % p = 1) : p ∣ x - f * c := by
  have d1 : p ∣ f - x * v := by rw [h1]; exact emod_sub _ p
  have d2 : p ∣ 1 - v * c := by have := emod_sub (v * c) p; rwa [h2] at this
  have d3 := Int.dvd_sub (Int.dvd_mul_of_dvd_right d2 : p ∣ x * (1 - v * c)) (Int.dvd_mul_of_dvd_left d1 : p ∣ (f - x * v) * c)
  have e : x * (1 - v * c) - (f - x * v) * c = x - f * c := by
    rw [Int.mul_sub, Int.sub_mul, Int.mul_one, Int.mul_assoc]; omega
  rwa [e] at d3
theorem rows_less (hp : P4 p) (hm : m ≤ 1048576) {N : Nat} {R : List (List Int)} (h : Rows p m N R) (hN : N ≤ 1048576) {d col : Nat} (hd : d < N) (hc : col < m) {v : Int} (hv : 1 ≤ v ∧ v < p) (hvc : (v * rv R d col) % p = 1)
    (hz : ∀ t, t < col → p ∣ rv R d t) :
    ∃ R', forN (R := Unit) (fun k s => p_impl_rankModulo_L4 (d : Int) (col : Int) v p k s) (N - (d + 1)) 0 R = some (.fin R') ∧ Rows p m N R' ∧ (∀ t, t ≤ d → R'.getD t [] = R.getD t []) ∧
      ∀ t, d < t → t < N → (∃ f : Int, ∀ i, i < m → p ∣ rv R' t i - (rv R t i + f * rv R d i)) ∧ p ∣ rv R' t col := by
  have hp2 : 2 ≤ p ∧ p ≤ 7 := by unfold P4 at hp; omega
  obtain ⟨R', e, g1, g2, g3, g4⟩ := forN_inv (R := Unit) (body := fun k s => p_impl_rankModulo_L4 (d : Int) (col : Int) v p k s) (N := N - (d + 1)) (s := R)
    (fun k S => Rows p m N S ∧ (∀ t, t ≤ d → S.getD t [] = R.getD t []) ∧ (∀ t, d + 1 + k ≤ t → S.getD t [] = R.getD t []) ∧ ∀ t, d < t → t < d + 1 + k → (∃ f : Int, ∀ i, i < m → p ∣ rv S t i - (rv R t i + f * rv R d i)) ∧ p ∣ rv S t col)
    ⟨h, fun _ _ => rfl, fun _ _ => rfl, fun t h1 h2 => by omega⟩ (fun k S hk ⟨g1, g2, g3, g4⟩ => by
      have hi : d + 1 + k < N := by omega
      have ed : rv S d = rv R d := by funext t; show (S.getD d []).getD t 0 = _; rw [g2 d (Nat.le_refl _)]; rfl
      have ei : rv S (d + 1 + k) = rv R (d + 1 + k) := by funext t; show (S.getD (d + 1 + k) []).getD t 0 = _; rw [g3 _ (Nat.le_refl _)]; rfl
      have hx : (w64 ((d : Int) + 1)) + (k : Int) = ((d + 1 + k : Nat) : Int) := by rw [w64_small (by omega) (by omega)]; omega
      have r1 := g1.rng hi hc
      have q1 : 0 ≤ rv S (d + 1 + k) col * v := Int.mul_nonneg r1.1 (by omega)
      have q2 : rv S (d + 1 + k) col * v ≤ 7 * 7 := Int.mul_le_mul (by omega) (by omega) (by omega) (by decide)
      have er : remI (w64 (rv S (d + 1 + k) col * v)) p = some ((rv S (d + 1 + k) col * v) % p) := by
        rw [w64_small (by omega) (by omega)]
        unfold remI
        rw [if_pos (by omega), Int.tmod_eq_emod_of_nonneg q1]
      have hf : 0 ≤ (rv S (d + 1 + k) col * v) % p ∧ (rv S (d + 1 + k) col * v) % p < p := ⟨Int.emod_nonneg _ (by omega), Int.emod_lt_of_pos _ (by omega)⟩
      obtain ⟨S', c', e1, e2, e3, e4⟩ := row_less hp hm g1 hN hi hd (by omega : d ≠ d + 1 + k) (Nat.le_of_lt hc) hf hx (fun t ht => by rw [ed]; exact hz t ht)
      have hfd : p ∣ rv S (d + 1 + k) col - (rv S (d + 1 + k) col * v) % p * rv R d col := fac_dvd rfl hvc
      refine ⟨S', ?_, e2, fun t ht => by rw [e3 t (by omega)]; exact g2 t ht, fun t ht => by rw [e3 t (by omega)]; exact g3 t (by omega), fun t h1 h2 => ?_⟩
      · simp only [p_impl_rankModulo_L4, hx, g1.at hi, g1.at2 hi hc, Option.bind_some, er, e1, onRes]
      · by_cases ht : t = d + 1 + k
        · subst ht
          refine ⟨⟨-((rv S (d + 1 + k) col * v) % p), fun i hi' => ?_⟩, ?_⟩
          · have := e4 i hi'
            rw [ed] at this
            rw [← ei, Int.neg_mul, ← Int.sub_eq_add_neg]; exact this
          · have := e4 col hc
            rw [ed] at this
            have := Int.dvd_add this hfd
            rwa [Int.sub_add_cancel] at this
        · have es : ∀ i, rv S' t i = rv S t i := fun i => by show (S'.getD t []).getD i 0 = _; rw [e3 t ht]; rfl
          obtain ⟨⟨f, hf'⟩, h5⟩ := g4 t h1 (by omega)
          exact ⟨⟨f, fun i hi' => by rw [es]; exact hf' i hi'⟩, by rw [es]; exact h5⟩)
  exact ⟨R', e, g1, g2, fun t h1 h2 => g4 t h1 (by omega)⟩
theorem cut_drop {α : Type} (l : List α) {a : Nat} (h : a ≤ l.length) : cutL l (a : Int) (l.length : Int) = some (l.drop a) := by
  unfold cutL
  rw [if_pos (by omega)]
  simp
theorem getD_drop' {α : Type} (l : List α) (d : α) (a j : Nat) : (l.drop a).getD j d = l.getD (a + j) d := by
  simp [List.getD, List.getElem?_drop]
theorem rank_step (hp : P4 p) (hm : m ≤ 1048576) {N : Nat} {R : List (List Int)} (h : Rows p m N R) (hN : N ≤ 1048576) {A : Nat → Nat → Int} {d col : Nat} {q : Nat → Nat} (hd : d < N) (hc : col < m) (hg : GI p m A N (rv R) d col q) :
    ∃ R' d' q', Rows p m N R' ∧ GI p m A N (rv R') d' (col + 1) q' ∧ ((d' = N ∧ ∃ c' : Int, p_impl_rankModulo_L2 p R (col : Int) (d : Int) = some (.brk (R', c', (d' : Int)))) ∨ (d' < N ∧ p_impl_rankModulo_L2 p R (col : Int) (d : Int) = some (.next (R', ((col + 1 : Nat) : Int), (d' : Int))))) := by
  have hp2 : 2 ≤ p ∧ p ≤ 7 := by unfold P4 at hp; omega
  have hdl : d < R.length := by rw [h.1]; exact hd
  have c1 : decide ((R.length : Int) > 0) = true := decide_eq_true (by omega)
  have c2 : idx R (0 : Int) = some (R.getD 0 []) := h.at (k := 0) (by omega)
  have c3' : decide ((col : Int) < (((R.getD 0 []).length : Nat) : Int)) = true := by rw [(h.2 0 (by omega)).1]; exact decide_eq_true (by omega)
  have c4 := cut_drop R (Nat.le_of_lt hdl)
  have wc : w64 ((col : Int) + 1) = ((col + 1 : Nat) : Int) := by rw [w64_small (by omega) (by omega)]; rfl
  have wd : w64 ((d : Int) + 1) = ((d + 1 : Nat) : Int) := by rw [w64_small (by omega) (by omega)]; rfl
  have hdlen : (R.drop d).length = N - d := by rw [List.length_drop, h.1]
  rcases indexFunc_at (l := R.drop d) (f := fun a0 => p_impl_rankModulo_c1 a0 (col : Int)) (g := fun j => rv R (d + j) col != 0) (fun j hj => by
      rw [hdlen] at hj
      rw [getD_drop']
      simp only [p_impl_rankModulo_c1, h.at2 (k := d + j) (by omega) hc, Option.bind_some]) with ⟨a, ha, hga, c5⟩ | ⟨hall, c5⟩
  · rw [hdlen] at ha
    have hga' : rv R (d + a) col ≠ 0 := bne_iff_ne.1 hga
    have hal : d + a < R.length := by rw [h.1]; omega
    have wa : w64 ((d : Int) + (a : Int)) = ((d + a : Nat) : Int) := by rw [w64_small (by omega) (by omega)]; rfl
    have n5 : decide ((a : Int) < 0) = false := decide_eq_false (by omega)
    obtain ⟨R1, hR1⟩ : ∃ R1, R1 = (R.set d (R.getD (d + a) [])).set (d + a) (R.getD d []) := ⟨_, rfl⟩
    have s1 : R1.getD (d + a) [] = R.getD d [] := by rw [hR1]; exact getD_set_eq _ [] _ (by rw [List.length_set]; exact hal)
    have s2 : R1.getD d [] = R.getD (d + a) [] := by
      by_cases e : a = 0
      · have s1' := s1
        rw [e, Nat.add_zero] at s1' ⊢
        exact s1'
      · rw [hR1, getD_set_ne _ [] _ (by omega : d + a ≠ d)]; exact getD_set_eq R [] _ hdl
    have s3 : ∀ t, t ≠ d → t ≠ d + a → R1.getD t [] = R.getD t [] := fun t h1 h2 => by
      rw [hR1, getD_set_ne _ [] _ (Ne.symm h2), getD_set_ne _ [] _ (Ne.symm h1)]
    have hl1 : R1.length = N := by rw [hR1, List.length_set, List.length_set]; exact h.1
    have h1 : Rows p m N R1 := ⟨hl1, fun t ht => by
      by_cases e1 : t = d
      · rw [e1, s2]; exact h.2 _ (by omega)
      · by_cases e2 : t = d + a
        · rw [e2, s1]; exact h.2 _ (by omega)
        · rw [s3 t e1 e2]; exact h.2 t ht⟩
    have hg1 : GI p m A N (rv R1) d col q := hg.swap (a := d) (b := d + a) ⟨Nat.le_refl _, hd⟩ ⟨by omega, by omega⟩ (by funext t; show (R1.getD d []).getD t 0 = _; rw [s2]; rfl) (by funext t; show (R1.getD (d + a) []).getD t 0 = _; rw [s1]; rfl)
      (fun k _ k1 k2 => by funext t; show (R1.getD k []).getD t 0 = _; rw [s3 k k1 k2]; rfl)
    have hcc : rv R1 d col = rv R (d + a) col := by show (R1.getD d []).getD col 0 = _; rw [s2]; rfl
    have hne : rv R1 d col ≠ 0 := by rw [hcc]; exact hga'
    have rc := h1.rng hd hc
    obtain ⟨v, n, i1, i2, i3, i4⟩ := inv_core hp (c := rv R1 d col) (by omega)
    have eR : ((R.set ((d : Nat) : Int).toNat (R.getD (d + a) [])).set (((d + a : Nat) : Int)).toNat (R.getD d [])) = R1 := by rw [Int.toNat_natCast, Int.toNat_natCast, hR1]
    have einv : whileC (R := Unit) (fun s => p_impl_rankModulo_L3 R (d : Int) (R.getD (d + a) []) (a : Int) (R.getD d []) (col : Int) p s) (1 : Int) = some (.fin v) := by
      have e : (fun s => p_impl_rankModulo_L3 R (d : Int) (R.getD (d + a) []) (a : Int) (R.getD d []) (col : Int) p s) = invS (rv R1 d col) p := funext fun s => by
        simp only [p_impl_rankModulo_L3, wa, eR, h1.at hd, h1.at2 hd hc, Option.bind_some, invS]
      rw [e]; exact whileC_of i1
    obtain ⟨R2, e2, h2, k1, k2⟩ := rows_less hp hm h1 hN hd hc ⟨i2, i3⟩ i4 (fun t ht => hg1.zero d (Nat.le_refl _) hd t ht)
    have hnd : ¬ p ∣ rv R1 d col := fun hdv => by
      have := Int.le_of_dvd (by omega) hdv
      omega
    have hg2 := hg1.pivot (R' := rv R2) hd hc hnd (fun k hk => by funext t; show (R2.getD k []).getD t 0 = _; rw [k1 k hk]; rfl) (fun k x1 x2 => (k2 k x1 x2).1) (fun k x1 x2 => (k2 k x1 x2).2)
    refine ⟨R2, d + 1, _, h2, hg2, ?_⟩
    have cd := cut_drop R1 (a := d + 1) (by omega)
    have ld : (R1.drop (d + 1)).length = N - (d + 1) := by rw [List.length_drop, hl1]
    have main : p_impl_rankModulo_L2 p R (col : Int) (d : Int) = if (((d + 1 : Nat) : Int) == ((R2.length : Nat) : Int)) = true then some (.brk (R2, (col : Int), ((d + 1 : Nat) : Int))) else some (.next (R2, ((col + 1 : Nat) : Int), ((d + 1 : Nat) : Int))) := by
      unfold p_impl_rankModulo_L2
      simp only [c1, if_true, c2, Option.bind_some, c3', c4, c5, n5, Bool.false_eq_true, if_false, wa, h.at (k := d + a) (by omega), h.at hd, einv, onRes, eR, wd, cd, ld, e2, wc]
    by_cases hN1 : d + 1 = N
    · exact .inl ⟨hN1, (col : Int), by rw [main, h2.1, hN1]; simp⟩
    · refine .inr ⟨by omega, ?_⟩
      have : (((d + 1 : Nat) : Int) == ((R2.length : Nat) : Int)) = false := by rw [h2.1]; exact beq_eq_false_iff_ne.2 (by omega)
      rw [main, this]
      rfl
  · have n5 : decide ((-1 : Int) < 0) = true := by decide
    refine ⟨R, d, q, h, hg.skip fun k k1 k2 => ?_, .inr ⟨hd, ?_⟩⟩
    · have := hall (k - d) (by rw [hdlen]; omega)
      have e : d + (k - d) = k := by omega
      simp only [e] at this
      rw [bne_eq_false_iff_eq] at this
      rw [this]; exact Int.dvd_zero p
    · unfold p_impl_rankModulo_L2
      simp only [c1, if_true, c2, Option.bind_some, c3', c4, c5, n5, wc]
theorem codeRank (hp : P4 p) (hm : m ≤ 1048576) {L : List (List Int)} (hN : L.length ≤ 1048576) (hl : ∀ j, j < L.length → Row p m (L.getD j [])) :
    ∃ r b piv, p_impl_rankModulo L p = some ((r : Nat) : Int) ∧ Ech p m (rv L) L.length b r piv := by
  have hcopy : forN (R := Unit) (fun k s => p_impl_rankModulo_L1 L k s) L.length 0 ([] : List (List Int)) = some (.fin L) := by
    have := forN_app (R := Unit) (N := L.length) (body := fun k s => p_impl_rankModulo_L1 L k s) (fun i => L.getD i []) (fun j hj => by
      simp only [p_impl_rankModulo_L1, idx_getD L [] hj, Option.bind_some, clone1_eq _ (by rw [(hl j hj).1]; exact hm), appL_range (fun i => L.getD i []) (by omega : j ≤ 1048576)])
    rw [map_range_getD] at this
    exact this
  obtain ⟨N, hNe⟩ : ∃ N, N = L.length := ⟨_, rfl⟩
  have key : ∀ c col : Nat, col + c = m → ∀ (R : List (List Int)) (d : Nat) (q : Nat → Nat), Rows p m N R → d < N → GI p m (rv L) N (rv R) d col q →
      ∃ (R' : List (List Int)) (c' : Int) (d' : Nat) (q' : Nat → Nat) (n : Nat), iterW (R := Unit) (fun s : List (List Int) × Int × Int => p_impl_rankModulo_L2 p s.1 s.2.1 s.2.2) n (R, (col : Int), (d : Int)) = some (.fin (R', c', (d' : Int))) ∧ Ech p m (rv L) N (rv R') d' q' := by
    intro c
    induction c with
    | zero =>
      intro col hc R d q h hd hg
      refine ⟨R, (col : Int), d, q, 1, iterW_brk ?_, hg.ech (.inl (by omega))⟩
      have c1 : decide ((R.length : Int) > 0) = true := decide_eq_true (by rw [h.1]; omega)
      have c2 : idx R (0 : Int) = some (R.getD 0 []) := h.at (k := 0) (by omega)
      have c3' : decide ((col : Int) < (((R.getD 0 []).length : Nat) : Int)) = false := by rw [(h.2 0 (by omega)).1]; exact decide_eq_false (by omega)
      show p_impl_rankModulo_L2 p R (col : Int) (d : Int) = _
      unfold p_impl_rankModulo_L2
      simp only [c1, if_true, c2, Option.bind_some, c3', Bool.false_eq_true, if_false]
    | succ c ih =>
      intro col hc R d q h hd hg
      obtain ⟨R', d', q', h', hg', hcase⟩ := rank_step hp hm h (by omega) hd (by omega) hg
      rcases hcase with ⟨e1, c', e2⟩ | ⟨e1, e2⟩
      · exact ⟨R', c', d', q', 1, iterW_brk e2, hg'.ech (.inr e1)⟩
      · obtain ⟨R2, c2, d2, q2, n, e3, e4⟩ := ih (col + 1) (by omega) R' d' q' h' e1 hg'
        exact ⟨R2, c2, d2, q2, n + 1, iterW_next e2 e3, e4⟩
  unfold p_impl_rankModulo
  rw [hcopy]
  simp only [Option.bind_some, onRes]
  by_cases h0 : N = 0
  · have hL : L = [] := List.eq_nil_of_length_eq_zero (by omega)
    subst hL
    refine ⟨0, fun _ _ => 0, fun _ => 0, ?_, ⟨fun k hk => by omega, fun k l hk => by omega, fun k hk => by omega, fun j hj => by simp at hj⟩⟩
    have e : whileC (R := Unit) (fun s : List (List Int) × Int × Int => p_impl_rankModulo_L2 p s.1 s.2.1 s.2.2) (([] : List (List Int)), (0 : Int), (0 : Int)) = some (.fin ([], 0, 0)) := whileC_of (iterW_brk (by rfl))
    rw [e]
    rfl
  · obtain ⟨R', c', d', q', n, e3, e4⟩ := key m 0 (by omega) L 0 (fun _ => 0) ⟨hNe.symm, fun k hk => hl k (by omega)⟩ (by omega) (GI.start _)
    refine ⟨d', rv R', q', ?_, by rw [← hNe]; exact e4⟩
    have e := whileC_of e3
    have e' : whileC (R := Unit) (fun s : List (List Int) × Int × Int => p_impl_rankModulo_L2 p s.1 s.2.1 s.2.2) (L, (0 : Int), (0 : Int)) = some (.fin (R', c', (d' : Int))) := e
    rw [e']
    rfl
end
end Go.VG
