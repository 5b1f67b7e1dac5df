/- The model's rank modulo a small prime: an echelon of the rows. Plain. -/
import Derived.Test.YtmofhdohclbidaaGPure
import Derived.Test.YtmofhdohclbidaaPlGrid
import Derived.Test.YtmofhdohclbidaaPlLin
set_option linter.all false
namespace Go.VG
def P4 (p : Int) : Prop := p = 2 ∨ p = 3 ∨ p = 5 ∨ p = 7
def Row (p : Int) (m : Nat) (l : List Int) : Prop := l.length = m ∧ ∀ i, i < m → 0 ≤ l.getD i 0 ∧ l.getD i 0 < p
def rv (R : List (List Int)) (k i : Nat) : Int := (R.getD k []).getD i 0
theorem emod_sub (x p : Int) : p ∣ x % p - x := ⟨-(x / p), by rw [Int.emod_def, Int.mul_neg]; omega⟩
section
variable {p : Int} {m : Nat}
theorem less_ok (hp : P4 p) (hm : m ≤ 1048576) {a b : List Int} (ha : Row p m a) (hb : Row p m b) {k : Int} (hk : 0 ≤ k ∧ k ≤ p) : p_spec_l17Less p a b k = some (vecG (fun i => (a.getD i 0 + (p - k) * b.getD i 0) % p) m) := by
  have hp2 : 2 ≤ p ∧ p ≤ 7 := by unfold P4 at hp; omega
  unfold p_spec_l17Less
  rw [ha.1]
  have s1 := forN_app (R := Unit) (N := m) (body := fun k' s => p_spec_l17Less_L1 a b p k k' s) (fun i => (a.getD i 0 + (p - k) * b.getD i 0) % p) (fun j hj => by
    have h1 := ha.2 j hj
    have h2 := hb.2 j hj
    have q1 : 0 ≤ (p - k) * b.getD j 0 := Int.mul_nonneg (by omega) h2.1
    have q2 : (p - k) * b.getD j 0 ≤ 7 * 7 := Int.mul_le_mul (by omega) (by omega) h2.1 (by decide)
    have e : remI (w64 (a.getD j 0 + w64 (w64 (p - k) * b.getD j 0))) p = some ((a.getD j 0 + (p - k) * b.getD j 0) % p) := by
      rw [w64_small (x := p - k) (by omega) (by omega), w64_small (x := (p - k) * b.getD j 0) (by omega) (by omega), w64_small (by omega) (by omega)]
      unfold remI
      rw [if_pos (by omega), Int.tmod_eq_emod_of_nonneg (by omega)]
    simp only [p_spec_l17Less_L1, idx_getD a 0 (by rw [ha.1]; exact hj : j < a.length), idx_getD b 0 (by rw [hb.1]; exact hj : j < b.length), Option.bind_some, e, appL_range (fun i => (a.getD i 0 + (p - k) * b.getD i 0) % p) (by omega : j ≤ 1048576)])
  rw [s1]
  rfl
theorem row_vec (hp : P4 p) (f : Nat → Int) : Row p m (vecG (fun i => f i % p) m) := ⟨vecG_len, fun i hi => by
  have hp2 : 2 ≤ p := by unfold P4 at hp; omega
  rw [vecG_getD hi]
  exact ⟨Int.emod_nonneg _ (by omega), Int.emod_lt_of_pos _ (by omega)⟩⟩
/-- The first number that is not 0. -/
theorem first_ok {l : List Int} (hl : l.length = m) (hm : m ≤ 1048576) : ∃ c : Nat, whileC (R := Unit) (fun s => p_spec_l17Rank_L3 l s) (0 : Int) = some (.fin (c : Int)) ∧ c ≤ m ∧ (∀ i, i < c → l.getD i 0 = 0) ∧ (c < m → l.getD c 0 ≠ 0) := by
  have key : ∀ d c : Nat, c + d = m → (∀ i, i < c → l.getD i 0 = 0) → ∃ n c' : Nat, iterW (R := Unit) (fun s => p_spec_l17Rank_L3 l s) n (c : Int) = some (.fin (c' : Int)) ∧ c' ≤ m ∧ (∀ i, i < c' → l.getD i 0 = 0) ∧ (c' < m → l.getD c' 0 ≠ 0) := by
    intro d
    induction d with
    | zero =>
      intro c hc hz
      refine ⟨1, c, iterW_brk ?_, by omega, hz, fun h => by omega⟩
      have e : decide ((c : Int) < (l.length : Int)) = false := by simp; omega
      simp only [p_spec_l17Rank_L3, e, Bool.false_eq_true, if_false, Option.bind_some]
    | succ d ih =>
      intro c hc hz
      have e : decide ((c : Int) < (l.length : Int)) = true := by simp; omega
      by_cases h0 : l.getD c 0 = 0
      · obtain ⟨n, c', h1, h2⟩ := ih (c + 1) (by omega) (fun i hi => by
          by_cases hic : i < c
          · exact hz i hic
          · have : i = c := by omega
            rw [this]; exact h0)
        refine ⟨n + 1, c', iterW_next (s' := ((c + 1 : Nat) : Int)) ?_ h1, h2⟩
        simp only [p_spec_l17Rank_L3, e, if_true, idx_getD l 0 (by omega : c < l.length), Option.bind_some, h0, beq_self_eq_true]
        rw [w64_small (by omega) (by omega)]
        rfl
      · refine ⟨1, c, iterW_brk ?_, by omega, hz, fun _ => h0⟩
        have e2 : (l.getD c 0 == 0) = false := beq_eq_false_iff_ne.2 h0
        simp only [p_spec_l17Rank_L3, e, if_true, idx_getD l 0 (by omega : c < l.length), Option.bind_some, e2, Bool.false_eq_true, if_false]
  obtain ⟨n, c, h1, h2⟩ := key m 0 (by omega) (fun i hi => by omega)
  exact ⟨c, whileC_of h1, h2⟩
def invS (c p x : Int) : Option (Ctl Int Unit) := (remI (w64 (x * c)) p).bind fun y => if (y != (1 : Int)) = true then some (.next (w64 (x + (1 : Int)))) else some (.brk x)
theorem inv_core (hp : P4 p) {c : Int} (hc : 1 ≤ c ∧ c < p) : ∃ v n, iterW (R := Unit) (invS c p) n 1 = some (.fin v) ∧ 1 ≤ v ∧ v < p ∧ (v * c) % p = 1 := by
  rcases hp with rfl | rfl | rfl | rfl
  · have : c = 1 := by omega
    subst this; exact ⟨1, 1, rfl, by decide, by decide, by decide⟩
  · rcases (by omega : c = 1 ∨ c = 2) with rfl | rfl
    · exact ⟨1, 1, rfl, by decide, by decide, by decide⟩
    · exact ⟨2, 2, rfl, by decide, by decide, by decide⟩
  · rcases (by omega : c = 1 ∨ c = 2 ∨ c = 3 ∨ c = 4) with rfl | rfl | rfl | rfl
    · exact ⟨1, 1, rfl, by decide, by decide, by decide⟩
    · exact ⟨3, 3, rfl, by decide, by decide, by decide⟩
    · exact ⟨2, 2, rfl, by decide, by decide, by decide⟩
    · exact ⟨4, 4, rfl, by decide, by decide, by decide⟩
  · rcases (by omega : c = 1 ∨ c = 2 ∨ c = 3 ∨ c = 4 ∨ c = 5 ∨ c = 6) with rfl | rfl | rfl | rfl | rfl | rfl
    · exact ⟨1, 1, rfl, by decide, by decide, by decide⟩
    · exact ⟨4, 4, rfl, by decide, by decide, by decide⟩
    · exact ⟨5, 5, rfl, by decide, by decide, by decide⟩
    · exact ⟨2, 2, rfl, by decide, by decide, by decide⟩
    · exact ⟨3, 3, rfl, by decide, by decide, by decide⟩
    · exact ⟨6, 6, rfl, by decide, by decide, by decide⟩
theorem inv_ok (hp : P4 p) {l : List Int} (hl : Row p m l) {c : Nat} (hc : c < m) (h0 : l.getD c 0 ≠ 0) : ∃ v, whileC (R := Unit) (fun s => p_spec_l17Rank_L4 l (c : Int) p s) (1 : Int) = some (.fin v) ∧ 1 ≤ v ∧ v < p ∧ (v * l.getD c 0) % p = 1 := by
  have h := hl.2 c hc
  obtain ⟨v, n, h1, h2⟩ := inv_core hp (c := l.getD c 0) (by omega)
  have e : (fun s => p_spec_l17Rank_L4 l (c : Int) p s) = invS (l.getD c 0) p := funext fun s => by
    simp only [p_spec_l17Rank_L4, idx_getD l 0 (by rw [hl.1]; exact hc : c < l.length), Option.bind_some, invS]
  rw [e]
  exact ⟨v, whileC_of h1, h2⟩
/-- The rows found so far, and their first places. -/
structure RI (p : Int) (m : Nat) (R : List (List Int)) (q : Nat → Nat) : Prop where
  row : ∀ k, k < R.length → Row p m (R.getD k [])
  lead : ∀ k, k < R.length → Lead p m (rv R k) (q k)
  one : ∀ k, k < R.length → rv R k (q k) = 1
  low : ∀ k, k < R.length → ∀ l, l < k → rv R k (q l) = 0
theorem reduce_ok (hp : P4 p) (hm : m ≤ 1048576) {R : List (List Int)} {q : Nat → Nat} (h : RI p m R q) {l : List Int} (hl : Row p m l) :
    ∃ l', forN (R := Unit) (fun k s => p_spec_l17Rank_L2 (vecG (fun k => ((q k : Nat) : Int)) R.length) R p k s) R.length 0 l = some (.fin l') ∧ Row p m l' ∧ (∀ j, j < R.length → l'.getD (q j) 0 = 0) ∧ Sp p m (rv R) R.length (fun i => l.getD i 0 - l'.getD i 0) := by
  obtain ⟨s, e, h1, h2, h3⟩ := forN_inv (R := Unit) (body := fun k s => p_spec_l17Rank_L2 (vecG (fun k => ((q k : Nat) : Int)) R.length) R p k s) (N := R.length) (s := l) (fun k s => Row p m s ∧ (∀ j, j < k → s.getD (q j) 0 = 0) ∧ Sp p m (rv R) R.length (fun i => l.getD i 0 - s.getD i 0))
    ⟨hl, fun j hj => by omega, Sp.zero fun i _ => by rw [Int.sub_self]; exact Int.dvd_zero p⟩
    (fun k s hk ⟨g1, g2, g3⟩ => by
      have hq := (h.lead k hk).1
      have es : idx s ((q k : Nat) : Int) = some (s.getD (q k) 0) := idx_getD s 0 (by rw [g1.1]; exact hq)
      simp only [p_spec_l17Rank_L2, vecG_idx hk, Option.bind_some, es]
      by_cases h0 : s.getD (q k) 0 = 0
      · refine ⟨s, by rw [h0]; rfl, g1, fun j hj => ?_, g3⟩
        by_cases hjk : j < k
        · exact g2 j hjk
        · have : j = k := by omega
          rw [this]; exact h0
      · have c0 := g1.2 (q k) hq
        have e2 : (s.getD (q k) 0 != 0) = true := bne_iff_ne.2 h0
        have ei : idx R (k : Int) = some (R.getD k []) := idx_getD R [] hk
        have el := less_ok hp hm g1 (h.row k hk) (k := s.getD (q k) 0) (by omega)
        simp only [e2, if_true, ei, Option.bind_some, el]
        refine ⟨_, rfl, row_vec hp _, fun j hj => ?_, ?_⟩
        · by_cases hjk : j < k
          · have hqj := (h.lead j (by omega)).1
            rw [vecG_getD hqj, g2 j hjk]
            have := h.low k hk j hjk
            unfold rv at this
            rw [this, Int.mul_zero]; rfl
          · have hjk' : j = k := by omega
            subst hjk'
            rw [vecG_getD hq]
            have := h.one j hk
            unfold rv at this
            rw [this, Int.mul_one, show s.getD (q j) 0 + (p - s.getD (q j) 0) = p by omega, Int.emod_self]
        · refine (g3.comb (s.getD (q k) 0) (Sp.base hk)).congr fun i hi => ?_
          rw [vecG_getD hi]
          have := emod_sub (s.getD i 0 + (p - s.getD (q k) 0) * (R.getD k []).getD i 0) p
          obtain ⟨z, hz⟩ := this
          refine ⟨-z - rv R k i, ?_⟩
          unfold rv
          rw [Int.mul_sub, Int.mul_neg, ← hz, Int.sub_mul]
          generalize (s.getD i 0 + (p * (R.getD k []).getD i 0 - s.getD (q k) 0 * (R.getD k []).getD i 0)) % p = Z
          omega)
  exact ⟨s, e, h1, h2, h3⟩
end
end Go.VG
