/- The group of a cocycle: the sum of two elements told by digits; the multiples of an element come back to 0. No condition. -/
import Derived.Test.YtjjjljlobfpbnaaPlCocAll
set_option linter.all false
namespace Go.VG
/-- The sum by digits; the last order first. -/
def gR : List Int → Int → Int → Int
  | [], _, _ => 0
  | M :: l, a, b => (a % M + b % M) % M + M * gR l (a / M) (b / M)
theorem addS_eq {M a b s p : Int} (hm : 1 ≤ M ∧ M ≤ 8) (ha : 0 ≤ a ∧ a ≤ 1000) (hb : 0 ≤ b ∧ b ≤ 1000) (hs : 0 ≤ s ∧ s < p) (hp : p * M ≤ 8) :
    p_impl_addElements_S M (a, b, s, p) = (a / M, b / M, s + ((a % M + b % M) % M) * p, p * M) ∧ (0 ≤ a / M ∧ a / M ≤ 1000) ∧ (0 ≤ b / M ∧ b / M ≤ 1000) ∧ 0 ≤ s + ((a % M + b % M) % M) * p ∧ s + ((a % M + b % M) % M) * p < p * M := by
  have e1 : a.tdiv M = a / M := Int.tdiv_eq_ediv_of_nonneg ha.1
  have e2 : b.tdiv M = b / M := Int.tdiv_eq_ediv_of_nonneg hb.1
  have q1 : 0 ≤ a / M := Int.ediv_nonneg ha.1 (by omega)
  have q2 : a / M ≤ a := Int.ediv_le_self _ ha.1
  have q3 : 0 ≤ b / M := Int.ediv_nonneg hb.1 (by omega)
  have q4 : b / M ≤ b := Int.ediv_le_self _ hb.1
  have t1 : a.tmod M = a % M := Int.tmod_eq_emod_of_nonneg ha.1
  have t2 : b.tmod M = b % M := Int.tmod_eq_emod_of_nonneg hb.1
  have m1 := Int.emod_nonneg a (show M ≠ 0 by omega)
  have m2 := Int.emod_lt_of_pos a (show 0 < M by omega)
  have m3 := Int.emod_nonneg b (show M ≠ 0 by omega)
  have m4 := Int.emod_lt_of_pos b (show 0 < M by omega)
  have ew : w64 (a % M + b % M) = a % M + b % M := w64_small (by omega) (by omega)
  have t3 : (a % M + b % M).tmod M = (a % M + b % M) % M := Int.tmod_eq_emod_of_nonneg (by omega)
  have m5 := Int.emod_nonneg (a % M + b % M) (show M ≠ 0 by omega)
  have m6 := Int.emod_lt_of_pos (a % M + b % M) (show 0 < M by omega)
  generalize (a % M + b % M) % M = d at *
  have hp1 : 1 ≤ p := by omega
  have d1 : 0 ≤ d * p := Int.mul_nonneg m5 (by omega)
  have d2 : d * p + p ≤ p * M := by
    have := Int.mul_le_mul_of_nonneg_right (show d + 1 ≤ M by omega) (show 0 ≤ p by omega)
    rw [Int.add_mul, Int.one_mul, Int.mul_comm M p] at this
    exact this
  refine ⟨?_, by omega, by omega, by omega, by omega⟩
  simp only [p_impl_addElements_S, e1, e2, t1, t2, ew, t3]
  rw [w64_small (x := a / M) (by omega) (by omega), w64_small (x := b / M) (by omega) (by omega), w64_small (x := d * p) (by omega) (by omega), w64_small (x := s + d * p) (by omega) (by omega), w64_small (x := p * M) (by omega) (by omega)]
theorem addFold_eq : ∀ (l : List Int) (a b s p : Int), (∀ x ∈ l, 1 ≤ x) → 0 ≤ a ∧ a ≤ 1000 → 0 ≤ b ∧ b ≤ 1000 → 0 ≤ s ∧ s < p → p * prodL l ≤ 8 →
    (l.foldl (fun s m => p_impl_addElements_S m s) (a, b, s, p)).2.2.1 = s + p * gR l a b
  | [], a, b, s, p, _, _, _, hs, _ => by simp [gR]
  | x :: l, a, b, s, p, hl, ha, hb, hs, hp => by
    have hx := hl x (by simp)
    have hpos : 1 ≤ prodL l := prodL_pos fun y hy => hl y (by simp [hy])
    simp only [prodL] at hp
    rw [← Int.mul_assoc] at hp
    have hpx : p * x ≤ 8 := by
      have := le_mul_r (a := p * x) (Int.mul_nonneg (by omega) (by omega)) hpos
      omega
    have hx8 : x ≤ 8 := by
      have := le_mul_l (a := x) (by omega) (show 1 ≤ p by omega)
      omega
    obtain ⟨e, h1, h2, h3, h4⟩ := addS_eq ⟨hx, hx8⟩ ha hb hs hpx
    simp only [List.foldl_cons, e]
    rw [addFold_eq l _ _ _ (p * x) (fun y hy => hl y (by simp [hy])) h1 h2 ⟨h3, h4⟩ hp]
    simp only [gR]
    generalize gR l (a / x) (b / x) = g
    generalize (a % x + b % x) % x = d
    grind
theorem gadd_eq {o : List Int} (hp : ∀ x ∈ o, 1 ≤ x) (h8 : prodL o ≤ 8) {x y : Int} (hx : 0 ≤ x ∧ x ≤ 1000) (hy : 0 ≤ y ∧ y ≤ 1000) : gadd o x y = gR o.reverse x y := by
  unfold gadd
  rw [addFold_eq o.reverse x y 0 1 (fun q hq => hp q (by simpa using hq)) hx hy (by decide) (by rw [prodL_rev]; omega)]
  omega
theorem gR_bd : ∀ (l : List Int) (a b : Int), (∀ x ∈ l, 1 ≤ x) → 0 ≤ gR l a b ∧ gR l a b < prodL l
  | [], a, b, _ => by simp [gR, prodL]
  | x :: l, a, b, hl => by
    have hx := hl x (by simp)
    have ih := gR_bd l (a / x) (b / x) fun y hy => hl y (by simp [hy])
    simp only [gR, prodL]
    have m1 := Int.emod_nonneg (a % x + b % x) (show x ≠ 0 by omega)
    have m2 := Int.emod_lt_of_pos (a % x + b % x) (show 0 < x by omega)
    generalize gR l (a / x) (b / x) = g at *
    generalize (a % x + b % x) % x = d at *
    have h1 : 0 ≤ x * g := Int.mul_nonneg (by omega) ih.1
    have h2 := Int.mul_le_mul_of_nonneg_left (show g + 1 ≤ prodL l by omega) (show 0 ≤ x by omega)
    rw [Int.mul_add, Int.mul_one] at h2
    omega
/-- The multiples of an element. -/
def itR (l : List Int) (x : Int) : Nat → Int
  | 0 => 0
  | j + 1 => gR l (itR l x j) x
theorem divMod {M u v : Int} (h0 : 0 ≤ u) (h1 : u < M) : (u + M * v) % M = u ∧ (u + M * v) / M = v := by
  refine ⟨by rw [Int.add_mul_emod_self_left, Int.emod_eq_of_lt h0 h1], ?_⟩
  rw [Int.add_mul_ediv_left _ _ (by omega), Int.ediv_eq_zero_of_lt h0 h1, Int.zero_add]
theorem itR_nil (x : Int) : ∀ j, itR [] x j = 0
  | 0 => rfl
  | j + 1 => rfl
theorem itR_cons {M : Int} (hM : 1 ≤ M) (l : List Int) (x : Int) : ∀ j : Nat, itR (M :: l) x j = ((j : Int) * (x % M)) % M + M * itR l (x / M) j
  | 0 => by simp [itR]
  | j + 1 => by
    have ih := itR_cons hM l x j
    have m1 := Int.emod_nonneg ((j : Int) * (x % M)) (show M ≠ 0 by omega)
    have m2 := Int.emod_lt_of_pos ((j : Int) * (x % M)) (show 0 < M by omega)
    obtain ⟨e1, e2⟩ := divMod (v := itR l (x / M) j) m1 m2
    rw [itR, ih, gR, e1, e2, itR]
    congr 1
    rw [Int.emod_add_emod]
    congr 1
    grind
theorem itR_zero : ∀ (l : List Int) (x : Int) (j : Nat), (∀ x ∈ l, 1 ≤ x) → prodL l ∣ (j : Int) → itR l x j = 0
  | [], x, j, _, _ => itR_nil x j
  | M :: l, x, j, hl, hj => by
    rw [itR_cons (hl M (by simp))]
    simp only [prodL] at hj
    have h1 : M ∣ (j : Int) := Int.dvd_trans (Int.dvd_mul_right M (prodL l)) hj
    have h2 : prodL l ∣ (j : Int) := Int.dvd_trans (Int.dvd_mul_left M (prodL l)) hj
    rw [itR_zero l _ j (fun y hy => hl y (by simp [hy])) h2, Int.mul_zero, Int.add_zero]
    exact Int.emod_eq_zero_of_dvd (Int.dvd_mul_of_dvd_left h1)
/-- The sum as a number of an element. -/
def gn (o : List Int) (i j : Nat) : Nat := (gadd o (i : Int) (j : Int)).toNat
/-- Orders of a small group. -/
structure Grp (o : List Int) (n : Nat) : Prop where
  ne : 1 ≤ o.length
  pos : ∀ x ∈ o, 1 ≤ x
  size : prodL o = n
  small : n ≤ 8
section
variable {o : List Int} {n : Nat}
theorem Grp.n1 (h : Grp o n) : 1 ≤ n := by have := prodL_pos h.pos; have := h.size; omega
theorem Grp.gadd (h : Grp o n) {i j : Nat} (hi : i < n) (hj : j < n) : gadd o (i : Int) (j : Int) = (gn o i j : Int) ∧ gn o i j < n ∧ (gn o i j : Int) = gR o.reverse (i : Int) (j : Int) := by
  have hn := h.small
  have e := gadd_eq (x := (i : Int)) (y := (j : Int)) h.pos (by rw [h.size]; omega) (by omega) (by omega)
  have b := gR_bd o.reverse (i : Int) (j : Int) (fun q hq => h.pos q (by simpa using hq))
  rw [prodL_rev, h.size] at b
  unfold gn
  rw [e]
  omega
theorem Grp.of {m : Int} {V : List (List (List Int))} (h : CocOK o m V) : Grp o V.length := ⟨h.ne, h.pos, h.size, h.small⟩
/-- The multiples of an element, as elements. -/
def itN (o : List Int) (x : Nat) : Nat → Nat
  | 0 => 0
  | j + 1 => gn o (itN o x j) x
theorem Grp.itN (h : Grp o n) {x : Nat} (hx : x < n) : ∀ j, itN o x j < n ∧ (itN o x j : Int) = itR o.reverse (x : Int) j
  | 0 => ⟨by have := h.n1; show 0 < n; omega, rfl⟩
  | j + 1 => by
    obtain ⟨h1, h2⟩ := Grp.itN h hx j
    obtain ⟨g1, g2, g3⟩ := h.gadd h1 hx
    refine ⟨g2, ?_⟩
    show ((gn o (Go.VG.itN o x j) x : Nat) : Int) = gR o.reverse (itR o.reverse (x : Int) j) (x : Int)
    rw [g3, h2]
theorem Grp.back (h : Grp o n) {x : Nat} (hx : x < n) : Go.VG.itN o x n = 0 := by
  have := (h.itN hx n).2
  rw [itR_zero o.reverse _ n (fun q hq => h.pos q (by simpa using hq)) (by rw [prodL_rev, h.size]; exact Int.dvd_refl _)] at this
  omega
/-- The first multiple that is 0. -/
theorem Grp.first (h : Grp o n) {x : Nat} (hx : x < n) : ∃ J, 1 ≤ J ∧ J ≤ n ∧ Go.VG.itN o x J = 0 ∧ ∀ j, 1 ≤ j → j < J → Go.VG.itN o x j ≠ 0 := by
  have key : ∀ c, c ≤ n → (∃ J, 1 ≤ J ∧ J ≤ c ∧ Go.VG.itN o x J = 0 ∧ ∀ j, 1 ≤ j → j < J → Go.VG.itN o x j ≠ 0) ∨ ∀ j, 1 ≤ j → j ≤ c → Go.VG.itN o x j ≠ 0 := by
    intro c
    induction c with
    | zero => exact fun _ => .inr fun j h1 h2 => by omega
    | succ c ih =>
      intro hc
      rcases ih (by omega) with ⟨J, h1, h2, h3, h4⟩ | hno
      · exact .inl ⟨J, h1, by omega, h3, h4⟩
      · by_cases hz : Go.VG.itN o x (c + 1) = 0
        · exact .inl ⟨c + 1, by omega, by omega, hz, fun j h1 h2 => hno j h1 (by omega)⟩
        · exact .inr fun j h1 h2 => by
            by_cases e : j = c + 1
            · subst e; exact hz
            · exact hno j h1 (by omega)
  rcases key n (Nat.le_refl _) with h1 | h1
  · exact h1
  · exact absurd (h.back hx) (h1 n h.n1 (Nat.le_refl _))
end
end Go.VG
