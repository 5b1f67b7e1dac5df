/- Cyclic, mixed, triple cocycles and sums are cocycles. No condition. -/
import Derived.Test.YtjjjljlobfpbnaaPlCocCyc
set_option linter.all false
namespace Go.VG
theorem mod5 (m a b c d e : Int) : (a % m - b % m + c % m - d % m + e % m) % m = (a - b + c - d + e) % m := by
  have h : a % m - b % m + c % m - d % m + e % m = (a - b + c - d + e) + m * (-(a / m) + b / m - c / m + d / m - e / m) := by
    rw [Int.emod_def a m, Int.emod_def b m, Int.emod_def c m, Int.emod_def d m, Int.emod_def e m]
    grind
  rw [h, Int.add_mul_emod_self_left]
theorem carry_eq (M x1 y1 e s k c1 c2 c3 c4 : Int) (hs : s = x1 + y1 - M * e) (hc : c4 + c2 = c1 + c3) : k * y1 * c1 - k * s * c1 + k * x1 * c2 - k * x1 * c3 + k * x1 * c4 = M * (k * e * c1) := by
  subst hs
  have : c4 = c1 + c3 - c2 := by omega
  subst this
  grind
/-- A carry. -/
def cr (M y z : Nat) : Nat := if M ≤ y + z then 1 else 0
theorem mod_two {M y z : Nat} (hy : y < M) (hz : z < M) : (y + z) % M = if M ≤ y + z then y + z - M else y + z := by
  split
  · rename_i h
    rw [Nat.mod_eq_sub_mod h, Nat.mod_eq_of_lt (by omega)]
  · exact Nat.mod_eq_of_lt (by omega)
theorem mod_two' {M y z : Nat} (hy : y < M) (hz : z < M) : (((y + z) % M : Nat) : Int) = (y : Int) + z - M * cr M y z := by
  rw [mod_two hy hz]
  unfold cr
  split <;> omega
theorem cr_assoc {M y z t : Nat} (hy : y < M) (hz : z < M) (ht : t < M) : (cr M y z : Int) + (cr M ((y + z) % M) t : Int) = (cr M z t : Int) + (cr M y ((z + t) % M) : Int) := by
  rw [mod_two hy hz, mod_two hz ht]
  unfold cr
  by_cases h1 : M ≤ y + z <;> by_cases h2 : M ≤ z + t <;> simp only [h1, h2, if_true, if_false]
  · by_cases h3 : M ≤ y + z - M + t
    · rw [if_pos h3, if_pos (by omega)]
    · rw [if_neg h3, if_neg (by omega)]
  · by_cases h3 : M ≤ y + z - M + t
    · omega
    · rw [if_neg h3, if_pos (by omega)]; omega
  · by_cases h3 : M ≤ y + z + t
    · rw [if_pos h3, if_neg (by omega)]; omega
    · omega
  · by_cases h3 : M ≤ y + z + t
    · rw [if_pos h3, if_pos (by omega)]
    · rw [if_neg h3, if_neg (by omega)]
theorem cr0l {M z : Nat} (h : z < M) : cr M 0 z = 0 := by unfold cr; rw [if_neg (by omega)]
theorem cr0r {M y : Nat} (h : y < M) : cr M y 0 = 0 := by unfold cr; rw [if_neg (by omega)]
theorem modR {a M : Nat} (h : 1 ≤ M) : 0 ≤ ((a % M : Nat) : Int) ∧ ((a % M : Nat) : Int) ≤ (M : Int) - 1 := by
  have := Nat.mod_lt a (show 0 < M by omega)
  omega
/-! ### Cyclic -/
theorem gn1 {n i j : Nat} (hn : 1 ≤ n ∧ n ≤ 8) (hi : i < n) (hj : j < n) : gn [(n : Int)] i j = (i + j) % n := by
  have h := ((grp1 hn).gadd hi hj).2.2
  have e : gR [(n : Int)].reverse (i : Int) (j : Int) = (((i % n + j % n) % n : Nat) : Int) + (n : Int) * 0 := rfl
  rw [e, Nat.mod_eq_of_lt hi, Nat.mod_eq_of_lt hj] at h
  omega
theorem cycN_cr (n k i j l : Nat) : cycN n k i j l = k * i * cr n j l := by
  unfold cycN cr; split <;> simp
theorem cycIs {n k : Nat} (hn : 1 ≤ n ∧ n ≤ 8) : IsC [(n : Int)] (n : Int) (cubeG (cycF n k) n n n) := by
  refine (grp1 hn).isC (by omega) (fun i _ j _ l _ => modR hn.1) (fun i hi j hj => ?_) fun i hi j hj l hl t ht => ?_
  · simp only [cycF, cycN_cr, cr0l hj, cr0r hj, Nat.mul_zero, Nat.zero_mul, Nat.zero_mod]
    exact ⟨rfl, rfl, rfl⟩
  · have hp : (j + l) % n < n := Nat.mod_lt _ (by omega)
    rw [gn1 hn hi hj, gn1 hn hj hl, gn1 hn hl ht]
    simp only [cycF, cycN_cr, Int.natCast_emod (_ * _), Int.natCast_mul]
    rw [mod5]
    rw [carry_eq (n : Int) (i : Int) (j : Int) (cr n i j) _ (k : Int) _ _ _ _ (mod_two' hi hj) (cr_assoc hj hl ht)]
    exact Int.mul_emod_right _ _
/-! ### Mixed -/
theorem gn2 {n m i j : Nat} (hn : 1 ≤ n) (hm : 1 ≤ m) (h8 : n * m ≤ 8) (hi : i < n * m) (hj : j < n * m) : gn [(n : Int), (m : Int)] i j % m = (i % m + j % m) % m ∧ gn [(n : Int), (m : Int)] i j / m = (i / m + j / m) % n := by
  have h := ((grp2 hn hm h8).gadd hi hj).2.2
  have hi' : i / m < n := Nat.div_lt_of_lt_mul (by rw [Nat.mul_comm]; exact hi)
  have hj' : j / m < n := Nat.div_lt_of_lt_mul (by rw [Nat.mul_comm]; exact hj)
  have e : gR [(n : Int), (m : Int)].reverse (i : Int) (j : Int) = (((i % m + j % m) % m : Nat) : Int) + (m : Int) * ((((i / m % n + j / m % n) % n : Nat) : Int) + (n : Int) * 0) := rfl
  rw [e, Nat.mod_eq_of_lt hi', Nat.mod_eq_of_lt hj', Int.mul_zero, Int.add_zero, ← Int.natCast_mul, ← Int.natCast_add] at h
  have h' : gn [(n : Int), (m : Int)] i j = (i % m + j % m) % m + m * ((i / m + j / m) % n) := by omega
  have hlt : (i % m + j % m) % m < m := Nat.mod_lt _ (by omega)
  rw [h']
  refine ⟨by rw [Nat.add_mul_mod_self_left, Nat.mod_eq_of_lt hlt], ?_⟩
  rw [Nat.add_mul_div_left _ _ (by omega), Nat.div_eq_of_lt hlt, Nat.zero_add]
theorem mixN_cr (m k i j l : Nat) : mixN m k i j l = k * (i / m) * cr m (j % m) (l % m) := by
  unfold mixN cr; split <;> simp
theorem mixIs {n m k : Nat} (hn : 1 ≤ n ∧ n ≤ 8) (hm : 1 ≤ m ∧ m ≤ 8) (h8 : n * m ≤ 8) : IsC [(n : Int), (m : Int)] (Nat.gcd n m : Int) (cubeG (mixF n m k) (n * m) (n * m) (n * m)) := by
  have hg := gcd8 (m := m) hn
  refine (grp2 hn.1 hm.1 h8).isC (by omega) (fun i _ j _ l _ => modR hg.1) (fun i hi j hj => ?_) fun i hi j hj l hl t ht => ?_
  · have hi' : i % m < m := Nat.mod_lt _ (by omega)
    have hj' : j % m < m := Nat.mod_lt _ (by omega)
    simp only [mixF, mixN_cr, Nat.zero_mod, Nat.zero_div, cr0l hj', cr0r hj', Nat.mul_zero, Nat.zero_mul]
    exact ⟨rfl, rfl, rfl⟩
  · have hi' : i / m < n := Nat.div_lt_of_lt_mul (by rw [Nat.mul_comm]; exact hi)
    have hj' : j / m < n := Nat.div_lt_of_lt_mul (by rw [Nat.mul_comm]; exact hj)
    have m1 : j % m < m := Nat.mod_lt _ (by omega)
    have m2 : l % m < m := Nat.mod_lt _ (by omega)
    have m3 : t % m < m := Nat.mod_lt _ (by omega)
    obtain ⟨_, a1⟩ := gn2 hn.1 hm.1 h8 hi hj
    obtain ⟨a2, _⟩ := gn2 hn.1 hm.1 h8 hj hl
    obtain ⟨a3, _⟩ := gn2 hn.1 hm.1 h8 hl ht
    simp only [mixF, mixN_cr, a1, a2, a3, Int.natCast_emod (_ * _), Int.natCast_mul]
    rw [mod5]
    rw [carry_eq (n : Int) ((i / m : Nat) : Int) ((j / m : Nat) : Int) (cr n (i / m) (j / m)) _ (k : Int) _ _ _ _ (mod_two' hi' hj') (cr_assoc m1 m2 m3)]
    have hd : (Nat.gcd n m : Int) ∣ (n : Int) := Int.natCast_dvd_natCast.2 (Nat.gcd_dvd_left n m)
    exact Int.emod_eq_zero_of_dvd (Int.dvd_mul_of_dvd_left hd)
/-! ### Triple -/
theorem gn3 {i j : Nat} (hi : i < 8) (hj : j < 8) : gn [(2 : Int), 2, 2] i j % 2 = (i % 2 + j % 2) % 2 ∧ gn [(2 : Int), 2, 2] i j / 2 % 2 = (i / 2 % 2 + j / 2 % 2) % 2 ∧ gn [(2 : Int), 2, 2] i j / 4 = (i / 4 + j / 4) % 2 := by
  have h := (grp3.gadd hi hj).2.2
  have e : gR [(2 : Int), 2, 2].reverse (i : Int) (j : Int) = (((i % 2 + j % 2) % 2 : Nat) : Int) + 2 * ((((i / 2 % 2 + j / 2 % 2) % 2 : Nat) : Int) + 2 * ((((i / 2 / 2 % 2 + j / 2 / 2 % 2) % 2 : Nat) : Int) + 2 * 0)) := rfl
  rw [e] at h
  have e1 : (i / 2 / 2 % 2 + j / 2 / 2 % 2) % 2 = (i / 4 + j / 4) % 2 := by
    have q : ∀ {a : Nat}, a < 8 → a / 2 / 2 % 2 = a / 4 := fun {a} ha => by rw [Nat.div_div_eq_div_mul, Nat.mod_eq_of_lt (by omega)]
    rw [q hi, q hj]
  rw [e1] at h
  have u0 : (i % 2 + j % 2) % 2 < 2 := Nat.mod_lt _ (by decide)
  have u1 : (i / 2 % 2 + j / 2 % 2) % 2 < 2 := Nat.mod_lt _ (by decide)
  have u2 : (i / 4 + j / 4) % 2 < 2 := Nat.mod_lt _ (by decide)
  clear e e1
  generalize (i % 2 + j % 2) % 2 = d0 at *
  generalize (i / 2 % 2 + j / 2 % 2) % 2 = d1 at *
  generalize (i / 4 + j / 4) % 2 = d2 at *
  generalize gn [(2 : Int), 2, 2] i j = s at *
  omega
theorem tri_bits : ∀ x1, x1 < 2 → ∀ y1, y1 < 2 → ∀ z2, z2 < 2 → ∀ t3, t3 < 2 → ∀ y2, y2 < 2 → ∀ z3, z3 < 2 →
    (((y1 * z2 * t3 % 2 : Nat) : Int) - (((x1 + y1) % 2 * z2 * t3 % 2 : Nat) : Int) + ((x1 * ((y2 + z2) % 2) * t3 % 2 : Nat) : Int) - ((x1 * y2 * ((z3 + t3) % 2) % 2 : Nat) : Int) + ((x1 * y2 * z3 % 2 : Nat) : Int)) % 2 = 0 := by decide +kernel
theorem triIs : IsC [(2 : Int), 2, 2] (2 : Int) (cubeG triF 8 8 8) := by
  refine grp3.isC (by decide) (fun i _ j _ l _ => modR (M := 2) (by decide)) (fun i hi j hj => ?_) fun i hi j hj l hl t ht => ?_
  · simp only [triF, triN, Nat.zero_div, Nat.zero_mod, Nat.mul_zero, Nat.zero_mul]
    exact ⟨rfl, rfl, rfl⟩
  · have h1 : i / 4 < 2 := by omega
    have h2 : j / 4 < 2 := by omega
    have h3 : l / 2 % 2 < 2 := Nat.mod_lt _ (by decide)
    have h4 : t % 2 < 2 := Nat.mod_lt _ (by decide)
    have h5 : j / 2 % 2 < 2 := Nat.mod_lt _ (by decide)
    have h6 : l % 2 < 2 := Nat.mod_lt _ (by decide)
    have a1 := (gn3 hi hj).2.2
    have a2 := (gn3 hj hl).2.1
    have a3 := (gn3 hl ht).1
    simp only [triF, triN, a1, a2, a3]
    exact tri_bits _ h1 _ h2 _ h3 _ h4 _ h5 _ h6
/-! ### Sums -/
section
variable {o : List Int} {m : Int} {V W : List (List (List Int))}
theorem sumIs (h : IsC o m V) (h' : IsC o m W) (hn : W.length = V.length) : IsC o m (cubeG (addC V W m) V.length V.length V.length) := by
  have hm := h.ok.mod
  have G := Grp.of h.ok
  refine G.isC hm (fun i _ j _ l _ => ?_) (fun i hi j hj => ?_) fun i hi j hj l hl t ht => ?_
  · unfold addC
    have := Int.emod_nonneg (c3 V i j l + c3 W i j l) (show m ≠ 0 by omega)
    have := Int.emod_lt_of_pos (c3 V i j l + c3 W i j l) (show 0 < m by omega)
    omega
  · obtain ⟨a1, a2, a3⟩ := h.norm i hi j hj
    obtain ⟨b1, b2, b3⟩ := h'.norm i (by omega) j (by omega)
    simp only [addC, a1, a2, a3, b1, b2, b3, Int.add_zero, Int.zero_emod, and_self]
  · have e1 := h.eq i hi j hj l hl t ht
    have e2 := h'.eq i (by omega) j (by omega) l (by omega) t (by omega)
    simp only [addC]
    rw [mod5]
    rw [show c3 V j l t + c3 W j l t - (c3 V (gn o i j) l t + c3 W (gn o i j) l t) + (c3 V i (gn o j l) t + c3 W i (gn o j l) t) - (c3 V i j (gn o l t) + c3 W i j (gn o l t)) + (c3 V i j l + c3 W i j l) =
      (c3 V j l t - c3 V (gn o i j) l t + c3 V i (gn o j l) t - c3 V i j (gn o l t) + c3 V i j l) + (c3 W j l t - c3 W (gn o i j) l t + c3 W i (gn o j l) t - c3 W i j (gn o l t) + c3 W i j l) by omega]
    exact Int.emod_eq_zero_of_dvd (Int.dvd_add (Int.dvd_of_emod_eq_zero e1) (Int.dvd_of_emod_eq_zero e2))
end
end Go.VG
