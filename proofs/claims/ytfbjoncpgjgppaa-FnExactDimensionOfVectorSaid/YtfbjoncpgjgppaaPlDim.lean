/- Whole dimensions of a ring: the matrix of all labels, its floor, and how one step brings weights together. Plain. -/
import Derived.Test.YtfbjoncpgjgppaaPlAssoc0
import Derived.Test.YtfbjoncpgjgppaaPlSumN
set_option linter.all false
namespace Go.VG
section
variable {T : List (List (List Int))}
/-- Positive whole numbers that are a character. -/
structure DimZ (T : List (List (List Int))) (d : Nat → Int) : Prop where
  ring : RingOK T
  pos : ∀ i, i < T.length → 1 ≤ d i
  mul : ∀ i, i < T.length → ∀ j, j < T.length → sumN (fun k => at3 T i j k * d k) T.length = d i * d j
def mM (T : List (List (List Int))) (j k : Nat) : Int := sumN (fun l => at3 T l j k) T.length
def dd (T : List (List (List Int))) (i : Nat) : Nat := (du T i).toNat
theorem RingOK.ddlt (h : RingOK T) {i : Nat} (hi : i < T.length) : dd T i < T.length := h.duN hi
theorem RingOK.ddd (h : RingOK T) {i : Nat} (hi : i < T.length) : dd T (dd T i) = i := by
  unfold dd; rw [(h.dual i hi).2]; simp
theorem RingOK.e1 (h : RingOK T) {i j k : Nat} (hi : i < T.length) (hj : j < T.length) (hk : k < T.length) : at3 T i j k = at3 T (dd T i) k j := (h.turn i hi j hj k hk).1
theorem RingOK.e2 (h : RingOK T) {i j k : Nat} (hi : i < T.length) (hj : j < T.length) (hk : k < T.length) : at3 T i j k = at3 T k (dd T j) i := (h.turn i hi j hj k hk).2
theorem RingOK.e3 (h : RingOK T) {i j k : Nat} (hi : i < T.length) (hj : j < T.length) (hk : k < T.length) : at3 T i j k = at3 T (dd T j) (dd T i) (dd T k) := by
  rw [h.e2 hi hj hk, h.e1 hk (h.ddlt hj) hi, h.e2 (h.ddlt hk) hi (h.ddlt hj)]
theorem RingOK.n0 (h : RingOK T) : 0 < T.length := by have := h.cube.1.1; omega
theorem RingOK.nle (h : RingOK T) : T.length ≤ 16 := h.cube.1.2
theorem mM_nonneg (h : RingOK T) {j k : Nat} (hj : j < T.length) (hk : k < T.length) : 0 ≤ mM T j k := sumN_nonneg fun l hl => (h.cube.rng hl hj hk).1
theorem mM_le (h : RingOK T) {j k : Nat} (hj : j < T.length) (hk : k < T.length) : mM T j k ≤ 16000 := by
  have := (sumN_bd (f := fun l => at3 T l j k) (a := 0) (b := 1000) (n := T.length) (fun l hl => h.cube.rng hl hj hk)).2
  have := h.nle
  unfold mM; omega
/-- Each two labels have a third that leads from the one to the other. -/
theorem mM_pos (h : RingOK T) {j k : Nat} (hj : j < T.length) (hk : k < T.length) : 1 ≤ mM T j k := by
  have hd := h.ddlt hj
  have ex : ∃ l, l < T.length ∧ 0 < at3 T l j k := by
    have u : ∃ e, e < T.length ∧ 0 < at3 T (dd T j) j e ∧ 0 < at3 T k e k := by
      refine ⟨0, h.n0, ?_, ?_⟩
      · rw [h.e1 hd hj h.n0, h.ddd hj, (h.unit j hj j hj).2]; simp [dl]
      · rw [(h.unit k hk k hk).2]; simp [dl]
    obtain ⟨l, hl, h1, h2⟩ := (h.assoc hk hd hj hk).2 u
    exact ⟨l, hl, h2⟩
  obtain ⟨l, hl, hp⟩ := ex
  have := sumN_at_le (f := fun l => at3 T l j k) (n := T.length) (fun l hl => (h.cube.rng hl hj hk).1) l hl
  unfold mM; omega
theorem mM_zero (h : RingOK T) {k : Nat} (hk : k < T.length) : mM T 0 k = 1 := by
  unfold mM
  rw [sumN_congr (g := fun l => dlt k l * 1) (fun l hl => by
    rw [(h.unit l hl k hk).2]; unfold dl dlt
    by_cases e : l = k
    · subst e; simp
    · have : ¬ k = l := fun e' => e e'.symm
      simp [e, this]), sumN_dlt (fun _ => 1), if_pos hk]
end
section
variable {T : List (List (List Int))} {d : Nat → Int}
theorem DimZ.zero (h : DimZ T d) : d 0 = 1 := by
  have hR := h.ring
  have e := h.mul 0 hR.n0 0 hR.n0
  rw [sumN_congr (g := fun k => dlt 0 k * d k) (fun k hk => by rw [(hR.unit 0 hR.n0 k hk).1]; rfl), sumN_dlt, if_pos hR.n0] at e
  have hp := h.pos 0 hR.n0
  have : d 0 * 1 = d 0 * d 0 := by rw [Int.mul_one]; exact e
  exact (Int.eq_of_mul_eq_mul_left (by omega) this).symm
/-- The dimensions are a vector that the matrix stretches. -/
theorem DimZ.eig (h : DimZ T d) {j : Nat} (hj : j < T.length) : sumN (fun k => mM T j k * d k) T.length = sumN d T.length * d j := by
  rw [sumN_congr (g := fun k => sumN (fun l => at3 T l j k * d k) T.length) (fun k hk => by unfold mM; rw [sumN_mulR])]
  rw [sumN_swap (fun k l => at3 T l j k * d k) T.length T.length]
  rw [sumN_congr (g := fun l => d l * d j) (fun l hl => h.mul l hl j hj), sumN_mulR]
/-- Dual labels have one dimension. -/
theorem DimZ.dual (h : DimZ T d) {j : Nat} (hj : j < T.length) : d (dd T j) = d j := by
  have hR := h.ring
  have hn := hR.n0
  have hinv : ∀ k, k < T.length → dd T k < T.length ∧ dd T (dd T k) = k := fun k hk => ⟨hR.ddlt hk, hR.ddd hk⟩
  have hlam : sumN (fun l => d (dd T l)) T.length = sumN d T.length := sumN_perm d hinv
  -- the turned dimensions are stretched, too
  have eig' : ∀ j, j < T.length → sumN (fun k => mM T j k * d (dd T k)) T.length = sumN d T.length * d (dd T j) := fun j hj => by
    rw [sumN_congr (g := fun k => sumN (fun l => at3 T l j k * d (dd T k)) T.length) (fun k hk => by unfold mM; rw [sumN_mulR])]
    rw [sumN_swap (fun k l => at3 T l j k * d (dd T k)) T.length T.length]
    rw [sumN_congr (g := fun l => d (dd T l) * d (dd T j)) (fun l hl => ?_), sumN_mulR, hlam]
    rw [sumN_congr (g := fun k => (fun m => at3 T (dd T j) (dd T l) m * d m) (dd T k)) (fun k hk => by rw [hR.e3 hl hj hk]), sumN_perm (fun m => at3 T (dd T j) (dd T l) m * d m) hinv, h.mul _ (hR.ddlt hj) _ (hR.ddlt hl), Int.mul_comm]
  -- a label with the least ratio
  have least : ∀ n, 0 < n → n ≤ T.length → ∃ p, p < n ∧ ∀ k, k < n → 0 ≤ d (dd T k) * d p - d (dd T p) * d k := by
    intro n
    induction n with
    | zero => intro h0; omega
    | succ n ih =>
      intro _ hle
      by_cases h0 : n = 0
      · subst h0
        refine ⟨0, by omega, fun k hk => ?_⟩
        have : k = 0 := by omega
        subst this; omega
      · obtain ⟨p, hp, hall⟩ := ih (by omega) (by omega)
        by_cases hc : 0 ≤ d (dd T n) * d p - d (dd T p) * d n
        · exact ⟨p, by omega, fun k hk => by
            by_cases e : k = n
            · subst e; exact hc
            · exact hall k (by omega)⟩
        · refine ⟨n, by omega, fun k hk => ?_⟩
          by_cases e : k = n
          · subst e; omega
          · have h1 := hall k (by omega)
            have dn := h.pos n (by omega); have dp := h.pos p (by omega); have dk := h.pos k (by omega)
            -- d'k dp >= d'p dk and d'p dn > d'n dp, so d'k dn >= d'n dk
            have a1 : d (dd T p) * d k * d n ≤ d (dd T k) * d p * d n := Int.mul_le_mul_of_nonneg_right (by omega) (by omega)
            have a2 : d (dd T n) * d p * d k ≤ d (dd T p) * d n * d k := Int.mul_le_mul_of_nonneg_right (by omega) (by omega)
            have b1 : d (dd T p) * d k * d n = d (dd T p) * d n * d k := by rw [Int.mul_assoc, Int.mul_comm (d k), ← Int.mul_assoc]
            have b2 : d (dd T k) * d p * d n = d p * (d (dd T k) * d n) := by rw [Int.mul_comm (d (dd T k)), Int.mul_assoc]
            have b3 : d (dd T n) * d p * d k = d p * (d (dd T n) * d k) := by rw [Int.mul_comm (d (dd T n)), Int.mul_assoc]
            have : d p * (d (dd T n) * d k) ≤ d p * (d (dd T k) * d n) := by omega
            have := Int.le_of_mul_le_mul_left this (by omega)
            omega
  obtain ⟨p, hp, hall⟩ := least T.length hn (Nat.le_refl _)
  have hz : sumN (fun k => mM T p k * (d (dd T k) * d p - d (dd T p) * d k)) T.length = 0 := by
    rw [sumN_congr (g := fun k => mM T p k * d (dd T k) * d p - d (dd T p) * (mM T p k * d k)) (fun k hk => by
      rw [Int.mul_sub, ← Int.mul_assoc, Int.mul_left_comm])]
    rw [sumN_sub, sumN_mulR, sumN_mulL, eig' p hp, h.eig hp]
    have : sumN d T.length * d (dd T p) * d p = d (dd T p) * (sumN d T.length * d p) := by rw [Int.mul_comm (sumN d T.length), Int.mul_assoc]
    omega
  have hzero := sumN_all_zero (fun k hk => Int.mul_nonneg (mM_nonneg hR hp hk) (hall k hk)) hz
  have heq : ∀ k, k < T.length → d (dd T k) * d p = d (dd T p) * d k := fun k hk => by
    have := hzero k hk
    have hm := mM_pos hR hp hk
    rcases Int.mul_eq_zero.1 this with h0 | h0
    · omega
    · omega
  have d00 : dd T 0 = 0 := by
    have := hR.e3 hn hn hn
    have u := (hR.unit 0 hn (dd T 0) (hR.ddlt hn)).1
    have u2 := (hR.unit (dd T 0) (hR.ddlt hn) 0 hn).2
    have e := hR.e1 hn hn hn
    rw [(hR.unit 0 hn 0 hn).1] at e
    rw [u2] at e
    unfold dl at e
    by_cases h0 : dd T 0 = 0
    · exact h0
    · simp [h0] at e
  have e0 := heq 0 hn
  rw [d00, h.zero] at e0
  have ej := heq j hj
  have : d (dd T p) = d p := by omega
  rw [this, Int.mul_comm (d p)] at ej
  exact Int.eq_of_mul_eq_mul_right (by have := h.pos p hp; omega) ej
/-- The matrix is nowhere less than a share of the products. -/
theorem DimZ.floor (h : DimZ T d) {D : Int} (hD : ∀ l, l < T.length → d l ≤ D) {j k : Nat} (hj : j < T.length) (hk : k < T.length) : d j * d k ≤ D * mM T j k := by
  have hR := h.ring
  have e1 : sumN (fun l => at3 T l j k * d l) T.length = d k * d (dd T j) := by
    rw [sumN_congr (g := fun l => at3 T k (dd T j) l * d l) (fun l hl => by rw [hR.e2 hl hj hk]), h.mul k hk _ (hR.ddlt hj)]
  rw [h.dual hj] at e1
  have e2 : sumN (fun l => at3 T l j k * d l) T.length ≤ sumN (fun l => D * at3 T l j k) T.length := sumN_le fun l hl => by
    rw [Int.mul_comm D]
    exact Int.mul_le_mul_of_nonneg_left (hD l hl) (hR.cube.rng hl hj hk).1
  rw [sumN_mulL, e1, Int.mul_comm] at e2
  exact e2
/-- The greatest dimension. -/
theorem DimZ.top (h : DimZ T d) : ∃ D, (∀ l, l < T.length → d l ≤ D) ∧ 1 ≤ D ∧ D ≤ 16000 ∧ D * sumN d T.length ≤ 4 * sumN (fun k => d k * d k) T.length := by
  have hR := h.ring
  have hn := hR.n0
  have hle := hR.nle
  have most : ∀ n, 0 < n → n ≤ T.length → ∃ p, p < n ∧ ∀ k, k < n → d k ≤ d p := by
    intro n
    induction n with
    | zero => intro h0; omega
    | succ n ih =>
      intro _ hle
      by_cases h0 : n = 0
      · subst h0
        exact ⟨0, by omega, fun k hk => by have : k = 0 := by omega
                                           subst this; exact Int.le_refl _⟩
      · obtain ⟨p, hp, hall⟩ := ih (by omega) (by omega)
        by_cases hc : d n ≤ d p
        · exact ⟨p, by omega, fun k hk => by
            by_cases e : k = n
            · subst e; exact hc
            · exact hall k (by omega)⟩
        · exact ⟨n, by omega, fun k hk => by
            by_cases e : k = n
            · subst e; exact Int.le_refl _
            · have := hall k (by omega); omega⟩
  obtain ⟨p, hp, hall⟩ := most T.length hn (Nat.le_refl _)
  have hp1 := h.pos p hp
  refine ⟨d p, hall, hp1, ?_, ?_⟩
  · -- the square of the greatest is at most 16 times 1000 times it
    have e := h.mul p hp p hp
    have : sumN (fun k => at3 T p p k * d k) T.length ≤ sumN (fun _ => 1000 * d p) T.length := sumN_le fun k hk => by
      have r := hR.cube.rng hp hp hk
      exact Int.mul_le_mul r.2 (hall k hk) (by have := h.pos k hk; omega) (by omega)
    have c : sumN (fun _ => 1000 * d p) T.length ≤ T.length * (1000 * d p) := (sumN_bd (f := fun _ => 1000 * d p) (a := 0) (b := 1000 * d p) (n := T.length) (fun k hk => by omega)).2
    have c2 : (T.length : Int) * (1000 * d p) ≤ 16 * (1000 * d p) := Int.mul_le_mul_of_nonneg_right (by omega) (by omega)
    rw [e] at this
    have : d p * d p ≤ 16000 * d p := by omega
    exact Int.le_of_mul_le_mul_right this (by omega)
  · have q1 := sumN_sq d T.length
    have q2 : d p * d p ≤ sumN (fun k => d k * d k) T.length := sumN_at_le (f := fun k => d k * d k) (fun k hk => by have := h.pos k hk; exact Int.mul_nonneg (by omega) (by omega)) p hp
    have s0 : 0 ≤ sumN d T.length := sumN_nonneg fun k hk => by have := h.pos k hk; omega
    generalize sumN d T.length = s at *
    generalize sumN (fun k => d k * d k) T.length = q at *
    have q0 : 0 ≤ q := by have := Int.mul_nonneg (a := d p) (b := d p) (by omega) (by omega); omega
    have q3 : (T.length : Int) * q ≤ 16 * q := Int.mul_le_mul_of_nonneg_right (by omega) q0
    -- (D s)^2 <= q 16 q
    apply Decidable.byContradiction
    intro hc
    have hc' : 4 * q < d p * s := by omega
    have sq : (4 * q) * (4 * q) < (d p * s) * (d p * s) := by
      have a : 4 * q * (4 * q) ≤ 4 * q * (d p * s) := Int.mul_le_mul_of_nonneg_left (by omega) (by omega)
      have b : 4 * q * (d p * s) < (d p * s) * (d p * s) := Int.mul_lt_mul_of_pos_right hc' (by omega)
      omega
    have e1 : (d p * s) * (d p * s) = (d p * d p) * (s * s) := by rw [Int.mul_assoc, Int.mul_assoc, Int.mul_left_comm s]
    have e2 : (d p * d p) * (s * s) ≤ q * (16 * q) := Int.mul_le_mul q2 (by omega) (Int.mul_nonneg s0 s0) q0
    have e3 : (4 * q) * (4 * q) = 16 * (q * q) := by rw [Int.mul_assoc, Int.mul_left_comm q]; omega
    have e4 : q * (16 * q) = 16 * (q * q) := Int.mul_left_comm ..
    omega
end

/-! ### One step -/
def nW (T : List (List (List Int))) (w : Nat → Int) (j : Nat) : Int := sumN (fun k => mM T j k * w k) T.length
section
variable {T : List (List (List Int))} {d w : Nat → Int}
/-- Weights whose ratios to the dimensions differ by no more than a / B, relative to the least. -/
def Near (n : Nat) (d w : Nat → Int) (a B : Int) : Prop := ∀ i, i < n → ∀ j, j < n → B * (w j * d i - w i * d j) ≤ a * (w i * d j)
theorem DimZ.step (h : DimZ T d) {a B : Int} (hw : ∀ k, k < T.length → 0 ≤ w k) (ha : 0 ≤ a) (hB : 0 ≤ B) (hN : Near T.length d w a B) : Near T.length d (nW T w) (3 * a) (4 * B) := by
  have hR := h.ring
  have hn := hR.n0
  obtain ⟨D, hD, hD1, _, hq⟩ := h.top
  generalize hlam : sumN d T.length = lam at hq
  have hlam0 : 0 ≤ lam := by rw [← hlam]; exact sumN_nonneg fun k hk => by have := h.pos k hk; omega
  intro i hi j hj
  have di := h.pos i hi; have dj := h.pos j hj
  -- the label with the least ratio
  have least : ∀ n, 0 < n → n ≤ T.length → ∃ p, p < n ∧ ∀ k, k < n → 0 ≤ w k * d p - w p * d k := by
    intro n
    induction n with
    | zero => intro h0; omega
    | succ n ih =>
      intro _ hle
      by_cases h0 : n = 0
      · subst h0
        refine ⟨0, by omega, fun k hk => ?_⟩
        have : k = 0 := by omega
        subst this; omega
      · obtain ⟨p, hp, hall⟩ := ih (by omega) (by omega)
        by_cases hc : 0 ≤ w n * d p - w p * d n
        · exact ⟨p, by omega, fun k hk => by
            by_cases e : k = n
            · subst e; exact hc
            · exact hall k (by omega)⟩
        · refine ⟨n, by omega, fun k hk => ?_⟩
          by_cases e : k = n
          · subst e; omega
          · have h1 := hall k (by omega)
            have dn := h.pos n (by omega); have dp := h.pos p (by omega); have dk := h.pos k (by omega)
            have a1 : w p * d k * d n ≤ w k * d p * d n := Int.mul_le_mul_of_nonneg_right (by omega) (by omega)
            have a2 : w n * d p * d k ≤ w p * d n * d k := Int.mul_le_mul_of_nonneg_right (by omega) (by omega)
            have b1 : w p * d k * d n = w p * d n * d k := by rw [Int.mul_assoc, Int.mul_comm (d k), ← Int.mul_assoc]
            have b2 : w k * d p * d n = d p * (w k * d n) := by rw [Int.mul_comm (w k), Int.mul_assoc]
            have b3 : w n * d p * d k = d p * (w n * d k) := by rw [Int.mul_comm (w n), Int.mul_assoc]
            have : d p * (w n * d k) ≤ d p * (w k * d n) := by omega
            have := Int.le_of_mul_le_mul_left this (by omega)
            omega
  obtain ⟨p, hp, hu⟩ := least T.length hn (Nat.le_refl _)
  have dp := h.pos p hp
  have wp := hw p hp
  -- the difference, by u
  have hdiff : d p * (nW T w j * d i - nW T w i * d j) = sumN (fun k => (mM T j k * d i - mM T i k * d j) * (w k * d p - w p * d k)) T.length := by
    have e1 : ∀ k, (mM T j k * d i - mM T i k * d j) * (w k * d p - w p * d k) = (d p * d i) * (mM T j k * w k) - (d p * d j) * (mM T i k * w k) - ((w p * d i) * (mM T j k * d k) - (w p * d j) * (mM T i k * d k)) := fun k => by
      rw [Int.sub_mul, Int.mul_sub, Int.mul_sub]
      have c1 : mM T j k * d i * (w k * d p) = (d p * d i) * (mM T j k * w k) := by
        rw [Int.mul_comm (d p), Int.mul_assoc (mM T j k), Int.mul_assoc (d i), Int.mul_left_comm (mM T j k), Int.mul_left_comm (d p), Int.mul_comm (w k)]
      have c2 : mM T j k * d i * (w p * d k) = (w p * d i) * (mM T j k * d k) := by
        rw [Int.mul_comm (w p) (d i), Int.mul_assoc (mM T j k), Int.mul_assoc (d i), Int.mul_left_comm (mM T j k), Int.mul_left_comm (w p)]
      have c3 : mM T i k * d j * (w k * d p) = (d p * d j) * (mM T i k * w k) := by
        rw [Int.mul_comm (d p), Int.mul_assoc (mM T i k), Int.mul_assoc (d j), Int.mul_left_comm (mM T i k), Int.mul_left_comm (d p), Int.mul_comm (w k)]
      have c4 : mM T i k * d j * (w p * d k) = (w p * d j) * (mM T i k * d k) := by
        rw [Int.mul_comm (w p) (d j), Int.mul_assoc (mM T i k), Int.mul_assoc (d j), Int.mul_left_comm (mM T i k), Int.mul_left_comm (w p)]
      rw [c1, c2, c3, c4]; omega
    rw [sumN_congr (fun k _ => e1 k), sumN_sub, sumN_sub, sumN_sub, sumN_mulL, sumN_mulL, sumN_mulL, sumN_mulL, h.eig hj, h.eig hi, hlam]
    have c5 : w p * d i * (lam * d j) = w p * d j * (lam * d i) := by
      rw [Int.mul_assoc, Int.mul_assoc, Int.mul_left_comm (d i), Int.mul_left_comm (d j), Int.mul_comm (d i)]
    have c6 : d p * (nW T w j * d i - nW T w i * d j) = d p * d i * nW T w j - d p * d j * nW T w i := by
      rw [Int.mul_sub, Int.mul_assoc, Int.mul_assoc, Int.mul_comm (d i), Int.mul_comm (d j)]
    rw [c6, c5]
    unfold nW; omega
  -- bound: D B d_p diff <= a w_p d_i d_j (D lam - S2)
  have hb : ∀ k, k < T.length → D * (B * ((mM T j k * d i - mM T i k * d j) * (w k * d p - w p * d k))) ≤ (a * w p * d i) * ((D * mM T j k - d j * d k) * d k) := fun k hk => by
    have hu0 := hu k hk
    have hNk := hN p hp k hk
    have dk := h.pos k hk
    have f1 := h.floor hD hj hk
    have f2 := h.floor hD hi hk
    generalize w k * d p - w p * d k = u at *
    have g1 : D * (mM T j k * d i - mM T i k * d j) ≤ (D * mM T j k - d j * d k) * d i := by
      have a1 : D * (mM T j k * d i - mM T i k * d j) = D * mM T j k * d i - D * mM T i k * d j := by rw [Int.mul_sub, ← Int.mul_assoc, ← Int.mul_assoc]
      have a2 : (D * mM T j k - d j * d k) * d i = D * mM T j k * d i - d j * d k * d i := Int.sub_mul ..
      have a3 : d i * d k * d j ≤ D * mM T i k * d j := Int.mul_le_mul_of_nonneg_right f2 (by omega)
      have a4 : d i * d k * d j = d j * d k * d i := by rw [Int.mul_comm (d j * d k), ← Int.mul_assoc, Int.mul_assoc (d i), Int.mul_comm (d k), Int.mul_assoc (d i)]
      omega
    have q0 : 0 ≤ (D * mM T j k - d j * d k) * d i := Int.mul_nonneg (by omega) (by omega)
    have hBu : 0 ≤ B * u := Int.mul_nonneg hB hu0
    have s1 : D * (B * ((mM T j k * d i - mM T i k * d j) * u)) = (D * (mM T j k * d i - mM T i k * d j)) * (B * u) := by
      rw [Int.mul_left_comm B, ← Int.mul_assoc D]
    have s2 : (D * (mM T j k * d i - mM T i k * d j)) * (B * u) ≤ ((D * mM T j k - d j * d k) * d i) * (B * u) := Int.mul_le_mul_of_nonneg_right g1 hBu
    have s3 : ((D * mM T j k - d j * d k) * d i) * (B * u) ≤ ((D * mM T j k - d j * d k) * d i) * (a * (w p * d k)) := Int.mul_le_mul_of_nonneg_left hNk q0
    have s4 : ((D * mM T j k - d j * d k) * d i) * (a * (w p * d k)) = (a * w p * d i) * ((D * mM T j k - d j * d k) * d k) := by
      generalize D * mM T j k - d j * d k = x
      rw [← Int.mul_assoc a, Int.mul_assoc x, Int.mul_left_comm (d i), Int.mul_left_comm x, Int.mul_assoc (a * w p), Int.mul_left_comm x (d i)]
    rw [s1, ← s4]; omega
  have htot : D * (B * (d p * (nW T w j * d i - nW T w i * d j))) ≤ (a * w p * d i) * (D * (lam * d j) - d j * sumN (fun k => d k * d k) T.length) := by
    rw [hdiff, ← sumN_mulL, ← sumN_mulL]
    refine Int.le_trans (sumN_le hb) ?_
    rw [sumN_mulL]
    refine Int.le_of_eq (congrArg _ ?_)
    rw [sumN_congr (g := fun k => D * (mM T j k * d k) - d j * (d k * d k)) (fun k hk => by rw [Int.sub_mul, Int.mul_assoc, Int.mul_assoc]), sumN_sub, sumN_mulL, sumN_mulL, h.eig hj, hlam]
  generalize sumN (fun k => d k * d k) T.length = S2 at *
  -- 4 (D lam dj - dj S2) <= 3 D lam dj
  have h34 : 4 * (D * (lam * d j) - d j * S2) ≤ 3 * (D * (lam * d j)) := by
    have : d j * (D * lam) ≤ d j * (4 * S2) := Int.mul_le_mul_of_nonneg_left hq (by omega)
    have e1 : d j * (D * lam) = D * (lam * d j) := by rw [Int.mul_comm (d j), Int.mul_assoc]
    have e2 : d j * (4 * S2) = 4 * (d j * S2) := by rw [Int.mul_left_comm]
    omega
  have hk0 : 0 ≤ a * w p * d i := Int.mul_nonneg (Int.mul_nonneg ha wp) (by omega)
  have h5 : 4 * (D * (B * (d p * (nW T w j * d i - nW T w i * d j)))) ≤ (a * w p * d i) * (3 * (D * (lam * d j))) := by
    have := Int.mul_le_mul_of_nonneg_left h34 hk0
    have e : (a * w p * d i) * (4 * (D * (lam * d j) - d j * S2)) = 4 * ((a * w p * d i) * (D * (lam * d j) - d j * S2)) := Int.mul_left_comm ..
    omega
  -- w_p lam d_i <= nW i d_p
  have h6 : w p * (lam * d i) ≤ nW T w i * d p := by
    rw [← hlam, ← h.eig hi, ← sumN_mulL]
    unfold nW
    rw [← sumN_mulR]
    refine sumN_le fun k hk => ?_
    have : mM T i k * (w p * d k) ≤ mM T i k * (w k * d p) := Int.mul_le_mul_of_nonneg_left (by have := hu k hk; omega) (mM_nonneg hR hi hk)
    rw [Int.mul_left_comm, Int.mul_assoc]; exact this
  have h7 : (a * w p * d i) * (3 * (D * (lam * d j))) ≤ 3 * (D * (d p * (a * (nW T w i * d j)))) := by
    have e1 : (a * w p * d i) * (3 * (D * (lam * d j))) = (3 * (D * (a * d j))) * (w p * (lam * d i)) := by
      rw [Int.mul_assoc a, Int.mul_assoc 3, Int.mul_assoc D, Int.mul_assoc a (d j), Int.mul_left_comm (a * (w p * d i)), Int.mul_left_comm (a * (w p * d i)), Int.mul_assoc a (w p * d i)]
      congr 3
      rw [Int.mul_assoc (w p), Int.mul_left_comm (d j), Int.mul_left_comm (d i), Int.mul_comm (d i) (d j), Int.mul_left_comm (d j)]
    have e2 : 3 * (D * (d p * (a * (nW T w i * d j)))) = (3 * (D * (a * d j))) * (nW T w i * d p) := by
      rw [Int.mul_assoc 3, Int.mul_assoc D, Int.mul_assoc a]
      congr 2
      rw [Int.mul_left_comm (d p), Int.mul_comm (nW T w i) (d j), Int.mul_left_comm (d p), Int.mul_comm (d p)]
    rw [e1, e2]
    exact Int.mul_le_mul_of_nonneg_left h6 (Int.mul_nonneg (by decide) (Int.mul_nonneg (by omega) (Int.mul_nonneg ha (by omega))))
  have h8 : (D * d p) * (4 * B * (nW T w j * d i - nW T w i * d j)) ≤ (D * d p) * (3 * a * (nW T w i * d j)) := by
    have e1 : 4 * (D * (B * (d p * (nW T w j * d i - nW T w i * d j)))) = (D * d p) * (4 * B * (nW T w j * d i - nW T w i * d j)) := by
      generalize nW T w j * d i - nW T w i * d j = x
      rw [Int.mul_assoc D, Int.mul_assoc 4, Int.mul_left_comm (d p) 4, Int.mul_left_comm D 4, Int.mul_left_comm (d p) B]
    have e2 : 3 * (D * (d p * (a * (nW T w i * d j)))) = (D * d p) * (3 * a * (nW T w i * d j)) := by
      generalize nW T w i * d j = x
      rw [Int.mul_assoc D, Int.mul_assoc 3, Int.mul_left_comm (d p) 3, Int.mul_left_comm D 3]
    omega
  exact Int.le_of_mul_le_mul_left h8 (Int.mul_pos (by omega) (by omega))
end
end Go.VG
