/- Cyclic, mixed, triple cocycles: the model's beside the code's. No condition. -/
import Derived.Test.YtjjjljlobfpbnaaPlCocMk
set_option linter.all false
namespace Go.VG
/-- Three loops of which the innermost writes a row. -/
theorem fillR {α : Type} {a b c : Nat} {L1 : Nat → List (List (List α)) → Option (Ctl (List (List (List α))) Unit)} {L2 : Nat → Nat → List (List (List α)) → Option (Ctl (List (List (List α))) Unit)} (S S' : Nat → Nat → Nat → α)
    (h2 : ∀ i, i < a → ∀ j, j < b → ∀ g : Nat → Nat → Nat → α, (∀ k, k < c → g i j k = S i j k) → L2 i j (cubeG g a b c) = some (.next (cubeG (fun x y z => if x = i ∧ y = j then S' x y z else g x y z) a b c)))
    (h1 : ∀ i, i < a → ∀ g : Nat → Nat → Nat → α, L1 i (cubeG g a b c) = (forN (L2 i) b 0 (cubeG g a b c)).bind fun res => onRes res (fun _ => none) fun z => some (.next z)) :
    forN L1 a 0 (cubeG S a b c) = some (.fin (cubeG S' a b c)) := by
  have := forN_det (R := Unit) (N := a) (body := L1) (fun q => cubeG (fun x y z => if x < q then S' x y z else S x y z) a b c) (fun i hi => by
    rw [h1 i hi]
    have e2 := forN_det (R := Unit) (N := b) (body := L2 i) (fun q => cubeG (fun x y z => if x < i ∨ (x = i ∧ y < q) then S' x y z else S x y z) a b c) (fun j hj => by
      rw [h2 i hi j hj _ (fun k hk => by simp)]
      congr 2
      refine cubeG_congr fun x hx y hy z hz => ?_
      by_cases h : x = i ∧ y = j
      · obtain ⟨rfl, rfl⟩ := h; simp
      · have : (x < i ∨ x = i ∧ y < j + 1) ↔ (x < i ∨ x = i ∧ y < j) := by omega
        simp only [h, if_false, this])
    simp only [Nat.not_lt_zero, and_false, or_false] at e2
    rw [e2]
    simp only [Option.bind_some, onRes]
    congr 2
    refine cubeG_congr fun x hx y hy z hz => ?_
    have : (x < i ∨ x = i ∧ y < b) ↔ x < i + 1 := by omega
    simp only [this])
  simp only [Nat.not_lt_zero, if_false] at this
  rw [this]
  congr 2
  exact cubeG_congr fun x hx y hy z hz => by simp [hx]
theorem mulLe {a b A B : Nat} (ha : a ≤ A) (hb : b ≤ B) : a * b ≤ A * B := Nat.mul_le_mul ha hb
theorem w64N {k : Nat} (h : k ≤ 1000000) : w64 (k : Int) = (k : Int) := w64_small (by omega) (by omega)
/-! ### Cyclic -/
def cycN (n k i j l : Nat) : Nat := if n ≤ j + l then k * i else 0
def cycF (n k i j l : Nat) : Int := ((cycN n k i j l % n : Nat) : Int)
theorem grp1 {n : Nat} (h : 1 ≤ n ∧ n ≤ 8) : Grp [(n : Int)] n := ⟨by simp, fun x hx => by simp at hx; omega, by simp [prodL], h.2⟩
theorem specCyclic {n k : Nat} (hn : 1 ≤ n ∧ n ≤ 8) (hk : k ≤ 8) : p_spec_l17Cyclic (n : Int) (k : Int) = some ([(n : Int)], (n : Int), cubeG (cycF n k) n n n) := by
  unfold p_spec_l17Cyclic
  rw [specEmpty0 (by omega)]
  simp only [Option.bind_some, Int.toNat_natCast]
  rw [fillR (L2 := fun i j s => p_spec_l17Cyclic_L2 i (k : Int) (n : Int) j s) (fun _ _ _ => (0 : Int)) (cycF n k) (fun i hi j hj g hg => by
    have ew : w64 ((n : Int) - (j : Int)) = ((n - j : Nat) : Int) := by rw [w64_small (by omega) (by omega)]; omega
    simp only [p_spec_l17Cyclic_L2, ew]
    rw [show ((n : Int) - ((n - j : Nat) : Int)).toNat = j by omega]
    have e := forN_det (R := Unit) (N := j) (body := fun q s => p_spec_l17Cyclic_L3 i j (k : Int) (n : Int) q s) (fun q => cubeG (fun x y z => if x = i ∧ y = j ∧ n ≤ y + z ∧ y + z < n + q then cycF n k x y z else g x y z) n n n) (fun q hq => by
      have hz : n - j + q < n := by omega
      have ez : ((n - j : Nat) : Int) + (q : Int) = ((n - j + q : Nat) : Int) := by omega
      have hki := mulLe (show k ≤ 8 from hk) (show i ≤ 8 by omega)
      have step : ∀ G : Nat → Nat → Nat → Int, p_spec_l17Cyclic_L3 i j (k : Int) (n : Int) q (cubeG G n n n) = some (.next (cubeG (up3 G i j (n - j + q) ((k * i % n : Nat) : Int)) n n n)) := fun G => by
        simp only [p_spec_l17Cyclic_L3, ew, ez, cubeG_idx hi, grid_idx hj, rowG_idx hz, Option.bind_some, Int.toNat_natCast, ← Int.natCast_mul, w64N (show k * i ≤ 1000000 by omega), remN hn.1]
        rw [cubeG_set hi hj hz]
      rw [step]
      congr 2
      refine cubeG_congr fun x hx y hy z hz' => ?_
      simp only [up3]
      by_cases h : x = i ∧ y = j ∧ z = n - j + q
      · obtain ⟨rfl, rfl, rfl⟩ := h
        have c1 : x = x ∧ y = y ∧ n ≤ y + (n - y + q) ∧ y + (n - y + q) < n + (q + 1) := by omega
        rw [if_pos ⟨rfl, rfl, rfl⟩, if_pos c1]
        simp only [cycF, cycN, show n ≤ y + (n - y + q) from c1.2.2.1, if_true]
      · have : (x = i ∧ y = j ∧ n ≤ y + z ∧ y + z < n + (q + 1)) ↔ (x = i ∧ y = j ∧ n ≤ y + z ∧ y + z < n + q) := by omega
        simp only [h, if_false, this])
    have e0 : cubeG (fun x y z => if x = i ∧ y = j ∧ n ≤ y + z ∧ y + z < n + 0 then cycF n k x y z else g x y z) n n n = cubeG g n n n := cubeG_congr fun x hx y hy z hz => if_neg (by omega)
    rw [e0] at e
    rw [e]
    simp only [Option.bind_some, onRes]
    congr 2
    refine cubeG_congr fun x hx y hy z hz => ?_
    by_cases h : x = i ∧ y = j
    · obtain ⟨rfl, rfl⟩ := h
      by_cases h2 : n ≤ y + z
      · have : x = x ∧ y = y ∧ n ≤ y + z ∧ y + z < n + y := by omega
        rw [if_pos this, if_pos ⟨rfl, rfl⟩]
      · have : ¬ (x = x ∧ y = y ∧ n ≤ y + z ∧ y + z < n + y) := by omega
        rw [if_neg this, if_pos ⟨rfl, rfl⟩, hg z hz]
        simp only [cycF, cycN, h2, if_false, Nat.zero_mod]
        rfl
    · have : ¬ (x = i ∧ y = j ∧ n ≤ y + z ∧ y + z < n + j) := by omega
      rw [if_neg this, if_neg h]) (fun i hi g => by simp only [p_spec_l17Cyclic_L1, Int.toNat_natCast])]
  rfl
theorem zeroC {o : List Int} {m : Int} {n : Nat} (G : Grp o n) (hm : 1 ≤ m ∧ m ≤ 1000) : CocOK o m (cubeG (fun _ _ _ => (0 : Int)) n n n) := G.coc hm fun i _ j _ k _ => by omega
theorem byN {o : List Int} {m n : Nat} (G : Grp o n) (hm : 1 ≤ m ∧ m ≤ 1000) (ho : (o.length : Int) ≤ 1048576) {number : Int → Int → Int → Option Int} {F : Nat → Nat → Nat → Nat} (hF : ∀ i j k, i < n → j < n → k < n → number (i : Int) (j : Int) (k : Int) = some (F i j k : Int) ∧ F i j k ≤ 1000000) :
    p_impl_cocycleBy o (m : Int) number = some (o, (m : Int), cubeG (fun i j k => ((F i j k % m : Nat) : Int)) n n n) := by
  have h := zeroC (m := (m : Int)) G (by omega)
  have e := cocycleBy_eq h ho (number := number) (F := fun i j k => (F i j k : Int)) (fun i j k hi hj hk => by
    rw [cubeG_len] at hi hj hk
    obtain ⟨h1, h2⟩ := hF i j k hi hj hk
    exact ⟨h1, by omega, by omega⟩)
  rw [cubeG_len] at e
  rw [e]
  rfl
theorem implCyclic {n k : Nat} (hn : 1 ≤ n ∧ n ≤ 8) (hk : k ≤ 8) : p_impl_cocycleBy [(n : Int)] (n : Int) (fun x y z => p_impl_CyclicCocycle_c1 x y z (k : Int) (n : Int)) = some ([(n : Int)], (n : Int), cubeG (cycF n k) n n n) :=
  byN (grp1 hn) (by omega) (by simp) (F := cycN n k) fun i j l hi hj hl => by
    have hki := mulLe (show k ≤ 8 from hk) (show i ≤ 8 by omega)
    simp only [p_impl_CyclicCocycle_c1, p_impl_carry, ← Int.natCast_mul, w64N (show k * i ≤ 1000000 by omega), ← Int.natCast_add, w64N (show j + l ≤ 1000000 by omega)]
    by_cases h : n ≤ j + l
    · have : decide (((j + l : Nat) : Int) ≥ (n : Int)) = true := decide_eq_true (by omega)
      simp only [this, if_true, Option.bind_some, cycN, h]
      exact ⟨trivial, by omega⟩
    · have : decide (((j + l : Nat) : Int) ≥ (n : Int)) = false := decide_eq_false (by omega)
      simp only [this, Bool.false_eq_true, if_false, Option.bind_some, cycN, h]
      exact ⟨rfl, by omega⟩
/-! ### Mixed -/
def mixN (m k i j l : Nat) : Nat := if m ≤ j % m + l % m then k * (i / m) else 0
def mixF (n m k i j l : Nat) : Int := ((mixN m k i j l % Nat.gcd n m : Nat) : Int)
theorem grp2 {n m : Nat} (hn : 1 ≤ n) (hm : 1 ≤ m) (h : n * m ≤ 8) : Grp [(n : Int), (m : Int)] (n * m) := ⟨by simp, fun x hx => by simp at hx; omega, by simp [prodL], h⟩
theorem gcd_loop : ∀ (b a : Nat), ∃ q, iterW (R := Unit) (fun s : Int × Int => p_spec_l17Mixed_L1 s.1 s.2) q ((a : Int), (b : Int)) = some (.fin ((Nat.gcd a b : Int), (0 : Int))) ∧ iterW (R := Unit) (fun s : Int × Int => p_impl_gcd_L1 s.1 s.2) q ((a : Int), (b : Int)) = some (.fin ((Nat.gcd a b : Int), (0 : Int))) := by
  intro b
  induction b using Nat.strongRecOn with
  | _ b ih =>
    intro a
    by_cases hb : b = 0
    · subst hb
      rw [Nat.gcd_zero_right]
      exact ⟨1, iterW_brk (by simp [p_spec_l17Mixed_L1]), iterW_brk (by simp [p_impl_gcd_L1])⟩
    · obtain ⟨q, h1, h2⟩ := ih (a % b) (Nat.mod_lt _ (by omega)) b
      have e : Nat.gcd b (a % b) = Nat.gcd a b := by rw [Nat.gcd_comm a b, Nat.gcd_rec b a, Nat.gcd_comm]
      rw [e] at h1 h2
      have hb' : ((b : Int) != 0) = true := by simp; omega
      refine ⟨q + 1, iterW_next (s' := ((b : Int), ((a % b : Nat) : Int))) ?_ h1, iterW_next (s' := ((b : Int), ((a % b : Nat) : Int))) ?_ h2⟩
      · have : decide ((b : Int) > 0) = true := decide_eq_true (by omega)
        simp only [p_spec_l17Mixed_L1, this, if_true, remN (show 1 ≤ b by omega), Option.bind_some]
      · simp only [p_impl_gcd_L1, hb', if_true, remN (show 1 ≤ b by omega), Option.bind_some]
theorem gcd8 {n m : Nat} (hn : 1 ≤ n ∧ n ≤ 8) : 1 ≤ Nat.gcd n m ∧ Nat.gcd n m ≤ 8 := by
  have h1 := Nat.gcd_pos_of_pos_left m (show 0 < n by omega)
  have h2 := Nat.gcd_le_left m (show 0 < n by omega)
  omega
theorem specMixed {n m k : Nat} (hn : 1 ≤ n ∧ n ≤ 8) (hm : 1 ≤ m ∧ m ≤ 8) (h8 : n * m ≤ 8) (hk : k ≤ 8) : p_spec_l17Mixed (n : Int) (m : Int) (k : Int) = some ([(n : Int), (m : Int)], (Nat.gcd n m : Int), cubeG (mixF n m k) (n * m) (n * m) (n * m)) := by
  unfold p_spec_l17Mixed
  obtain ⟨q, h1, _⟩ := gcd_loop m n
  have hg := gcd8 (m := m) hn
  rw [whileC_of h1]
  simp only [Option.bind_some, onRes, ← Int.natCast_mul, w64N (show n * m ≤ 1000000 by omega), Int.toNat_natCast]
  rw [specEmpty0 (by omega)]
  simp only [Option.bind_some]
  rw [fill3 (L2 := fun i j s => p_spec_l17Mixed_L3 (m : Int) i (k : Int) (Nat.gcd n m : Int) (n : Int) j s) (L3 := fun i j l s => p_spec_l17Mixed_L4 j (m : Int) i (k : Int) (Nat.gcd n m : Int) l s) _ (mixF n m k) (fun i hi j hj l hl g hg0 => by
    have hd : i / m ≤ i := Nat.div_le_self _ _
    have hki := mulLe (show k ≤ 8 from hk) (show i / m ≤ 8 by omega)
    have hj' : j % m ≤ j := Nat.mod_le _ _
    have hl' : l % m ≤ l := Nat.mod_le _ _
    simp only [p_spec_l17Mixed_L4, remN hm.1, Option.bind_some, ← Int.natCast_add, w64N (show j % m + l % m ≤ 1000000 by omega)]
    by_cases h : m ≤ j % m + l % m
    · have : decide (((j % m + l % m : Nat) : Int) ≥ (m : Int)) = true := decide_eq_true (by omega)
      simp only [this, if_true, cubeG_idx hi, grid_idx hj, quoN hm.1 (show i ≤ 1099511627776 by omega), Option.bind_some, ← Int.natCast_mul, w64N (show k * (i / m) ≤ 1000000 by omega), remN hg.1, rowG_idx hl, Int.toNat_natCast]
      rw [cubeG_set hi hj hl]
      simp only [mixF, mixN, h, if_true]
    · have : decide (((j % m + l % m : Nat) : Int) ≥ (m : Int)) = false := decide_eq_false (by omega)
      simp only [this, Bool.false_eq_true, if_false, Option.bind_some]
      congr 2
      refine cubeG_congr fun x hx y hy z hz => ?_
      simp only [up3]
      by_cases hh : x = i ∧ y = j ∧ z = l
      · obtain ⟨rfl, rfl, rfl⟩ := hh
        rw [if_pos ⟨rfl, rfl, rfl⟩, hg0]
        simp only [mixF, mixN, h, if_false, Nat.zero_mod]
        rfl
      · rw [if_neg hh]) (fun i hi j hj g => by simp only [p_spec_l17Mixed_L3, ← Int.natCast_mul, w64N (show n * m ≤ 1000000 by omega), Int.toNat_natCast]) (fun i hi g => by simp only [p_spec_l17Mixed_L2, ← Int.natCast_mul, w64N (show n * m ≤ 1000000 by omega), Int.toNat_natCast])]
  rfl
theorem implGcd {n m : Nat} (hn : 1 ≤ n ∧ n ≤ 8) : p_impl_gcd (n : Int) (m : Int) = some (Nat.gcd n m : Int) := by
  unfold p_impl_gcd
  obtain ⟨q, _, h1⟩ := gcd_loop m n
  have hg := gcd8 (m := m) hn
  rw [whileC_of h1]
  simp only [Option.bind_some, onRes]
  rw [w64_small (by omega) (by omega), if_neg (by omega)]
theorem implMixed {n m k : Nat} (hn : 1 ≤ n ∧ n ≤ 8) (hm : 1 ≤ m ∧ m ≤ 8) (h8 : n * m ≤ 8) (hk : k ≤ 8) : p_impl_cocycleBy [(n : Int), (m : Int)] (Nat.gcd n m : Int) (fun x y z => p_impl_MixedCocycle_c1 x y z (k : Int) (m : Int)) = some ([(n : Int), (m : Int)], (Nat.gcd n m : Int), cubeG (mixF n m k) (n * m) (n * m) (n * m)) := by
  have hg := gcd8 (m := m) hn
  refine byN (grp2 hn.1 hm.1 h8) (by omega) (by simp) (F := mixN m k) fun i j l hi hj hl => ?_
  have hd : i / m ≤ i := Nat.div_le_self _ _
  have hki := mulLe (show k ≤ 8 from hk) (show i / m ≤ 8 by omega)
  have hj' : j % m ≤ j := Nat.mod_le _ _
  have hl' : l % m ≤ l := Nat.mod_le _ _
  simp only [p_impl_MixedCocycle_c1, quoN hm.1 (show i ≤ 1099511627776 by omega), remN hm.1, Option.bind_some, p_impl_carry, ← Int.natCast_mul, w64N (show k * (i / m) ≤ 1000000 by omega), ← Int.natCast_add, w64N (show j % m + l % m ≤ 1000000 by omega)]
  by_cases h : m ≤ j % m + l % m
  · have : decide (((j % m + l % m : Nat) : Int) ≥ (m : Int)) = true := decide_eq_true (by omega)
    simp only [this, if_true, Option.bind_some, mixN, h]
    exact ⟨trivial, by omega⟩
  · have : decide (((j % m + l % m : Nat) : Int) ≥ (m : Int)) = false := decide_eq_false (by omega)
    simp only [this, Bool.false_eq_true, if_false, Option.bind_some, mixN, h]
    exact ⟨rfl, by omega⟩
/-! ### Triple -/
def triN (i j l : Nat) : Nat := i / 4 * (j / 2 % 2) * (l % 2)
def triF (i j l : Nat) : Int := ((triN i j l % 2 : Nat) : Int)
theorem triN1 {i j l : Nat} (hi : i < 8) : triN i j l ≤ 1 := by
  unfold triN
  have h1 : i / 4 ≤ 1 := by omega
  have h2 : j / 2 % 2 ≤ 1 := by omega
  have h3 : l % 2 ≤ 1 := by omega
  exact Nat.mul_le_mul (Nat.mul_le_mul h1 h2) h3
theorem triN_eq {i j l : Nat} (hi : i < 8) (hj : j < 8) : (w64 ((w64 ((w64 (((i : Nat) : Int).tdiv (4 : Int))) * (((w64 (((j : Nat) : Int).tdiv (2 : Int)))).tmod (2 : Int)))) * (((l : Nat) : Int).tmod (2 : Int)))) = (triN i j l : Int) := by
  have e1 : ((i : Nat) : Int).tdiv (4 : Int) = ((i / 4 : Nat) : Int) := rfl
  have e2 : ((j : Nat) : Int).tdiv (2 : Int) = ((j / 2 : Nat) : Int) := rfl
  have e3 : ((j / 2 : Nat) : Int).tmod (2 : Int) = ((j / 2 % 2 : Nat) : Int) := rfl
  have e4 : ((l : Nat) : Int).tmod (2 : Int) = ((l % 2 : Nat) : Int) := rfl
  have h1 : i / 4 ≤ 1 := by omega
  have h2 : j / 2 % 2 ≤ 1 := by omega
  have h12 := Nat.mul_le_mul h1 h2
  have h3 := triN1 (j := j) (l := l) hi
  rw [e1, e2, w64N (show i / 4 ≤ 1000000 by omega), w64N (show j / 2 ≤ 1000000 by omega), e3, e4, ← Int.natCast_mul, w64N (by omega), ← Int.natCast_mul, w64N (by unfold triN at h3; omega)]
  rfl
theorem triF_eq {i j l : Nat} (hi : i < 8) : triF i j l = (triN i j l : Int) := by
  have h3 := triN1 (j := j) (l := l) hi
  unfold triF
  rw [Nat.mod_eq_of_lt (by omega)]
theorem grp3 : Grp [(2 : Int), 2, 2] 8 := ⟨by decide, by decide, by decide, by decide⟩
theorem specTriple : p_spec_TripleCocycle = some ([(2 : Int), 2, 2], (2 : Int), cubeG triF 8 8 8) := by
  unfold p_spec_TripleCocycle
  have e0 : p_spec_l06Empty (8 : Int) = _ := specEmpty0 (n := 8) (by omega)
  rw [e0]
  simp only [Option.bind_some]
  rw [show (8 : Int).toNat = 8 from rfl]
  rw [fill3 (L2 := fun i j s => p_spec_TripleCocycle_L2 i j s) (L3 := fun i j l s => p_spec_TripleCocycle_L3 i j l s) _ triF (fun i hi j hj l hl g hg0 => by
    simp only [p_spec_TripleCocycle_L3, cubeG_idx hi, grid_idx hj, rowG_idx hl, Option.bind_some, Int.toNat_natCast, triN_eq hi hj]
    rw [cubeG_set hi hj hl, triF_eq hi]) (fun i hi j hj g => by simp only [p_spec_TripleCocycle_L2]; rfl) (fun i hi g => by simp only [p_spec_TripleCocycle_L1]; rfl)]
  rfl
theorem implTriple : p_impl_TripleCocycle = some ([(2 : Int), 2, 2], (2 : Int), cubeG triF 8 8 8) := by
  unfold p_impl_TripleCocycle
  have e : p_impl_cocycleBy [(2 : Int), 2, 2] (2 : Int) (fun a b c => p_impl_TripleCocycle_c1 a b c) = _ := byN (m := 2) grp3 (by decide) (by decide) (F := triN) fun i j l hi hj hl => by
    simp only [p_impl_TripleCocycle_c1, triN_eq hi hj]
    exact ⟨trivial, by have := triN1 (j := j) (l := l) hi; omega⟩
  rw [e]
  rfl
end Go.VG
