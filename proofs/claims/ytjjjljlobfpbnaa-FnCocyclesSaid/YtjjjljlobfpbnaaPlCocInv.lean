/- Invariants of cocycles: of sums; of the cyclic ones. No condition. -/
import Derived.Test.YtjjjljlobfpbnaaPlCocIs
set_option linter.all false
namespace Go.VG
section
variable {o : List Int} {m : Int} {V W : List (List (List Int))}
theorem invariant (h : IsC o m V) (ho : (o.length : Int) ≤ 1048576) {e : Nat} (he : e < V.length) {J : Nat} (h1 : 1 ≤ J) (hJ8 : J ≤ 8) (hz : itN o e J = 0) (hnz : ∀ j, 1 ≤ j → j < J → itN o e j ≠ 0) :
    p_impl_InvariantOf o m V (e : Int) = some ((sumN (fun j => c3 V e (itN o e j) e) J) % m, 0) := by
  have hs := h.ok.small
  have hm := h.ok.mod
  have G := Grp.of h.ok
  unfold p_impl_InvariantOf
  have hel : p_impl_Cocycle_isElement o m V (e : Int) = some true := by
    unfold p_impl_Cocycle_isElement p_impl_within
    rw [w64_small (by omega) (by omega)]
    have : (decide ((e : Int) ≥ 0) && decide ((e : Int) ≤ (V.length : Int) - 1)) = true := by
      rw [Bool.and_eq_true]; exact ⟨decide_eq_true (by omega), decide_eq_true (by omega)⟩
    rw [this]; rfl
  rw [h.is ho]
  simp only [Option.bind_some, Bool.not_true, Bool.false_eq_true, if_false, hel]
  have bd : ∀ q, q ≤ J → 0 ≤ sumN (fun j => c3 V e (itN o e j) e) q ∧ sumN (fun j => c3 V e (itN o e j) e) q ≤ 8000 := fun q hq => by
    have := sumN_bd (f := fun j => c3 V e (itN o e j) e) (a := 0) (b := 999) (n := q) (fun j hj => h.ok.rng he (G.itN he j).1 he)
    omega
  have key : ∀ (c k : Nat), k + c + 1 = J → iterW (fun s : Int × Int => p_impl_InvariantOf_L1 V (e : Int) o m s.1 s.2) (c + 1) (sumN (fun j => c3 V e (itN o e j) e) k, (itN o e k : Int)) = some (.ret ((sumN (fun j => c3 V e (itN o e j) e) J) % m, (0 : Int))) := by
    intro c
    induction c with
    | zero =>
      intro k hk
      have b1 := bd k (by omega)
      have b2 := bd (k + 1) (by omega)
      obtain ⟨i1, i2⟩ := G.itN he k
      have hkJ : k + 1 = J := by omega
      have r := h.ok.rng he i1 he
      have ez : gn o (itN o e k) e = 0 := by have : itN o e (k + 1) = gn o (itN o e k) e := rfl; rw [← this, hkJ]; exact hz
      refine iterN_ret ?_
      simp only [p_impl_InvariantOf_L1, h.ok.i1 he, h.ok.i2 he i1, h.ok.i3 he i1 he, Option.bind_some, p_impl_Cocycle_plus, implAdd h.ok.pos, (G.gadd i1 he).1, ez]
      rw [if_pos (by decide), w64_small (by omega) (by omega), rest_eq hm (by omega)]
      rw [show sumN (fun j => c3 V e (itN o e j) e) J = sumN (fun j => c3 V e (itN o e j) e) k + c3 V e (itN o e k) e by rw [← hkJ]; rfl]
      rfl
    | succ c ih =>
      intro k hk
      have b1 := bd k (by omega)
      have b2 := bd (k + 1) (by omega)
      obtain ⟨i1, i2⟩ := G.itN he k
      have r := h.ok.rng he i1 he
      have en : itN o e (k + 1) = gn o (itN o e k) e := rfl
      have ez : gn o (itN o e k) e ≠ 0 := by rw [← en]; exact hnz (k + 1) (by omega) (by omega)
      refine iterW_next (s' := (sumN (fun j => c3 V e (itN o e j) e) (k + 1), (itN o e (k + 1) : Int))) ?_ (ih (k + 1) (by omega))
      have ez' : (((gn o (itN o e k) e : Nat) : Int) == 0) = false := by simp; omega
      simp only [p_impl_InvariantOf_L1, h.ok.i1 he, h.ok.i2 he i1, h.ok.i3 he i1 he, Option.bind_some, p_impl_Cocycle_plus, implAdd h.ok.pos, (G.gadd i1 he).1, ez', Bool.false_eq_true, if_false]
      rw [w64_small (by omega) (by omega), en]
      rfl
  have : whileC (fun s : Int × Int => p_impl_InvariantOf_L1 V (e : Int) o m s.1 s.2) ((0 : Int), (0 : Int)) = _ := whileC_of (key (J - 1) 0 (by omega))
  rw [this]
  rfl
theorem sumN_mod (m : Int) (f g : Nat → Int) : ∀ J, (sumN (fun j => (f j + g j) % m) J) % m = (sumN f J % m + sumN g J % m) % m
  | 0 => by simp [sumN]
  | J + 1 => by
    have ih := sumN_mod m f g J
    simp only [sumN]
    rw [Int.add_emod, ih, Int.emod_emod, ← Int.add_emod (sumN f J) (sumN g J) m, ← Int.add_emod (sumN f J + sumN g J) (f J + g J) m, ← Int.add_emod (sumN f J + f J) (sumN g J + g J) m]
    congr 1
    omega
/-- The invariants of a sum are the sums of the invariants. -/
theorem inv_sum (h : IsC o m V) (h' : IsC o m W) (hn : W.length = V.length) (ho : (o.length : Int) ≤ 1048576) {e : Nat} (he : e < V.length) :
    ∃ a b, p_impl_InvariantOf o m V (e : Int) = some (a, 0) ∧ p_impl_InvariantOf o m W (e : Int) = some (b, 0) ∧ p_impl_InvariantOf o m (cubeG (addC V W m) V.length V.length V.length) (e : Int) = some ((a + b) % m, 0) ∧ 0 ≤ a ∧ a < m ∧ 0 ≤ b ∧ b < m := by
  have hs := h.ok.small
  have hm := h.ok.mod
  have G := Grp.of h.ok
  obtain ⟨J, j1, j2, j3, j4⟩ := G.first he
  have a0 := Int.emod_nonneg (sumN (fun j => c3 V e (itN o e j) e) J) (show m ≠ 0 by omega)
  have a1 := Int.emod_lt_of_pos (sumN (fun j => c3 V e (itN o e j) e) J) (show 0 < m by omega)
  have b0 := Int.emod_nonneg (sumN (fun j => c3 W e (itN o e j) e) J) (show m ≠ 0 by omega)
  have b1 := Int.emod_lt_of_pos (sumN (fun j => c3 W e (itN o e j) e) J) (show 0 < m by omega)
  refine ⟨_, _, invariant h ho he j1 (by omega) j3 j4, invariant h' ho (by omega) j1 (by omega) j3 j4, ?_, a0, a1, b0, b1⟩
  rw [invariant (sumIs h h' hn) ho (by rw [cubeG_len]; exact he) j1 (by omega) j3 j4]
  rw [← sumN_mod, sumN_congr (g := fun j => (c3 V e (itN o e j) e + c3 W e (itN o e j) e) % m) (fun j hj => c3_cube he (G.itN he j).1 he)]
end
theorem cyc_it {n : Nat} (hn : 1 < n ∧ n ≤ 8) : ∀ j, itN [(n : Int)] 1 j = j % n
  | 0 => (Nat.zero_mod n).symm
  | j + 1 => by
    show gn [(n : Int)] (itN [(n : Int)] 1 j) 1 = _
    rw [cyc_it hn j, gn1 (by omega) (Nat.mod_lt _ (by omega)) hn.1]
    exact (Nat.mod_add_mod j n 1)
theorem sumN_zero {f : Nat → Int} : ∀ J, (∀ j, j < J → f j = 0) → sumN f J = 0
  | 0, _ => rfl
  | J + 1, h => by simp only [sumN]; rw [sumN_zero J (fun j hj => h j (by omega)), h J (by omega)]; rfl
/-- The invariant of 1 for a cyclic cocycle is its number. -/
theorem cyc_inv {n k : Nat} (hn : 1 < n ∧ n ≤ 8) (hk : k < n) : p_impl_InvariantOf [(n : Int)] (n : Int) (cubeG (cycF n k) n n n) 1 = some ((k : Int), 0) := by
  have h := cycIs (n := n) (k := k) (by omega)
  have := invariant h (by simp) (e := 1) (by rw [cubeG_len]; exact hn.1) (J := n) (by omega) hn.2 (by rw [cyc_it hn, Nat.mod_self]) (fun j h1 h2 => by rw [cyc_it hn, Nat.mod_eq_of_lt h2]; omega)
  rw [show ((1 : Nat) : Int) = 1 from rfl] at this
  rw [this]
  have e : sumN (fun j => c3 (cubeG (cycF n k) n n n) 1 (itN [(n : Int)] 1 j) 1) n = (k : Int) := by
    obtain ⟨n', rfl⟩ : ∃ n', n = n' + 1 := ⟨n - 1, by omega⟩
    rw [sumN_congr (g := fun j => cycF (n' + 1) k 1 j 1) (fun j hj => by rw [cyc_it hn, Nat.mod_eq_of_lt hj]; exact c3_cube hn.1 hj hn.1)]
    simp only [sumN]
    rw [sumN_zero n' (fun j hj => by simp only [cycF, cycN]; rw [if_neg (by omega), Nat.zero_mod]; rfl)]
    simp only [cycF, cycN]
    rw [if_pos (by omega), Nat.mul_one, Nat.mod_eq_of_lt hk]
    omega
  rw [e, Int.emod_eq_of_lt (by omega) (by omega)]
end Go.VG
