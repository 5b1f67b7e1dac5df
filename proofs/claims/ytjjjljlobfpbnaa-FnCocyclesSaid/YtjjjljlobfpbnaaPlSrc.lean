/- Sources of numbers: they never stop, and what they hand out is in its range. Plain. -/
import Derived.Test.YtjjjljlobfpbnaaPlCocAll
set_option linter.all false
namespace Go.VG
def Bytes (c : List Int) : Prop := (∀ x ∈ c, 0 ≤ x ∧ x ≤ 255) ∧ c.length ≤ 4096
theorem andI_bd (a : Int) : 0 ≤ andI .u64 a 16777215 ∧ andI .u64 a 16777215 ≤ 16777215 := by
  unfold andI
  have h : (BitVec.ofInt IntKind.u64.bits a &&& BitVec.ofInt IntKind.u64.bits 16777215).toNat ≤ 16777215 := by
    rw [BitVec.toNat_and]
    refine Nat.le_trans Nat.and_le_right ?_
    decide
  generalize (BitVec.ofInt IntKind.u64.bits a &&& BitVec.ofInt IntKind.u64.bits 16777215).toNat = q at h
  have hr : InR .u64 (q : Int) := ⟨by show (0 : Int) ≤ _; omega, by show _ ≤ (18446744073709551615 : Int); omega⟩
  rw [wrap_id hr]
  omega
def NextOK (n r a : Int) : Prop := 0 ≤ a ∧ 0 ≤ r ∧ (1 ≤ n → r < n) ∧ (n < 1 → r = 0)
theorem next_ok {c : List Int} (hc : Bytes c) {a : Int} (ha : 0 ≤ a) (h n : Int) : ∃ r a' h', p_spec_l01Next c a h n = some (r, a', h') ∧ NextOK n r a' := by
  have hlen := hc.2
  unfold p_spec_l01Next
  by_cases hn : n < 1
  · simp only [hn, decide_true, if_true]
    exact ⟨0, a, h, rfl, ha, by omega, by omega, fun _ => rfl⟩
  · simp only [hn, decide_false, Bool.false_eq_true, if_false]
    generalize hq : andI .u64 (((IntKind.u64.wrap ((IntKind.u64.wrap (h * (6364136223846793005 : Int))) + (1442695040888963407 : Int)))).fdiv (2 ^ 33)) (16777215 : Int) = q
    have hb := andI_bd (((IntKind.u64.wrap ((IntKind.u64.wrap (h * (6364136223846793005 : Int))) + (1442695040888963407 : Int)))).fdiv (2 ^ 33))
    rw [hq] at hb
    have hn0 : n ≠ 0 := by omega
    have fin : ∀ x : Int, 0 ≤ x → NextOK n (x.tmod n) a := fun x hx => ⟨ha, Int.tmod_nonneg _ hx, fun _ => Int.tmod_lt_of_pos _ (by omega), fun h => by omega⟩
    by_cases hl : a < (c.length : Int)
    · have hi := idx_toNat c 0 ha hl
      have hx : 0 ≤ c.getD a.toNat 0 ∧ c.getD a.toNat 0 ≤ 255 := hc.1 _ (getD_mem (by omega))
      simp only [hl, decide_true, if_true, hi, Option.bind_some, remI, ne_eq, hn0, not_false_eq_true]
      rw [w64_small (x := q) (by omega) (by omega), w64_small (x := c.getD a.toNat 0) (by omega) (by omega), w64_small (x := q + c.getD a.toNat 0) (by omega) (by omega), w64_small (x := a + 1) (by omega) (by omega)]
      have := fin (q + c.getD a.toNat 0) (by omega)
      exact ⟨_, _, _, rfl, by omega, this.2.1, this.2.2.1, this.2.2.2⟩
    · simp only [hl, decide_false, Bool.false_eq_true, if_false, Option.bind_some, remI, ne_eq, hn0, not_false_eq_true, if_true]
      rw [w64_small (x := q) (by omega) (by omega)]
      exact ⟨_, _, _, rfl, fin q (by omega)⟩
theorem below_ok {c : List Int} (hc : Bytes c) {a : Int} (ha : 0 ≤ a) (h n : Int) : ∃ r a' h', p_laws_dice_below c a h n = some (r, a', h') ∧ NextOK n r a' := next_ok hc ha h n
theorem from_ok {c : List Int} (hc : Bytes c) : ∃ h, p_spec_l01From c = some (0, h) := by
  have hlen := hc.2
  have key : ∀ m i : Nat, c.length - i = m → i ≤ c.length → ∀ s : Int, ∃ n r, iterW (fun s => p_spec_l01From_L1 c s.1 s.2) n (s, (i : Int)) = some (.fin r) := by
    intro m
    induction m with
    | zero =>
      intro i h1 h2 s
      refine ⟨1, _, iterW_brk (s' := (s, (i : Int))) ?_⟩
      have : ¬ ((i : Int) < (c.length : Int)) := by omega
      simp only [p_spec_l01From_L1, this, decide_false, Bool.false_and, Bool.false_eq_true, if_false]
    | succ m ih =>
      intro i h1 h2 s
      have h3 : (i : Int) < (c.length : Int) := by omega
      have h4 : (i : Int) < 4096 := by omega
      have hw : w64 ((i : Int) + 1) = ((i + 1 : Nat) : Int) := by rw [w64_small (by omega) (by omega)]; rfl
      obtain ⟨n, r, h5⟩ := ih (i + 1) (by omega) (by omega) (IntKind.u64.wrap ((IntKind.u64.wrap ((IntKind.u64.wrap (s * (1099511628211 : Int))) + (IntKind.u64.wrap (c.getD i 0)))) + (11 : Int)))
      refine ⟨n + 1, r, iterW_next ?_ h5⟩
      simp only [p_spec_l01From_L1, h3, h4, decide_true, Bool.and_true, if_true, idx_getD c 0 (show i < c.length by omega), Option.bind_some, hw]
  obtain ⟨n, r, h⟩ := key c.length 0 (by omega) (Nat.zero_le _) (IntKind.u64.wrap ((7219 : Int) + (IntKind.u64.wrap ((c).length : Int))))
  refine ⟨r.1, ?_⟩
  unfold p_spec_l01From
  have h' : whileC (fun s => p_spec_l01From_L1 c s.1 s.2) ((IntKind.u64.wrap ((7219 : Int) + (IntKind.u64.wrap ((c).length : Int)))), (0 : Int)) = _ := whileC_of h
  rw [h']
  rfl
theorem roll_ok (c : List Int) (seed : Int) : ∃ h, p_laws_roll c seed = some (0, h) := by
  unfold p_laws_roll
  obtain ⟨r, e, _⟩ := forN_inv (R := Unit) (body := fun k s => p_laws_roll_L1 c k s) (N := c.length) (s := (IntKind.u64.wrap ((IntKind.u64.wrap (seed * (6007 : Int))) + (IntKind.u64.wrap ((c).length : Int))))) (fun _ _ => True) trivial (fun j s hj _ => by
    simp only [p_laws_roll_L1, idx_getD c 0 hj, Option.bind_some]
    exact ⟨_, rfl, trivial⟩)
  exact ⟨r, by rw [e]; rfl⟩
theorem pick_ok {c : List Int} (hc : Bytes c) {a : Int} (ha : 0 ≤ a) (h : Int) {l : List Int} (hl : l ≠ []) : ∃ x a' h', p_spec_l01Pick c a h l = some (x, a', h') ∧ x ∈ l ∧ 0 ≤ a' := by
  have hpos := List.length_pos_iff.2 hl
  obtain ⟨r, a', h', e, h1, h2, h3, _⟩ := next_ok hc ha h (l.length : Int)
  have h4 := h3 (by omega)
  unfold p_spec_l01Pick
  rw [e]
  simp only [Option.bind_some]
  rw [idx_toNat l 0 h2 h4, Option.bind_some]
  exact ⟨_, _, _, rfl, getD_mem (by omega), h1⟩
structure Ord (o : List Int) : Prop where
  len : o.length ≤ 4
  ne : 1 ≤ o.length
  pos : ∀ x ∈ o, 1 ≤ x
  prod : prodL o ≤ 8
theorem orders_ok {c : List Int} (hc : Bytes c) {a : Int} (ha : 0 ≤ a) (h : Int) : ∃ o a' h', p_spec_l06DrawOrders c a h 8 = some (o, a', h') ∧ Ord o ∧ 0 ≤ a' := by
  have key : ∀ (m : Nat) (o : List Int) (a h : Int), 4 - o.length = m → 0 ≤ a → Ord o → ∃ n r, iterW (R := Unit) (fun s : Int × Int × List Int × Int => p_spec_l06DrawOrders_L1 c 8 s.1 s.2.1 s.2.2.1 s.2.2.2) n (a, h, o, prodL o) = some (.fin r) ∧ Ord r.2.2.1 ∧ 0 ≤ r.1 := by
    intro m
    induction m with
    | zero =>
      intro o a h h1 ha ho
      obtain ⟨r, a', h', e, n1, n2, n3, n4⟩ := next_ok hc ha h 2
      have hlen : ¬ ((o.length : Int) < 4) := by omega
      refine ⟨1, _, iterW_brk (s' := (a', h', o, prodL o)) ?_, ho, n1⟩
      simp only [p_spec_l06DrawOrders_L1, e, Option.bind_some, hlen, decide_false, Bool.and_false, Bool.false_and, Bool.false_eq_true, if_false]
    | succ m ih =>
      intro o a h h1 ha ho
      have hp := prodL_pos ho.pos
      have hp8 := ho.prod
      obtain ⟨r, a', h', e, n1, n2, n3, n4⟩ := next_ok hc ha h 2
      by_cases hgo : r = 0 ∧ o.length < 4 ∧ 2 * prodL o ≤ 8
      · obtain ⟨g1, g2, g3⟩ := hgo
        have hq : ∃ q, quoI .i64 8 (prodL o) = some q ∧ 2 ≤ q ∧ q * prodL o ≤ 8 := by
          have : prodL o = 1 ∨ prodL o = 2 ∨ prodL o = 3 ∨ prodL o = 4 := by omega
          rcases this with e | e | e | e <;> rw [e]
          · exact ⟨8, by decide, by decide, by decide⟩
          · exact ⟨4, by decide, by decide, by decide⟩
          · exact ⟨2, by decide, by decide, by decide⟩
          · exact ⟨2, by decide, by decide, by decide⟩
        obtain ⟨q, eq, q2, q8⟩ := hq
        have hq8 : q ≤ 8 := by
          have := Int.mul_le_mul_of_nonneg_left hp (show (0 : Int) ≤ q by omega)
          omega
        obtain ⟨r2, a2, h2, e2, p1, p2, p3, p4⟩ := next_ok hc n1 h' (w64 (q - 1))
        rw [w64_small (x := q - 1) (by omega) (by omega)] at e2 p3 p4
        have p5 := p3 (by omega)
        have hv : (2 + r2) * prodL o ≤ 8 := by
          have := Int.mul_le_mul_of_nonneg_right (show 2 + r2 ≤ q by omega) (show (0 : Int) ≤ prodL o by omega)
          omega
        have hpr : prodL (o ++ [2 + r2]) = prodL o * (2 + r2) := by rw [prodL_app]; simp [prodL]
        have hv' : prodL o * (2 + r2) ≤ 8 := by rw [Int.mul_comm]; exact hv
        have hv0 : 0 ≤ prodL o * (2 + r2) := Int.mul_nonneg (by omega) (by omega)
        obtain ⟨n, rr, h5, h6⟩ := ih (o ++ [2 + r2]) a2 h2 (by simp; omega) p1 ⟨by simp; omega, by simp, fun x hx => by
          rcases List.mem_append.1 hx with hx | hx
          · exact ho.pos x hx
          · simp at hx; omega, by rw [hpr]; exact hv'⟩
        refine ⟨n + 1, rr, iterW_next ?_ h5, h6⟩
        have c1 : ((r == (0 : Int)) && (decide (((o).length : Int) < (4 : Int))) && (decide ((w64 ((2 : Int) * prodL o)) ≤ 8))) = true := by
          rw [w64_small (by omega) (by omega)]
          simp only [g1, beq_self_eq_true, Bool.true_and, Bool.and_eq_true, decide_eq_true_eq]
          omega
        simp only [p_spec_l06DrawOrders_L1, e, Option.bind_some]
        rw [if_pos c1, eq, Option.bind_some, w64_small (x := q - 1) (by omega) (by omega), e2]
        simp only [Option.bind_some]
        rw [w64_small (x := 2 + r2) (by omega) (by omega), w64_small (x := prodL o * (2 + r2)) (by omega) (by omega), hpr]
        have hap : appL o [2 + r2] = some (o ++ [2 + r2]) := by simp [appL]; omega
        rw [hap]
        rfl
      · refine ⟨1, _, iterW_brk (s' := (a', h', o, prodL o)) ?_, ho, n1⟩
        have c1 : ¬ ((r == (0 : Int)) && (decide (((o).length : Int) < (4 : Int))) && (decide ((w64 ((2 : Int) * prodL o)) ≤ 8))) = true := by
          rw [w64_small (by omega) (by omega)]
          simp only [Bool.and_eq_true, decide_eq_true_eq, beq_iff_eq]
          omega
        simp only [p_spec_l06DrawOrders_L1, e, Option.bind_some]
        rw [if_neg c1]
  obtain ⟨r, a1, h1, e, n1, n2, n3, n4⟩ := next_ok hc ha h 8
  have n5 := n3 (by omega)
  have hw : w64 (1 + r) = 1 + r := w64_small (by omega) (by omega)
  obtain ⟨n, rr, h5, h6, h7⟩ := key 3 [1 + r] a1 h1 rfl n1 ⟨by simp, by simp, fun x hx => by simp at hx; omega, by simp [prodL]; omega⟩
  refine ⟨rr.2.2.1, rr.1, rr.2.1, ?_, h6, h7⟩
  unfold p_spec_l06DrawOrders
  rw [e]
  simp only [Option.bind_some, hw]
  rw [idx_zero _ (0 : Int) (by simp)]
  simp only [Option.bind_some]
  have hpr : prodL [1 + r] = ([1 + r] : List Int).getD 0 0 := by simp [prodL]
  rw [hpr] at h5
  rw [whileC_of h5]
  rfl
/-- A pairing with a modulus. -/
structure Pai (n : Nat) (m : Int) (f : List (List Int)) : Prop where
  len : f.length = n
  row : ∀ i, i < n → (f.getD i []).length = n
  rng : ∀ i, i < n → ∀ j, j < n → 0 ≤ at2 f i j ∧ at2 f i j < (if m > 1 then m else 1)
theorem getD_snoc_l {α : Type} {l : List α} {x d : α} {i : Nat} (h : i < l.length) : (l ++ [x]).getD i d = l.getD i d := by simp [List.getD, List.getElem?_append_left h]
theorem getD_snoc_r {α : Type} {l : List α} {x d : α} : (l ++ [x]).getD l.length d = x := by simp [List.getD]
theorem pairing_ok {c : List Int} (hc : Bytes c) {n : Nat} (hn : n ≤ 8) (m : Int) {a : Int} (ha : 0 ≤ a) (h : Int) : ∃ f a' h', p_spec_l17DrawPairing c a h (n : Int) m = some (f, a', h') ∧ Pai n m f ∧ 0 ≤ a' := by
  have hq : (1 : Int) ≤ (if m > 1 then m else 1) := by split <;> omega
  generalize hqq : (if m > 1 then m else (1 : Int)) = q at hq
  have row : ∀ (x : Nat) (a h : Int), 0 ≤ a → ∃ s, forN (R := Unit) (fun k s => p_spec_l17DrawPairing_L2 x c m k s.1 s.2.1 s.2.2) n 0 (a, h, ([] : List Int)) = some (.fin s) ∧ 0 ≤ s.1 ∧ s.2.2.length = n ∧ ∀ j, j < n → 0 ≤ s.2.2.getD j 0 ∧ s.2.2.getD j 0 < q := fun x a h ha => by
    obtain ⟨s, e, h1, h2, h3⟩ := forN_inv (R := Unit) (body := fun k s => p_spec_l17DrawPairing_L2 x c m k s.1 s.2.1 s.2.2) (N := n) (s := (a, h, ([] : List Int))) (fun k s => 0 ≤ s.1 ∧ s.2.2.length = k ∧ ∀ j, j < k → 0 ≤ s.2.2.getD j 0 ∧ s.2.2.getD j 0 < q) ⟨ha, rfl, fun j hj => by omega⟩ (fun k s hk ⟨h1, h2, h3⟩ => by
      have ext : ∀ v : Int, 0 ≤ v → v < q → (s.2.2 ++ [v]).length = k + 1 ∧ ∀ j, j < k + 1 → 0 ≤ (s.2.2 ++ [v]).getD j 0 ∧ (s.2.2 ++ [v]).getD j 0 < q := fun v v1 v2 => ⟨by simp [h2], fun j hj => by
        by_cases e : j < k
        · rw [getD_snoc_l (by omega)]; exact h3 j e
        · have : j = s.2.2.length := by omega
          subst this
          rw [getD_snoc_r]; exact ⟨v1, v2⟩⟩
      have hap : ∀ v : Int, appL s.2.2 [v] = some (s.2.2 ++ [v]) := fun v => by simp [appL]; omega
      unfold p_spec_l17DrawPairing_L2
      by_cases hz : (((x : Int) == (0 : Int)) || ((k : Int) == (0 : Int))) = true
      · rw [if_pos hz, hap]
        exact ⟨_, rfl, h1, (ext 0 (by omega) (by omega)).1, (ext 0 (by omega) (by omega)).2⟩
      · rw [if_neg hz, hqq]
        obtain ⟨r, a', h', e, n1, n2, n3, n4⟩ := next_ok hc h1 s.2.1 q
        rw [e]
        simp only [Option.bind_some, hap]
        exact ⟨_, rfl, n1, (ext r n2 (n3 hq)).1, (ext r n2 (n3 hq)).2⟩)
    exact ⟨s, e, h1, h2, h3⟩
  obtain ⟨s, e, h1, h2, h3⟩ := forN_inv (R := Unit) (body := fun k s => p_spec_l17DrawPairing_L1 c m (n : Int) k s.1 s.2.1 s.2.2) (N := n) (s := (a, h, ([] : List (List Int)))) (fun k s => 0 ≤ s.1 ∧ s.2.2.length = k ∧ ∀ i, i < k → (s.2.2.getD i []).length = n ∧ ∀ j, j < n → 0 ≤ at2 s.2.2 i j ∧ at2 s.2.2 i j < q) ⟨ha, rfl, fun j hj => by omega⟩ (fun k s hk ⟨h1, h2, h3⟩ => by
    obtain ⟨t, e, g1, g2, g3⟩ := row k s.1 s.2.1 h1
    unfold p_spec_l17DrawPairing_L1
    rw [Int.toNat_natCast, e]
    simp only [Option.bind_some, onRes]
    have hap : appL s.2.2 [t.2.2] = some (s.2.2 ++ [t.2.2]) := by simp [appL]; omega
    rw [hap]
    refine ⟨_, rfl, g1, by simp [h2], fun i hi => ?_⟩
    unfold at2
    by_cases e : i < k
    · rw [getD_snoc_l (by omega)]; exact h3 i e
    · have : i = s.2.2.length := by omega
      subst this
      rw [getD_snoc_r]; exact ⟨g2, g3⟩)
  refine ⟨s.2.2, s.1, s.2.1, ?_, ⟨h2, fun i hi => (h3 i hi).1, fun i hi j hj => by rw [hqq]; exact (h3 i hi).2 j hj⟩, h1⟩
  unfold p_spec_l17DrawPairing
  rw [Int.toNat_natCast, e]
  rfl
end Go.VG
