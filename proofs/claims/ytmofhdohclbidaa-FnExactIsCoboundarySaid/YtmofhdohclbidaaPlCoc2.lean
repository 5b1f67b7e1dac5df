/- Cocycles: sums in the group, the test of the law. No condition. -/
import Derived.Test.YtmofhdohclbidaaPlCoc
set_option linter.all false
namespace Go.VG
abbrev Q4 := Int × Int × Int × Int
theorem addS_nonneg {M a b s p : Int} (hm : 1 ≤ M ∧ M ≤ 8) (ha : 0 ≤ a ∧ a ≤ 1000) (hb : 0 ≤ b ∧ b ≤ 1000) (hs : 0 ≤ s ∧ s < p) (hp : p * M ≤ 8) :
    ∃ a' b' s', p_impl_addElements_S M (a, b, s, p) = (a', b', s', p * M) ∧ (0 ≤ a' ∧ a' ≤ 1000) ∧ (0 ≤ b' ∧ b' ≤ 1000) ∧ 0 ≤ s' ∧ s' < p * M := by
  have e1 : a.tdiv M = a / M := Int.tdiv_eq_ediv_of_nonneg ha.1
  have e2 : b.tdiv M = b / M := Int.tdiv_eq_ediv_of_nonneg hb.1
  have q1 : 0 ≤ a / M := Int.ediv_nonneg ha.1 (by omega)
  have q2 : a / M ≤ a := Int.ediv_le_self _ ha.1
  have q3 : 0 ≤ b / M := Int.ediv_nonneg hb.1 (by omega)
  have q4 : b / M ≤ b := Int.ediv_le_self _ hb.1
  have t1 : a.tmod M = a % M := Int.tmod_eq_emod_of_nonneg ha.1
  have t2 : b.tmod M = b % M := Int.tmod_eq_emod_of_nonneg hb.1
  have m1 := Int.emod_nonneg a (show M ≠ 0 by omega)
  have m2 := Int.emod_lt_of_pos a (show 0 < M by omega)
  have m3 := Int.emod_nonneg b (show M ≠ 0 by omega)
  have m4 := Int.emod_lt_of_pos b (show 0 < M by omega)
  have ew : w64 (a % M + b % M) = a % M + b % M := w64_small (by omega) (by omega)
  have t3 : (a % M + b % M).tmod M = (a % M + b % M) % M := Int.tmod_eq_emod_of_nonneg (by omega)
  have m5 := Int.emod_nonneg (a % M + b % M) (show M ≠ 0 by omega)
  have m6 := Int.emod_lt_of_pos (a % M + b % M) (show 0 < M by omega)
  generalize (a % M + b % M) % M = d at *
  have hp1 : 1 ≤ p := by omega
  have d1 : 0 ≤ d * p := Int.mul_nonneg m5 (by omega)
  have d2 : d * p + p ≤ p * M := by
    have := Int.mul_le_mul_of_nonneg_right (show d + 1 ≤ M by omega) (show 0 ≤ p by omega)
    rw [Int.add_mul, Int.one_mul, Int.mul_comm M p] at this
    exact this
  refine ⟨a / M, b / M, s + d * p, ?_, by omega, by omega, by omega, by omega⟩
  simp only [p_impl_addElements_S, e1, e2, t1, t2, ew, t3]
  rw [w64_small (x := a / M) (by omega) (by omega), w64_small (x := b / M) (by omega) (by omega), w64_small (x := d * p) (by omega) (by omega), w64_small (x := s + d * p) (by omega) (by omega), w64_small (x := p * M) (by omega) (by omega)]
theorem addFold : ∀ (l : List Int) (a b s p : Int), (∀ x ∈ l, 1 ≤ x) → 0 ≤ a ∧ a ≤ 1000 → 0 ≤ b ∧ b ≤ 1000 → 0 ≤ s ∧ s < p → p * prodL l ≤ 8 →
    ∃ r : Q4, l.foldl (fun s m => p_impl_addElements_S m s) (a, b, s, p) = r ∧ 0 ≤ r.2.2.1 ∧ r.2.2.1 < p * prodL l
  | [], a, b, s, p, _, _, _, hs, _ => ⟨_, rfl, hs.1, by simp only [prodL, Int.mul_one]; exact hs.2⟩
  | x :: l, a, b, s, p, hl, ha, hb, hs, hp => by
    have hx := hl x (by simp)
    have hpos : 1 ≤ prodL l := prodL_pos fun y hy => hl y (by simp [hy])
    simp only [prodL] at hp ⊢
    rw [← Int.mul_assoc] at hp ⊢
    have hpx : p * x ≤ 8 := by
      have := le_mul_r (a := p * x) (Int.mul_nonneg (by omega) (by omega)) hpos
      omega
    have hx8 : x ≤ 8 := by
      have := le_mul_l (a := x) (by omega) (show 1 ≤ p by omega)
      omega
    obtain ⟨a', b', s', e, h1, h2, h3, h4⟩ := addS_nonneg ⟨hx, hx8⟩ ha hb hs hpx
    simp only [List.foldl_cons, e]
    exact addFold l a' b' s' (p * x) (fun y hy => hl y (by simp [hy])) h1 h2 ⟨h3, h4⟩ hp
/-- The sum of two elements. -/
def gadd (o : List Int) (x y : Int) : Int := (o.reverse.foldl (fun s m => p_impl_addElements_S m s) (x, y, 0, 1)).2.2.1
section
variable {o : List Int} {m : Int} {V : List (List (List Int))}
theorem implAdd (hp : ∀ x ∈ o, 1 ≤ x) (x y : Int) : p_impl_addElements o x y = some (gadd o x y) := by
  unfold p_impl_addElements gadd
  have : o.all (fun m => m != 0) = true := by
    rw [List.all_eq_true]
    intro q hq
    have := hp q hq
    simp only [bne_iff_ne, ne_eq]; omega
  rw [if_pos this]
theorem specAdd (hp : ∀ x ∈ o, 1 ≤ x) (hl : (o.length : Int) ≤ 1048576) (x y : Int) : p_spec_l06Add o x y = some (gadd o x y) := by
  unfold p_spec_l06Add gadd
  rw [w64_small (by omega) (by omega)]
  have key : ∀ (c : Nat) (s : Q4), c ≤ o.length → iterW (R := Unit) (fun s : Int × Int × Int × Int × Int => p_spec_l06Add_L1 o s.1 s.2.1 s.2.2.1 s.2.2.2.1 s.2.2.2.2) (c + 1) (s.1, s.2.1, s.2.2.1, s.2.2.2, (c : Int) - 1) =
      some (.fin (((o.take c).reverse.foldl (fun s m => p_impl_addElements_S m s) s).1, ((o.take c).reverse.foldl (fun s m => p_impl_addElements_S m s) s).2.1, ((o.take c).reverse.foldl (fun s m => p_impl_addElements_S m s) s).2.2.1, ((o.take c).reverse.foldl (fun s m => p_impl_addElements_S m s) s).2.2.2, (-1 : Int))) := by
    intro c
    induction c with
    | zero =>
      intro s _
      refine iterN_brk ?_
      have e : decide (((0 : Nat) : Int) - 1 ≥ 0) = false := by decide
      simp only [p_spec_l06Add_L1, e, Bool.false_eq_true, if_false]
      rfl
    | succ c ih =>
      intro s hc
      have hcl : c < o.length := by omega
      have hx := hp _ (getD_mem (d := (0 : Int)) hcl)
      have hne : o.getD c 0 ≠ 0 := by omega
      have e1 : ((c + 1 : Nat) : Int) - 1 = (c : Int) := by omega
      have e2 : decide ((c : Int) ≥ 0) = true := by simp
      have e3 : w64 ((c : Int) - 1) = (c : Int) - 1 := w64_small (by omega) (by omega)
      have ht : (o.take (c + 1)).reverse = o.getD c 0 :: (o.take c).reverse := by
        rw [List.take_succ_eq_append_getElem hcl, List.reverse_append, List.getD_eq_getElem?_getD, List.getElem?_eq_getElem hcl]
        rfl
      rw [ht, List.foldl_cons, e1]
      rw [iterN_next (s' := ((p_impl_addElements_S (o.getD c 0) s).1, (p_impl_addElements_S (o.getD c 0) s).2.1, (p_impl_addElements_S (o.getD c 0) s).2.2.1, (p_impl_addElements_S (o.getD c 0) s).2.2.2, (c : Int) - 1)) (by
        simp only [p_spec_l06Add_L1, e2, if_true, idx_getD o 0 hcl, Option.bind_some, remI, quoI, ne_eq, hne, not_false_eq_true, e3, p_impl_addElements_S]
        rfl)]
      exact ih _ (by omega)
  have := key o.length (x, y, 0, 1) (Nat.le_refl _)
  rw [whileC_of this, List.take_length]
  rfl
theorem CocOK.add (h : CocOK o m V) {x y : Nat} (hx : x < V.length) (hy : y < V.length) : ∃ z : Nat, gadd o (x : Int) (y : Int) = (z : Int) ∧ z < V.length := by
  have hn := h.small
  obtain ⟨r, e, h1, h2⟩ := addFold o.reverse (x : Int) (y : Int) 0 1 (fun q hq => h.pos q (by simpa using hq)) (by omega) (by omega) (by decide) (by rw [prodL_rev, h.size]; omega)
  rw [prodL_rev, h.size] at h2
  refine ⟨(gadd o (x : Int) (y : Int)).toNat, ?_, ?_⟩ <;> (unfold gadd; rw [e]; omega)
/-! ### Rests -/
theorem rest_eq (hm : 1 ≤ m ∧ m ≤ 1000) {n : Int} (hn : -1000000 ≤ n ∧ n ≤ 1000000) (os : List Int) (V : List (List (List Int))) : p_impl_Cocycle_rest os m V n = some (n % m) := by
  unfold p_impl_Cocycle_rest
  have h0 : m ≠ 0 := by omega
  simp only [remI, ne_eq, h0, not_false_eq_true, if_true, Option.bind_some]
  have a1 := Int.lt_tmod_of_pos n (show 0 < m by omega)
  have a2 := Int.tmod_lt_of_pos n (show 0 < m by omega)
  rw [w64_small (by omega) (by omega), Int.tmod_eq_emod_of_nonneg (by omega), Int.add_emod_right]
  have e := Int.mul_tdiv_add_tmod n m
  conv => rhs; rw [← e]
  rw [Int.add_comm, Int.add_mul_emod_self_left]
theorem tmod_zero (hm : 1 ≤ m) (n : Int) : n.tmod m = 0 ↔ n % m = 0 := by
  rw [← Int.dvd_iff_emod_eq_zero, Int.dvd_iff_tmod_eq_zero]
theorem sub_zero_iff (hm : 1 ≤ m) (a b : Int) : (a - b).tmod m = 0 ↔ a % m = b % m := by
  rw [tmod_zero hm, Int.emod_eq_emod_iff_emod_sub_eq_zero]

/-! ### The law -/

def NormOK (V : List (List (List Int))) : Prop := ∀ i, i < V.length → ∀ j, j < V.length → c3 V 0 i j = 0 ∧ c3 V i 0 j = 0 ∧ c3 V i j 0 = 0
theorem specNormal (h : CocOK o m V) : Says (p_spec_l17Normal o m V) (NormOK V) := by
  unfold p_spec_l17Normal
  have h0 := h.n1
  have i10 : idx V (0 : Int) = some (V.getD 0 []) := h.i1 (i := 0) (by omega)
  refine Chk.says (forN_chk fun i hi _ => ?_)
  simp only [p_spec_l17Normal_L1]
  refine ChkC.loop (forN_chk fun j hj _ => ?_)
  have i20 : idx (V.getD i []) (0 : Int) = some ((V.getD i []).getD 0 []) := h.i2 (j := 0) hi (by omega)
  have i30 : idx ((V.getD i []).getD j []) (0 : Int) = some (c3 V i j 0) := h.i3 (k := 0) hi hj (by omega)
  simp only [p_spec_l17Normal_L2, i10, h.i2 (show 0 < V.length by omega) hi, h.i3 (show 0 < V.length by omega) hi hj, h.i1 hi, i20, h.i3 hi (show 0 < V.length by omega) hj, h.i2 hi hj, i30, Option.bind_some]
  by_cases z1 : c3 V 0 i j = 0
  · by_cases z2 : c3 V i 0 j = 0
    · by_cases z3 : c3 V i j 0 = 0
      · exact .inl ⟨⟨z1, z2, z3⟩, by simp [z1, z2, z3]⟩
      · exact .inr ⟨fun hh => z3 hh.2.2, false, by simp [z1, z2, z3], rfl⟩
    · exact .inr ⟨fun hh => z2 hh.2.1, false, by simp [z1, z2], rfl⟩
  · exact .inr ⟨fun hh => z1 hh.1, false, by simp [z1], rfl⟩
theorem implNormal (h : CocOK o m V) : Says (p_impl_Cocycle_isNormalised o m V) (NormOK V) := by
  unfold p_impl_Cocycle_isNormalised
  have h0 := h.n1
  refine Says.congr (Chk.says (forN_chk (P := fun i => ∀ j, j < V.length → ∀ k, k < V.length → ¬ (c3 V i j k ≠ 0 ∧ (i = 0 ∨ j = 0 ∨ k = 0))) fun i hi _ => ?_)) ?_
  · simp only [p_impl_Cocycle_isNormalised_L1, h.i1 hi, Option.bind_some]
    rw [(h.rows i hi).1]
    refine ChkC.loop (forN_chk fun j hj _ => ?_)
    simp only [p_impl_Cocycle_isNormalised_L2, h.i2 hi hj, Option.bind_some]
    rw [((h.rows i hi).2 j hj).1]
    refine ChkC.loop (forN_chk fun k hk _ => ?_)
    simp only [p_impl_Cocycle_isNormalised_L3, h.i3 hi hj hk, Option.bind_some]
    have g : ∀ q : Nat, ((q : Int) == 0) = decide (q = 0) := by intro q; by_cases hq : q = 0 <;> simp [hq]
    by_cases z : c3 V i j k = 0
    · exact .inl ⟨fun hh => hh.1 z, by simp [z]⟩
    · have z' : (c3 V i j k != 0) = true := by simpa using z
      simp only [z', if_true, g]
      by_cases c1 : i = 0
      · exact .inr ⟨fun hh => hh ⟨z, .inl c1⟩, false, by simp [c1], rfl⟩
      · by_cases c2 : j = 0
        · exact .inr ⟨fun hh => hh ⟨z, .inr (.inl c2)⟩, false, by simp [c1, c2], rfl⟩
        · by_cases c3' : k = 0
          · exact .inr ⟨fun hh => hh ⟨z, .inr (.inr c3')⟩, false, by simp [c1, c2, c3'], rfl⟩
          · exact .inl ⟨by omega, by simp [c1, c2, c3']⟩
  · constructor
    · intro hh i hi j hj
      refine ⟨?_, ?_, ?_⟩
      · exact Classical.byContradiction fun hc => hh 0 (by omega) i hi j hj ⟨hc, .inl rfl⟩
      · exact Classical.byContradiction fun hc => hh i hi 0 (by omega) j hj ⟨hc, .inr (.inl rfl)⟩
      · exact Classical.byContradiction fun hc => hh i hi j hj 0 (by omega) ⟨hc, .inr (.inr rfl)⟩
    · rintro hh i hi j hj k hk ⟨hc, rfl | rfl | rfl⟩
      · exact hc (hh j hj k hk).1
      · exact hc (hh i hi k hk).2.1
      · exact hc (hh i hi j hj).2.2
theorem no_brk {b : Bool} {r : List Int} {u : Unit} (h : (if b = true then some (Ctl.ret r) else some (.next ())) = some (.brk u)) : False := by
  cases b <;> simp at h
/-- The fault's place, the same; it is found, or there is none. -/
theorem fault_eq (h : CocOK o m V) (hl : (o.length : Int) ≤ 1048576) : ∃ r, p_spec_l17Fault o m V = some r ∧ p_impl_Cocycle_fault o m V = some r := by
  have hn := h.small
  have hm := h.mod
  have e4 : ∀ i j k, i < V.length → j < V.length → k < V.length → ∀ l, l < V.length → ∃ r, p_spec_l17Fault_L4 o i j k V m l = some r ∧ p_impl_Cocycle_fault_L4 V j k o m i l = some r ∧ ∀ u, r ≠ .brk u := by
    intro i j k hi hj hk l hl'
    obtain ⟨ij, a1, b1⟩ := h.add hi hj
    obtain ⟨jk, a2, b2⟩ := h.add hj hk
    obtain ⟨kl, a3, b3⟩ := h.add hk hl'
    have r1 := h.rng hj hk hl'
    have r2 := h.rng b1 hk hl'
    have r3 := h.rng hi b2 hl'
    have r4 := h.rng hi hj b3
    have r5 := h.rng hi hj hk
    simp only [p_spec_l17Fault_L4, p_impl_Cocycle_fault_L4, p_impl_Cocycle_plus, specAdd h.pos hl, implAdd h.pos, a1, a2, a3, Option.bind_some, h.i1 hj, h.i2 hj hk, h.i3 hj hk hl', h.i1 b1, h.i2 b1 hk, h.i3 b1 hk hl', h.i1 hi, h.i2 hi b2, h.i3 hi b2 hl', h.i2 hi hj, h.i3 hi hj b3, h.i3 hi hj hk]
    generalize c3 V j k l = q1 at *
    generalize c3 V ij k l = q2 at *
    generalize c3 V i jk l = q3 at *
    generalize c3 V i j kl = q4 at *
    generalize c3 V i j k = q5 at *
    rw [w64_small (x := q1 - q2) (by omega) (by omega), w64_small (x := q1 - q2 + q3) (by omega) (by omega), w64_small (x := q1 - q2 + q3 - q4) (by omega) (by omega), w64_small (x := q1 - q2 + q3 - q4 + q5) (by omega) (by omega)]
    rw [rest_eq hm (by omega)]
    have hne : m ≠ 0 := by omega
    simp only [remI, ne_eq, hne, not_false_eq_true, if_true, Option.bind_some]
    have ez : ((q1 - q2 + q3 - q4 + q5).tmod m != 0) = ((q1 - q2 + q3 - q4 + q5) % m != 0) := by
      rw [Bool.eq_iff_iff]; simp only [bne_iff_ne, ne_eq]; rw [tmod_zero hm.1]
    rw [ez]
    by_cases hz : ((q1 - q2 + q3 - q4 + q5) % m != 0) = true
    · simp only [hz, if_true]; exact ⟨_, rfl, rfl, fun u h => by cases h⟩
    · simp only [hz, if_false]; exact ⟨_, rfl, rfl, fun u h => by cases h⟩
  have both : ∀ {b b' : Nat → Unit → Option (Ctl Unit (List Int))}, (∀ j s, j < V.length → ∃ r, b j s = some r ∧ b' j s = some r ∧ ∀ u, r ≠ .brk u) → ∃ r, forN b V.length 0 () = some r ∧ forN b' V.length 0 () = some r := by
    intro b b' hb
    have : ∀ (c k : Nat), k + c = V.length → ∃ r, forN b c k () = some r ∧ forN b' c k () = some r := by
      intro c
      induction c with
      | zero => intro k _; exact ⟨_, rfl, rfl⟩
      | succ c ih =>
        intro k hk
        obtain ⟨r, e, e', hne⟩ := hb k () (by omega)
        cases r with
        | next u => rw [forN_next1 e, forN_next1 e']; exact ih (k + 1) (by omega)
        | ret r => exact ⟨_, forN_ret1 e, forN_ret1 e'⟩
        | brk u => exact absurd rfl (hne u)
    exact this V.length 0 (by omega)
  unfold p_spec_l17Fault p_impl_Cocycle_fault
  simp only [Int.toNat_natCast]
  have e1 : ∃ r, forN (fun k s => p_spec_l17Fault_L1 o V m k) V.length 0 () = some r ∧ forN (fun k s => p_impl_Cocycle_fault_L1 V o m k) V.length 0 () = some r := by
    refine both fun i s hi => ?_
    simp only [p_spec_l17Fault_L1, p_impl_Cocycle_fault_L1, Int.toNat_natCast]
    obtain ⟨r, f, f'⟩ := both (b := fun k s => p_spec_l17Fault_L2 o i V m k) (b' := fun k s => p_impl_Cocycle_fault_L2 V o m i k) fun j s hj => by
      simp only [p_spec_l17Fault_L2, p_impl_Cocycle_fault_L2, Int.toNat_natCast]
      obtain ⟨r, f, f'⟩ := both (b := fun k s => p_spec_l17Fault_L3 o i j V m k) (b' := fun k s => p_impl_Cocycle_fault_L3 V j o m i k) fun k s hk => by
        simp only [p_spec_l17Fault_L3, p_impl_Cocycle_fault_L3, Int.toNat_natCast]
        obtain ⟨r, f, f'⟩ := both (b := fun l s => p_spec_l17Fault_L4 o i j k V m l) (b' := fun l s => p_impl_Cocycle_fault_L4 V j k o m i l) fun l s hl' => by
          exact e4 i j k hi hj hk l hl'
        rw [f, f']
        cases r with
        | fin u => exact ⟨_, rfl, rfl, fun u h => by cases h⟩
        | ret r => exact ⟨_, rfl, rfl, fun u h => by cases h⟩
      rw [f, f']
      cases r with
      | fin u => exact ⟨_, rfl, rfl, fun u h => by cases h⟩
      | ret r => exact ⟨_, rfl, rfl, fun u h => by cases h⟩
    rw [f, f']
    cases r with
    | fin u => exact ⟨_, rfl, rfl, fun u h => by cases h⟩
    | ret r => exact ⟨_, rfl, rfl, fun u h => by cases h⟩
  obtain ⟨r, f, f'⟩ := e1
  rw [f, f']
  cases r with
  | fin u => exact ⟨_, rfl, rfl⟩
  | ret r => exact ⟨_, rfl, rfl⟩
theorem is_eq (hl : (o.length : Int) ≤ 1048576) : ∃ b, p_spec_l17Is o m V = some b ∧ p_impl_IsCocycle o m V = some b ∧ (b = true → CocOK o m V) := by
  unfold p_spec_l17Is p_impl_IsCocycle
  obtain ⟨b, e1, hb⟩ := specShape (o := o) (m := m) (V := V)
  have e2 : p_impl_isCochain o m V = some b := by rw [← e1]; exact (implShape.eq specShape)
  rw [e1, e2]
  simp only [Option.bind_some]
  cases b
  · exact ⟨false, rfl, rfl, fun h => by cases h⟩
  · have hc := hb.1 rfl
    obtain ⟨b, e3, hb3⟩ := specNormal hc
    have e4 : p_impl_Cocycle_isNormalised o m V = some b := by rw [← e3]; exact ((implNormal hc).eq (specNormal hc))
    obtain ⟨r, e5, e6⟩ := fault_eq hc hl
    simp only [e3, e4, e5, e6, if_true, Option.bind_some]
    cases b
    · exact ⟨false, rfl, rfl, fun h => by cases h⟩
    · have : ((r.length : Int) == 0) = r.isEmpty := by cases r <;> simp; omega
      simp only [if_true, this]
      exact ⟨_, rfl, rfl, fun _ => hc⟩
end
end Go.VG
