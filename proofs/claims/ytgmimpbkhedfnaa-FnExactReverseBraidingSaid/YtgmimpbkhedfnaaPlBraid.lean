/- Braidings: the model's test beside the code's. No condition. -/
import Derived.Test.YtgmimpbkhedfnaaPlCoc2
set_option linter.all false
namespace Go.VG
def PairOK (n : Nat) (m : Int) (c : List (List Int)) : Prop := GridOK n m c ∧ ∀ i, i < n → at2 c 0 i = 0 ∧ at2 c i 0 = 0
section
variable {o : List Int} {m : Int} {V : List (List (List Int))} {c : List (List Int)} {n : Nat}
theorem PairOK.i1 (h : PairOK n m c) {i : Nat} (hi : i < n) : idx c (i : Int) = some (c.getD i []) := idx_getD _ _ (by rw [h.1.1]; exact hi)
theorem PairOK.i2 (h : PairOK n m c) {i j : Nat} (hi : i < n) (hj : j < n) : idx (c.getD i []) (j : Int) = some (at2 c i j) := idx_getD _ _ (by rw [(h.1.2 i hi).1]; exact hj)
theorem PairOK.rng (h : PairOK n m c) (hm : m ≤ 1000) {i j : Nat} (hi : i < n) (hj : j < n) : 0 ≤ at2 c i j ∧ at2 c i j ≤ 999 := by
  have := (h.1.2 i hi).2 j hj
  omega
theorem specPairing (hm : 1 ≤ m ∧ m ≤ 1000) (hn : 1 ≤ n) : Says (p_spec_l17Pairing (n : Int) m c) (PairOK n m c) := by
  unfold p_spec_l17Pairing
  by_cases hl : c.length = n
  · have e : ((c.length : Int) != (n : Int)) = false := by simp [hl]
    rw [e]
    simp only [Bool.false_eq_true, if_false, Int.toNat_natCast]
    refine Says.congr (Chk.says (forN_chk (P := fun i => (c.getD i []).length = n ∧ ∀ j, j < n → (0 ≤ at2 c i j ∧ at2 c i j ≤ m - 1) ∧ (i = 0 ∨ j = 0 → at2 c i j = 0)) fun i hi _ => ?_)) ?_
    · simp only [p_spec_l17Pairing_L1, idx_getD c [] (by omega : i < c.length), Option.bind_some, Int.toNat_natCast]
      refine ChkC.congr (ChkC.iteAnd rfl fun hl2 => ChkC.loop (forN_chk (P := fun j => (0 ≤ at2 c i j ∧ at2 c i j ≤ m - 1) ∧ (i = 0 ∨ j = 0 → at2 c i j = 0)) fun j hj _ => ?_)) ?_
      · have hl2' : (c.getD i []).length = n := by rw [bne_eq_false_iff_eq] at hl2; omega
        have ew : w64 (m - 1) = m - 1 := w64_small (by omega) (by omega)
        have g : ∀ q : Nat, ((q : Int) == 0) = decide (q = 0) := by intro q; by_cases hq : q = 0 <;> simp [hq]
        have ei : idx (c.getD i []) (j : Int) = some (at2 c i j) := idx_getD _ _ (by omega)
        simp only [p_spec_l17Pairing_L2, p_spec_l01In, ei, Option.bind_some, ew, g]
        by_cases hr : 0 ≤ at2 c i j ∧ at2 c i j ≤ m - 1
        · have er : (decide (at2 c i j ≥ 0) && decide (at2 c i j ≤ m - 1)) = true := by simpa using hr
          simp only [er, Bool.not_true, Bool.false_eq_true, if_false]
          by_cases z : at2 c i j = 0
          · have ez : (at2 c i j != 0) = false := by simp [z]
            refine .inl ⟨⟨hr, fun _ => z⟩, ?_⟩
            by_cases c1 : i = 0
            · simp only [c1, decide_true, if_true, Option.bind_some]; rw [← c1]; simp only [ez, Bool.false_eq_true, if_false]
            · by_cases c2 : j = 0
              · simp only [c1, c2, decide_false, decide_true, Bool.false_eq_true, if_false, if_true, Option.bind_some]; rw [← c2]; simp only [ez, Bool.false_eq_true, if_false]
              · simp only [c1, c2, decide_false, Bool.false_eq_true, if_false, Option.bind_some]
          · have ez : (at2 c i j != 0) = true := by simpa using z
            by_cases c1 : i = 0
            · exact .inr ⟨fun hh => z (hh.2 (.inl c1)), false, by simp only [c1, decide_true, if_true, Option.bind_some]; rw [← c1]; simp only [ez, if_true], rfl⟩
            · by_cases c2 : j = 0
              · exact .inr ⟨fun hh => z (hh.2 (.inr c2)), false, by simp only [c1, c2, decide_false, decide_true, Bool.false_eq_true, if_false, if_true, Option.bind_some]; rw [← c2]; simp only [ez, if_true], rfl⟩
              · exact .inl ⟨⟨hr, by omega⟩, by simp only [c1, c2, decide_false, Bool.false_eq_true, if_false, Option.bind_some]⟩
        · have er : (decide (at2 c i j ≥ 0) && decide (at2 c i j ≤ m - 1)) = false := by
            cases hh : (decide (at2 c i j ≥ 0) && decide (at2 c i j ≤ m - 1)) with
            | false => rfl
            | true => exact absurd (by simpa using hh) hr
          exact .inr ⟨fun hh => hr hh.1, false, by simp only [er, Bool.not_false, if_true, Option.bind_some], rfl⟩
      · rw [bne_eq_false_iff_eq]; constructor <;> rintro ⟨h1, h2⟩ <;> exact ⟨by omega, h2⟩
    · constructor
      · intro hh
        refine ⟨⟨hl, fun i hi => ⟨(hh i hi).1, fun j hj => ((hh i hi).2 j hj).1⟩⟩, fun i hi => ⟨((hh 0 (by omega)).2 i hi).2 (.inl rfl), ((hh i hi).2 0 (by omega)).2 (.inr rfl)⟩⟩
      · intro hh i hi
        refine ⟨(hh.1.2 i hi).1, fun j hj => ⟨(hh.1.2 i hi).2 j hj, ?_⟩⟩
        rintro (rfl | rfl)
        · exact (hh.2 j hj).1
        · exact (hh.2 i hi).2
  · have e : ((c.length : Int) != (n : Int)) = true := by simp only [bne_iff_ne, ne_eq]; omega
    rw [e]
    exact ⟨false, rfl, by simp; exact fun h => hl h.1.1⟩
theorem implPairing (hm : 1 ≤ m ∧ m ≤ 1000) (hn : 1 ≤ n) : Says (p_impl_isPairing c (n : Int) m) (PairOK n m c) := by
  unfold p_impl_isPairing
  obtain ⟨b, e, hb⟩ := implGrid c (n := n) (q := m) (by omega)
  rw [e]
  simp only [Option.bind_some]
  cases b
  · exact ⟨false, rfl, by simp; exact fun h => absurd (hb.2 h.1) (by simp)⟩
  · have hg := hb.1 rfl
    simp only [Bool.not_true, Bool.false_eq_true, if_false]
    rw [hg.1]
    refine Says.congr (Chk.says (forN_chk (P := fun i => at2 c 0 i = 0 ∧ at2 c i 0 = 0) fun i hi _ => ?_)) ⟨fun h => ⟨hg, h⟩, fun h => h.2⟩
    have i0 : idx c (0 : Int) = some (c.getD 0 []) := idx_zero c [] (by rw [hg.1]; omega)
    have i1 : idx (c.getD 0 []) (i : Int) = some (at2 c 0 i) := idx_getD _ _ (by rw [(hg.2 0 (by omega)).1]; exact hi)
    have i2 : idx (c.getD i []) (0 : Int) = some (at2 c i 0) := idx_zero _ _ (by rw [(hg.2 i hi).1]; omega)
    simp only [p_impl_isPairing_L1, i0, i1, idx_getD c [] (show i < c.length by rw [hg.1]; exact hi), i2, Option.bind_some]
    by_cases z1 : at2 c 0 i = 0
    · by_cases z2 : at2 c i 0 = 0
      · exact .inl ⟨⟨z1, z2⟩, by simp [z1, z2]⟩
      · exact .inr ⟨fun hh => z2 hh.2, false, by simp [z1, z2], rfl⟩
    · exact .inr ⟨fun hh => z1 hh.1, false, by simp [z1], rfl⟩
theorem shape_eq (hl : (o.length : Int) ≤ 1048576) : ∃ b, p_spec_l18Shape o m V c = some b ∧ p_impl_hasNumbers o m V c = some b ∧ (b = true → CocOK o m V ∧ PairOK V.length m c) := by
  unfold p_spec_l18Shape p_impl_hasNumbers
  obtain ⟨b, e1, e2, hb⟩ := is_eq (o := o) (m := m) (V := V) hl
  rw [e1, e2]
  simp only [Option.bind_some]
  cases b
  · exact ⟨false, rfl, rfl, fun h => by cases h⟩
  · have hc := hb rfl
    obtain ⟨b, e3, h3⟩ := specPairing (c := c) hc.mod hc.n1
    have e4 : p_impl_isPairing c (V.length : Int) m = some b := by rw [← e3]; exact ((implPairing hc.mod hc.n1).eq (specPairing hc.mod hc.n1))
    simp only [if_true, p_spec_l18Numbers, e3, e4, Option.bind_some]
    exact ⟨b, rfl, rfl, fun h => ⟨hc, h3.1 h⟩⟩
theorem one_eq (h : CocOK o m V) (hl : (o.length : Int) ≤ 1048576) (hp : PairOK V.length m c) {x y z : Nat} (hx : x < V.length) (hy : y < V.length) (hz : z < V.length) :
    ∃ b, p_spec_l18One o m V c (x : Int) (y : Int) (z : Int) = some b ∧ p_impl_Braiding_holds o m V c 1 (x : Int) (y : Int) (z : Int) = some b := by
  have hm := h.mod
  obtain ⟨yz, a1, b1⟩ := h.add hy hz
  have r1 := h.rng hy hz hx
  have r2 := hp.rng hm.2 hx b1
  have r3 := h.rng hx hy hz
  have r4 := hp.rng hm.2 hx hz
  have r5 := h.rng hy hx hz
  have r6 := hp.rng hm.2 hx hy
  have e11 : ((1 : Int) == 1) = true := rfl
  simp only [p_spec_l18One, p_impl_Braiding_holds, e11, if_true, p_impl_Cocycle_plus, specAdd h.pos hl, implAdd h.pos, a1, Option.bind_some, h.i1 hy, h.i2 hy hz, h.i3 hy hz hx, hp.i1 hx, hp.i2 hx b1, h.i1 hx, h.i2 hx hy, h.i3 hx hy hz, hp.i2 hx hz, h.i2 hy hx, h.i3 hy hx hz, hp.i2 hx hy]
  generalize c3 V y z x = q1 at *
  generalize at2 c x yz = q2 at *
  generalize c3 V x y z = q3 at *
  generalize at2 c x z = q4 at *
  generalize c3 V y x z = q5 at *
  generalize at2 c x y = q6 at *
  rw [w64_small (x := q1 + q2) (by omega) (by omega), w64_small (x := q1 + q2 + q3) (by omega) (by omega), w64_small (x := q1 + q2 + q3 - q4) (by omega) (by omega), w64_small (x := q1 + q2 + q3 - q4 - q5) (by omega) (by omega), w64_small (x := q1 + q2 + q3 - q4 - q5 - q6) (by omega) (by omega), w64_small (x := q4 + q5) (by omega) (by omega), w64_small (x := q4 + q5 + q6) (by omega) (by omega)]
  rw [rest_eq hm (by omega), rest_eq hm (by omega)]
  have hne : m ≠ 0 := by omega
  simp only [remI, ne_eq, hne, not_false_eq_true, if_true, Option.bind_some]
  refine ⟨_, rfl, congrArg some ?_⟩
  rw [Bool.eq_iff_iff, beq_iff_eq, beq_iff_eq, show q1 + q2 + q3 - q4 - q5 - q6 = (q1 + q2 + q3) - (q4 + q5 + q6) from by omega, sub_zero_iff hm.1]
theorem two_eq (h : CocOK o m V) (hl : (o.length : Int) ≤ 1048576) (hp : PairOK V.length m c) {x y z : Nat} (hx : x < V.length) (hy : y < V.length) (hz : z < V.length) :
    ∃ b, p_spec_l18Two o m V c (x : Int) (y : Int) (z : Int) = some b ∧ p_impl_Braiding_holds o m V c 2 (x : Int) (y : Int) (z : Int) = some b := by
  have hm := h.mod
  obtain ⟨xy, a1, b1⟩ := h.add hx hy
  have r1 := hp.rng hm.2 b1 hz
  have r2 := h.rng hz hx hy
  have r3 := h.rng hx hy hz
  have r4 := hp.rng hm.2 hx hz
  have r5 := hp.rng hm.2 hy hz
  have r6 := h.rng hx hz hy
  have e11 : ((2 : Int) == 1) = false := rfl
  simp only [p_spec_l18Two, p_impl_Braiding_holds, e11, Bool.false_eq_true, if_false, p_impl_Cocycle_plus, specAdd h.pos hl, implAdd h.pos, a1, Option.bind_some, hp.i1 b1, hp.i2 b1 hz, h.i1 hz, h.i2 hz hx, h.i3 hz hx hy, h.i1 hx, h.i2 hx hy, h.i3 hx hy hz, hp.i1 hx, hp.i2 hx hz, hp.i1 hy, hp.i2 hy hz, h.i2 hx hz, h.i3 hx hz hy]
  generalize at2 c xy z = q1 at *
  generalize c3 V z x y = q2 at *
  generalize c3 V x y z = q3 at *
  generalize at2 c x z = q4 at *
  generalize at2 c y z = q5 at *
  generalize c3 V x z y = q6 at *
  rw [w64_small (x := q1 - q2) (by omega) (by omega), w64_small (x := q1 - q2 - q3) (by omega) (by omega), w64_small (x := q1 - q2 - q3 - q4) (by omega) (by omega), w64_small (x := q1 - q2 - q3 - q4 - q5) (by omega) (by omega), w64_small (x := q1 - q2 - q3 - q4 - q5 + q6) (by omega) (by omega), w64_small (x := q4 + q5) (by omega) (by omega), w64_small (x := q4 + q5 - q6) (by omega) (by omega)]
  rw [rest_eq hm (by omega), rest_eq hm (by omega)]
  have hne : m ≠ 0 := by omega
  simp only [remI, ne_eq, hne, not_false_eq_true, if_true, Option.bind_some]
  refine ⟨_, rfl, congrArg some ?_⟩
  rw [Bool.eq_iff_iff, beq_iff_eq, beq_iff_eq, show q1 - q2 - q3 - q4 - q5 + q6 = (q1 - q2 - q3) - (q4 + q5 - q6) from by omega, sub_zero_iff hm.1]
theorem both_loops {n : Nat} {b b' : Nat → Unit → Option (Ctl Unit (List Int))} (hb : ∀ j s, j < n → ∃ r, b j s = some r ∧ b' j s = some r ∧ ∀ u, r ≠ .brk u) : ∃ r, forN b n 0 () = some r ∧ forN b' n 0 () = some r := by
  have : ∀ (c k : Nat), k + c = n → ∃ r, forN b c k () = some r ∧ forN b' c k () = some r := by
    intro c
    induction c with
    | zero => intro k _; exact ⟨_, rfl, rfl⟩
    | succ c ih =>
      intro k hk
      obtain ⟨r, e, e', hne⟩ := hb k () (by omega)
      cases r with
      | next u => rw [forN_next1 e, forN_next1 e']; exact ih (k + 1) (by omega)
      | ret r => exact ⟨_, forN_ret1 e, forN_ret1 e'⟩
      | brk u => exact absurd rfl (hne u)
  exact this n 0 (by omega)
theorem wrap_loop {f f' : Option (Res Unit (List Int))} (h : ∃ r, f = some r ∧ f' = some r) :
    ∃ r, (f.bind fun res => onRes res (fun r => some (Ctl.ret r)) fun _ => some (.next ())) = some r ∧ (f'.bind fun res => onRes res (fun r => some (Ctl.ret r)) fun _ => some (.next ())) = some r ∧ ∀ u, r ≠ .brk u := by
  obtain ⟨r, rfl, rfl⟩ := h
  cases r with
  | fin u => exact ⟨_, rfl, rfl, fun u h => by cases h⟩
  | ret r => exact ⟨_, rfl, rfl, fun u h => by cases h⟩
theorem bfault_eq (h : CocOK o m V) (hl : (o.length : Int) ≤ 1048576) (hp : PairOK V.length m c) : ∃ r, p_spec_l18Fault o m V c = some r ∧ p_impl_Braiding_fault o m V c = some r ∧ (r.length : Int) ≤ 4 := by
  have hcl : c.length = V.length := hp.1.1
  have inner : ∀ e : Int, e = 1 ∨ e = 2 → ∃ r, forN (fun k s => p_spec_l18Fault_L2 e o m V c k) c.length 0 () = some r ∧ forN (fun k s => p_impl_Braiding_fault_L2 o m V c e k) c.length 0 () = some r ∧ ∀ l, r = .ret l → (l.length : Int) ≤ 4 := by
    intro e he
    have h4 : ∀ x y z : Nat, x < V.length → y < V.length → z < V.length → ∃ r, p_spec_l18Fault_L4 e o m V c x y z = some r ∧ p_impl_Braiding_fault_L4 o m V c e x y z = some r ∧ (∀ u, r ≠ .brk u) ∧ ∀ l, r = .ret l → (l.length : Int) ≤ 4 := by
      intro x y z hx hy hz
      rcases he with rfl | rfl
      · obtain ⟨b, e1, e2⟩ := one_eq h hl hp hx hy hz
        have k1 : ((1 : Int) == 1) = true := rfl
        have k2 : ((1 : Int) == 2) = false := rfl
        have hs : p_spec_l18Fault_L4 1 o m V c x y z = (if (!b) = true then some (.ret [1, (x : Int), (y : Int), (z : Int)]) else some (.next ())) := by
          simp only [p_spec_l18Fault_L4, e1, k1, k2, if_true, Bool.false_eq_true, if_false, Option.bind_some]
          cases b <;> rfl
        have ht : p_impl_Braiding_fault_L4 o m V c 1 x y z = (if (!b) = true then some (.ret [1, (x : Int), (y : Int), (z : Int)]) else some (.next ())) := by
          simp only [p_impl_Braiding_fault_L4, e2, Option.bind_some]
        cases b
        · exact ⟨_, hs, ht, fun u h => (by cases h), fun l h => by cases h; simp⟩
        · exact ⟨_, hs, ht, fun u h => (by cases h), fun l h => by cases h⟩
      · obtain ⟨b, e1, e2⟩ := two_eq h hl hp hx hy hz
        have k1 : ((2 : Int) == 1) = false := rfl
        have k2 : ((2 : Int) == 2) = true := rfl
        have hs : p_spec_l18Fault_L4 2 o m V c x y z = (if (!b) = true then some (.ret [2, (x : Int), (y : Int), (z : Int)]) else some (.next ())) := by
          simp only [p_spec_l18Fault_L4, e1, k1, k2, if_true, Bool.false_eq_true, if_false, Option.bind_some]
        have ht : p_impl_Braiding_fault_L4 o m V c 2 x y z = (if (!b) = true then some (.ret [2, (x : Int), (y : Int), (z : Int)]) else some (.next ())) := by
          simp only [p_impl_Braiding_fault_L4, e2, Option.bind_some]
        cases b
        · exact ⟨_, hs, ht, fun u h => (by cases h), fun l h => by cases h; simp⟩
        · exact ⟨_, hs, ht, fun u h => (by cases h), fun l h => by cases h⟩
    rw [hcl]
    have lp : ∀ {b b' : Nat → Unit → Option (Ctl Unit (List Int))}, (∀ j s, j < V.length → ∃ r, b j s = some r ∧ b' j s = some r ∧ (∀ u, r ≠ .brk u) ∧ ∀ l, r = .ret l → (l.length : Int) ≤ 4) → ∃ r, forN b V.length 0 () = some r ∧ forN b' V.length 0 () = some r ∧ ∀ l, r = .ret l → (l.length : Int) ≤ 4 := by
      intro b b' hb
      have : ∀ (c k : Nat), k + c = V.length → ∃ r, forN b c k () = some r ∧ forN b' c k () = some r ∧ ∀ l, r = .ret l → (l.length : Int) ≤ 4 := by
        intro c
        induction c with
        | zero => intro k _; exact ⟨_, rfl, rfl, fun l h => by cases h⟩
        | succ c ih =>
          intro k hk
          obtain ⟨r, e, e', hne, hlen⟩ := hb k () (by omega)
          cases r with
          | next u => rw [forN_next1 e, forN_next1 e']; exact ih (k + 1) (by omega)
          | ret r => exact ⟨_, forN_ret1 e, forN_ret1 e', fun l h => hlen l (by cases h; rfl)⟩
          | brk u => exact absurd rfl (hne u)
      exact this V.length 0 (by omega)
    have wr : ∀ {f f' : Option (Res Unit (List Int))}, (∃ r, f = some r ∧ f' = some r ∧ ∀ l, r = .ret l → (l.length : Int) ≤ 4) →
        ∃ r, (f.bind fun res => onRes res (fun r => some (Ctl.ret r)) fun _ => some (.next ())) = some r ∧ (f'.bind fun res => onRes res (fun r => some (Ctl.ret r)) fun _ => some (.next ())) = some r ∧ (∀ u, r ≠ .brk u) ∧ ∀ l, r = .ret l → (l.length : Int) ≤ 4 := by
      rintro f f' ⟨r, rfl, rfl, hlen⟩
      cases r with
      | fin u => exact ⟨_, rfl, rfl, fun u h => (by cases h), fun l h => by cases h⟩
      | ret r => exact ⟨_, rfl, rfl, fun u h => (by cases h), fun l h => hlen l (by cases h; rfl)⟩
    refine lp fun x s hx => ?_
    simp only [p_spec_l18Fault_L2, p_impl_Braiding_fault_L2, hcl]
    refine wr (lp fun y s hy => ?_)
    simp only [p_spec_l18Fault_L3, p_impl_Braiding_fault_L3, hcl]
    exact wr (lp fun z s hz => h4 x y z hx hy hz)
  obtain ⟨r1, f1, g1, l1⟩ := inner 1 (.inl rfl)
  obtain ⟨r2, f2, g2, l2⟩ := inner 2 (.inr rfl)
  have w2 : w64 ((1 : Int) + 1) = 2 := by rw [w64_small (by decide) (by decide)]; rfl
  have w3 : w64 ((2 : Int) + 1) = 3 := by rw [w64_small (by decide) (by decide)]; rfl
  have d1 : decide ((1 : Int) ≤ 2) = true := rfl
  have d2 : decide ((2 : Int) ≤ 2) = true := rfl
  have d3 : decide ((3 : Int) ≤ 2) = false := rfl
  unfold p_spec_l18Fault p_impl_Braiding_fault
  have s3 : p_spec_l18Fault_L1 o m V c 3 = some (.brk 3) := by simp only [p_spec_l18Fault_L1, d3, Bool.false_eq_true, if_false]
  have t3 : p_impl_Braiding_fault_L1 o m V c 3 = some (.brk 3) := by simp only [p_impl_Braiding_fault_L1, d3, Bool.false_eq_true, if_false]
  have s1 : p_spec_l18Fault_L1 o m V c 1 = onRes r1 (fun r => some (.ret r)) fun _ => some (.next 2) := by simp only [p_spec_l18Fault_L1, d1, if_true, f1, Option.bind_some, w2]
  have t1 : p_impl_Braiding_fault_L1 o m V c 1 = onRes r1 (fun r => some (.ret r)) fun _ => some (.next 2) := by simp only [p_impl_Braiding_fault_L1, d1, if_true, g1, Option.bind_some, w2]
  have s2 : p_spec_l18Fault_L1 o m V c 2 = onRes r2 (fun r => some (.ret r)) fun _ => some (.next 3) := by simp only [p_spec_l18Fault_L1, d2, if_true, f2, Option.bind_some, w3]
  have t2 : p_impl_Braiding_fault_L1 o m V c 2 = onRes r2 (fun r => some (.ret r)) fun _ => some (.next 3) := by simp only [p_impl_Braiding_fault_L1, d2, if_true, g2, Option.bind_some, w3]
  cases r1 with
  | ret l =>
    rw [whileC_of (n := 1) (iterN_ret s1), whileC_of (n := 1) (iterN_ret t1)]
    exact ⟨l, rfl, rfl, l1 l rfl⟩
  | fin u =>
    cases r2 with
    | ret l =>
      rw [whileC_of (n := 2) ((iterN_next s1).trans (iterN_ret s2)), whileC_of (n := 2) ((iterN_next t1).trans (iterN_ret t2))]
      exact ⟨l, rfl, rfl, l2 l rfl⟩
    | fin u =>
      rw [whileC_of (n := 3) ((iterN_next s1).trans ((iterN_next s2).trans (iterN_brk s3))), whileC_of (n := 3) ((iterN_next t1).trans ((iterN_next t2).trans (iterN_brk t3)))]
      exact ⟨[], rfl, rfl, by simp⟩
theorem len0_empty (r : List Int) : ((r.length : Int) == 0) = r.isEmpty := by cases r <;> simp; omega
theorem braid_eq (hl : (o.length : Int) ≤ 1048576) : ∃ b, p_spec_l18Is o m V c = some b ∧ p_impl_IsBraiding o m V c = some b ∧ (b = true → CocOK o m V ∧ PairOK V.length m c) := by
  unfold p_spec_l18Is p_impl_IsBraiding
  obtain ⟨b, e1, e2, hb⟩ := shape_eq (o := o) (m := m) (V := V) (c := c) hl
  rw [e1, e2]
  simp only [Option.bind_some]
  cases b
  · exact ⟨false, rfl, rfl, fun h => by cases h⟩
  · obtain ⟨hc, hp⟩ := hb rfl
    obtain ⟨r, e3, e4, _⟩ := bfault_eq hc hl hp
    simp only [if_true, e3, e4, Option.bind_some, len0_empty]
    exact ⟨_, rfl, rfl, fun _ => ⟨hc, hp⟩⟩
/-! ### The laws' helpers -/

theorem szBraiding_spec (h0 : Good1 .i64 o) (h2 : Good3 .i64 V) (h3 : Good2 .i64 c) : ∃ r, p_laws_szBraiding o m V c 1048576 = some r ∧
    (0 ≤ r → p_laws_toBraiding o m V c = some (o, m, V, c) ∧ (o.length : Int) ≤ 1048576 ∧ ((V.length : Int) ≤ 1048576 ∧ ∀ x ∈ V, (x.length : Int) ≤ 1048576 ∧ ∀ y ∈ x, (y.length : Int) ≤ 1048576) ∧ ((c.length : Int) ≤ 1048576 ∧ ∀ x ∈ c, (x.length : Int) ≤ 1048576)) := by
  unfold p_laws_szBraiding p_laws_szCocycle
  obtain ⟨r1, e1, l1, s1, s1'⟩ := szInt64S_spec o 1048576 (by decide) (by decide) h0.1
  rw [e1]
  simp only [Option.bind_some]
  by_cases n1 : r1 < 0
  · simp only [n1, decide_true, if_true, Option.bind_some]
    exact ⟨-1, by simp, by omega⟩
  simp only [n1, decide_false, Bool.false_eq_true, if_false]
  obtain ⟨r2, e2, l2, s2, s2'⟩ := szInt64SSS_spec V r1 (by omega) (by omega) h2.1 (fun x hx => ⟨(h2.2 x hx).1, fun y hy => ((h2.2 x hx).2 y hy).1⟩)
  rw [e2]
  simp only [Option.bind_some]
  by_cases n2 : r2 < 0
  · simp only [n2, decide_true, if_true, Option.bind_some]
    exact ⟨-1, by simp, by omega⟩
  simp only [n2, decide_false, Bool.false_eq_true, if_false, Option.bind_some]
  obtain ⟨r3, e3, l3, s3, s3'⟩ := szInt64SS_spec c r2 (by omega) (by omega) h3.1 (fun x hx => (h3.2 x hx).1)
  rw [e3]
  simp only [Option.bind_some]
  by_cases n3 : r3 < 0
  · simp only [n3, decide_true, if_true]
    exact ⟨-1, rfl, by omega⟩
  simp only [n3, decide_false, Bool.false_eq_true, if_false]
  refine ⟨r3, rfl, fun _ => ?_⟩
  have g1 := s1' (by omega)
  obtain ⟨g2, g3⟩ := s2' (by omega)
  obtain ⟨g4, g5⟩ := s3' (by omega)
  have v1 : (V.length : Int) ≤ 1048576 ∧ ∀ x ∈ V, (x.length : Int) ≤ 1048576 ∧ ∀ y ∈ x, (y.length : Int) ≤ 1048576 := ⟨by omega, fun x hx => ⟨by have := (g3 x hx).1; omega, fun y hy => by have := (g3 x hx).2 y hy; omega⟩⟩
  have v2 : (c.length : Int) ≤ 1048576 ∧ ∀ x ∈ c, (x.length : Int) ≤ 1048576 := ⟨by omega, fun x hx => by have := g5 x hx; omega⟩
  refine ⟨?_, by omega, v1, v2⟩
  simp only [p_laws_toBraiding, p_laws_toCocycle, toInt64S_eq o (by omega), toInt64SSS_eq V v1.1 v1.2, toInt64SS_eq c v2.1 v2.2, Option.bind_some]
theorem eqBraiding_self : p_laws_eqBraiding o m V c o m V c = some true := by
  simp [p_laws_eqBraiding, p_laws_eqCocycle, eqS_self, eqSS_self, eqSSS_self]
end
end Go.VG
