/- Classes of labels, numbered by their least labels: the code's loop and the model's. Plain. -/
import Derived.Test.YtaghjfegbooceaaDoorPlSub
import Derived.Test.YtaghjfegbooceaaDoorPlAssoc
set_option linter.all false
namespace Go.VG

/-- The least i below n with p, or n. -/
def fstN (p : Nat → Bool) : Nat → Nat
  | 0 => 0
  | n + 1 => if fstN p n < n then fstN p n else if p n = true then n else n + 1
theorem fstN_spec (p : Nat → Bool) : ∀ n, fstN p n ≤ n ∧ (fstN p n < n → p (fstN p n) = true) ∧ ∀ i, i < fstN p n → p i = false
  | 0 => ⟨Nat.le_refl _, fun h => by simp [fstN] at h, fun i hi => by simp [fstN] at hi⟩
  | n + 1 => by
    obtain ⟨h1, h2, h3⟩ := fstN_spec p n
    simp only [fstN]
    by_cases h : fstN p n < n
    · rw [if_pos h]; exact ⟨by omega, fun _ => h2 h, h3⟩
    · rw [if_neg h]
      have e : fstN p n = n := by omega
      by_cases hp : p n = true
      · rw [if_pos hp]; exact ⟨by omega, fun _ => hp, fun i hi => h3 i (by omega)⟩
      · rw [if_neg hp]
        refine ⟨Nat.le_refl _, fun h => by omega, fun i hi => ?_⟩
        by_cases ei : i = n
        · subst ei; simpa using hp
        · exact h3 i (by omega)

section
variable (n : Nat) (rb : Nat → Nat → Bool)
structure Eqv : Prop where
  refl : ∀ k, k < n → rb k k = true
  symm : ∀ i k, i < n → k < n → rb i k = true → rb k i = true
  trans : ∀ i j k, i < n → j < n → k < n → rb i j = true → rb j k = true → rb i k = true
def fsK (k : Nat) : Nat := fstN (fun i => rb i k) n
def cntK : Nat → Nat
  | 0 => 0
  | j + 1 => cntK j + (if fsK n rb j = j then 1 else 0)
def VK (k : Nat) : Int := (cntK n rb (fsK n rb k) : Int)
theorem cntK_le : ∀ k, cntK n rb k ≤ k
  | 0 => Nat.le_refl _
  | k + 1 => by have := cntK_le k; simp only [cntK]; split <;> omega
variable {n rb}
theorem Eqv.fs_le (h : Eqv n rb) {k : Nat} (hk : k < n) : fsK n rb k ≤ k := by
  apply Decidable.byContradiction
  intro hc
  have := (fstN_spec (fun i => rb i k) n).2.2 k (by unfold fsK at hc; omega)
  rw [h.refl k hk] at this; cases this
theorem Eqv.fs_rel (h : Eqv n rb) {k : Nat} (hk : k < n) : rb (fsK n rb k) k = true := (fstN_spec (fun i => rb i k) n).2.1 (by have := h.fs_le hk; unfold fsK at this; omega)
theorem fs_min {k i : Nat} (hi : i < fsK n rb k) : rb i k = false := (fstN_spec (fun i => rb i k) n).2.2 i hi
theorem Eqv.fs_eq (h : Eqv n rb) {i k : Nat} (hi : i < n) (hk : k < n) (hr : rb i k = true) : fsK n rb k = fsK n rb i := by
  have hik : rb k i = true := h.symm i k hi hk hr
  have a := h.fs_le hi
  have b := h.fs_le hk
  apply Nat.le_antisymm
  · apply Decidable.byContradiction
    intro hc
    have := fs_min (n := n) (rb := rb) (k := k) (i := fsK n rb i) (by omega)
    rw [h.trans (fsK n rb i) i k (by omega) hi hk (h.fs_rel hi) hr] at this; cases this
  · apply Decidable.byContradiction
    intro hc
    have := fs_min (n := n) (rb := rb) (k := i) (i := fsK n rb k) (by omega)
    rw [h.trans (fsK n rb k) k i (by omega) hk hi (h.fs_rel hk) hik] at this; cases this
theorem Eqv.fs_fs (h : Eqv n rb) {k : Nat} (hk : k < n) : fsK n rb (fsK n rb k) = fsK n rb k := (h.fs_eq (by have := h.fs_le hk; omega) hk (h.fs_rel hk)).symm
theorem Eqv.V_fs (h : Eqv n rb) {k : Nat} (hk : k < n) : VK n rb (fsK n rb k) = VK n rb k := by unfold VK; rw [h.fs_fs hk]
theorem V_nonneg (k : Nat) : 0 ≤ VK n rb k := by unfold VK; omega

/-! ### The code's loop -/
theorem implClasses (h : Eqv n rb) {T : List (List (List Int))} (hT : T.length = n) (hn : n ≤ 16) {tog : Int → Int → Option Bool} (ht : ∀ i j : Nat, i < j → j < n → tog (i : Int) (j : Int) = some (rb i j)) :
    p_impl_Ring_classes T tog = some (vecG (VK n rb) n) := by
  unfold p_impl_Ring_classes
  rw [hT]
  have := forN_det (R := Unit) (N := n) (body := fun k s => p_impl_Ring_classes_L1 tog k s.1 s.2) (fun j => (vecG (VK n rb) j, ((cntK n rb j : Nat) : Int))) (fun j hj => by
    have hle := h.fs_le hj
    have hcl := cntK_le n rb j
    have inner : whileC (R := Unit) (fun s => p_impl_Ring_classes_L2 j tog (vecG (VK n rb) j) s.1 s.2) ((-1 : Int), (0 : Int)) = some (.fin (if fsK n rb j < j then (VK n rb j, ((fsK n rb j + 1 : Nat) : Int)) else ((-1 : Int), (j : Int)))) := by
      by_cases hf : fsK n rb j < j
      · rw [if_pos hf]
        have := whileC_det (R := Unit) (step := fun s => p_impl_Ring_classes_L2 j tog (vecG (VK n rb) j) s.1 s.2) (fsK n rb j + 1) (fun i => if i ≤ fsK n rb j then ((-1 : Int), (i : Int)) else (VK n rb j, (i : Int))) (s' := (VK n rb j, ((fsK n rb j + 1 : Nat) : Int))) (fun i hi => by
          have e1 : (decide ((i : Int) < (j : Int)) && decide ((-1 : Int) < 0)) = true := by simp; omega
          have e2 : w64 ((i : Int) + 1) = ((i + 1 : Nat) : Int) := by rw [w64_small (by omega) (by omega)]; rfl
          simp only [if_pos (by omega : i ≤ fsK n rb j), p_impl_Ring_classes_L2, e1, if_true, ht i j (by omega) hj, Option.bind_some, e2]
          by_cases ei : i = fsK n rb j
          · rw [ei, h.fs_rel hj]
            simp only [if_true, vecG_idx hf, Option.bind_some, h.V_fs hj]
            rw [if_neg (by omega)]
          · rw [fs_min (n := n) (rb := rb) (k := j) (i := i) (by omega)]
            simp only [Bool.false_eq_true, if_false, Option.bind_some]
            rw [if_pos (by omega)]) (by
          have hv : ¬ VK n rb j < 0 := by have := V_nonneg (n := n) (rb := rb) j; omega
          simp only [if_neg (by omega : ¬ fsK n rb j + 1 ≤ fsK n rb j), p_impl_Ring_classes_L2, hv, decide_false, Bool.and_false, Bool.false_eq_true, if_false])
        rw [if_pos (Nat.zero_le _)] at this
        exact this
      · rw [if_neg hf]
        have ej : fsK n rb j = j := by omega
        have := whileC_det (R := Unit) (step := fun s => p_impl_Ring_classes_L2 j tog (vecG (VK n rb) j) s.1 s.2) j (fun i => ((-1 : Int), (i : Int))) (s' := ((-1 : Int), (j : Int))) (fun i hi => by
          have e1 : (decide ((i : Int) < (j : Int)) && decide ((-1 : Int) < 0)) = true := by simp; omega
          have e2 : w64 ((i : Int) + 1) = ((i + 1 : Nat) : Int) := by rw [w64_small (by omega) (by omega)]; rfl
          simp only [p_impl_Ring_classes_L2, e1, if_true, ht i j (by omega) hj, Option.bind_some, e2]
          rw [fs_min (n := n) (rb := rb) (k := j) (i := i) (by omega)]
          simp only [Bool.false_eq_true, if_false, Option.bind_some]) (by
          have e1 : (decide ((j : Int) < (j : Int)) && decide ((-1 : Int) < 0)) = false := by simp
          simp only [p_impl_Ring_classes_L2, e1, Bool.false_eq_true, if_false])
        exact this
    simp only [p_impl_Ring_classes_L1]
    rw [inner]
    simp only [Option.bind_some, onRes]
    by_cases hf : fsK n rb j < j
    · have hv : ¬ VK n rb j < 0 := by have := V_nonneg (n := n) (rb := rb) j; omega
      simp only [if_pos hf, hv, decide_false, Bool.false_eq_true, if_false, Option.bind_some]
      have e1 : cntK n rb (j + 1) = cntK n rb j := by simp only [cntK]; rw [if_neg (by omega)]; rfl
      have e2 : appL (vecG (VK n rb) j) [VK n rb j] = some (vecG (VK n rb) (j + 1)) := appL_range _ (by omega)
      rw [e2, e1]
      rfl
    · have ej : fsK n rb j = j := by omega
      simp only [if_neg hf, (by decide : decide ((-1 : Int) < 0) = true), if_true, Option.bind_some]
      have e1 : cntK n rb (j + 1) = cntK n rb j + 1 := by simp only [cntK]; rw [if_pos ej]
      have ev : ((cntK n rb j : Nat) : Int) = VK n rb j := by unfold VK; rw [ej]
      have e3 : w64 (((cntK n rb j : Nat) : Int) + 1) = ((cntK n rb (j + 1) : Nat) : Int) := by rw [w64_small (by omega) (by omega), e1]; rfl
      have e2 : appL (vecG (VK n rb) j) [((cntK n rb j : Nat) : Int)] = some (vecG (VK n rb) (j + 1)) := by rw [ev]; exact appL_range _ (by omega)
      rw [e3, e2]
      rfl)
  have this' : forN (R := Unit) (fun k s => p_impl_Ring_classes_L1 tog k s.1 s.2) n 0 (([] : List Int), (0 : Int)) = _ := this
  rw [this']
  rfl
end

/-! ### Cosets -/
/-- The labels of i times a set. -/
def cosW (T : List (List (List Int))) (m i : Nat) : Nat := orS m T.length (fun j => supp T i j)
def rbC (T : List (List (List Int))) (m i k : Nat) : Bool := (cosW T m i).testBit k
section
variable {T : List (List (List Int))}
theorem rbC_iff (m i k : Nat) : rbC T m i k = true ↔ ∃ j, j < T.length ∧ m.testBit j = true ∧ k < T.length ∧ 0 < at3 T i j k := by
  unfold rbC cosW
  rw [orS_bit]
  constructor
  · rintro ⟨j, h1, h2, h3⟩
    exact ⟨j, h1, h2, (supp_bit i j k).1 h3⟩
  · rintro ⟨j, h1, h2, h3⟩
    exact ⟨j, h1, h2, (supp_bit i j k).2 h3⟩

theorem cos_eqv (h : RingOK T) {m : Nat} (hm : spr T m = m) : Eqv T.length (rbC T m) := by
  have h0 : m.testBit 0 = true := by rw [← hm]; exact spr_zero m
  have hcl := (spr_fix_iff h0).1 hm
  have n1 := h.n1
  refine ⟨fun k hk => ?_, fun i k hi hk hr => ?_, fun i j k hi hj hk hr hr' => ?_⟩
  · refine (rbC_iff m k k).2 ⟨0, by omega, h0, hk, ?_⟩
    rw [(h.unit k hk k hk).2]; simp [dl]
  · obtain ⟨a, ha, hma, _, hp⟩ := (rbC_iff m i k).1 hr
    refine (rbC_iff m k i).2 ⟨(du T a).toNat, h.duN ha, (hcl a ha hma).1, hi, ?_⟩
    rw [← (h.turn i hi a ha k hk).2]; exact hp
  · obtain ⟨a, ha, hma, _, hp⟩ := (rbC_iff m i j).1 hr
    obtain ⟨b, hb, hmb, _, hq⟩ := (rbC_iff m j k).1 hr'
    obtain ⟨e, he, h1, h2⟩ := (h.assoc hi ha hb hk).1 ⟨j, hj, hp, hq⟩
    exact (rbC_iff m i k).2 ⟨e, he, (hcl a ha hma).2 b hb hmb e he h1, hk, h2⟩

theorem num_upd {f g : Nat → Int} {n k : Nat} {v : Int} (hk : k < n) (he : ∀ q, q < n → g q = if q = k then v else f q) : (vecG f n).set k v = vecG g n := by
  rw [vecG_set hk]
  exact vecG_congr fun q hq => (he q hq).symm
theorem specCosets (h : RingOK T) {m : Nat} (hm : m < 2 ^ T.length) (he : Eqv T.length (rbC T m)) : p_spec_l05Cosets T (m : Int) = some (vecG (VK T.length (rbC T m)) T.length) := by
  have hc := h.cube
  have hn := h.n16
  unfold p_spec_l05Cosets
  have s1 := forN_app (R := Unit) (N := T.length) (body := fun k s => p_spec_l05Cosets_L1 k s) (fun _ => (-1 : Int)) (fun j hj => by
    simp only [p_spec_l05Cosets_L1, app_range (fun _ => (-1 : Int)) (by omega : j ≤ 1048576), Option.bind_some])
  rw [s1]
  simp only [Option.bind_some, onRes]
  have s2 := forN_det (R := Unit) (N := T.length) (body := fun k s => p_spec_l05Cosets_L2 T (m : Int) k s.1 s.2) (fun i => (vecG (fun k => if fsK T.length (rbC T m) k < i then VK T.length (rbC T m) k else -1) T.length, ((cntK T.length (rbC T m) i : Nat) : Int))) (fun i hi => by
    have hle := he.fs_le hi
    have hcl := cntK_le T.length (rbC T m) i
    simp only [p_spec_l05Cosets_L2, vecG_idx hi, Option.bind_some]
    by_cases hf : fsK T.length (rbC T m) i < i
    · have hv : decide (VK T.length (rbC T m) i ≥ 0) = true := by simpa using V_nonneg (n := T.length) (rb := rbC T m) i
      have e1 : cntK T.length (rbC T m) (i + 1) = cntK T.length (rbC T m) i := by simp only [cntK]; rw [if_neg (by omega)]; rfl
      simp only [if_pos hf, hv, if_true, e1]
      congr 3
      refine vecG_congr fun k hk => ?_
      have : fsK T.length (rbC T m) k ≠ i := fun e => by
        have hr := he.fs_rel hk
        rw [e] at hr
        have := he.fs_eq hi hk hr
        omega
      have : fsK T.length (rbC T m) k < i + 1 ↔ fsK T.length (rbC T m) k < i := by omega
      simp only [this]
    · have ei : fsK T.length (rbC T m) i = i := by omega
      have e1 : cntK T.length (rbC T m) (i + 1) = cntK T.length (rbC T m) i + 1 := by simp only [cntK]; rw [if_pos ei]
      have ev : VK T.length (rbC T m) i = ((cntK T.length (rbC T m) i : Nat) : Int) := by unfold VK; rw [ei]
      have e3 : w64 (((cntK T.length (rbC T m) i : Nat) : Int) + 1) = ((cntK T.length (rbC T m) (i + 1) : Nat) : Int) := by rw [w64_small (by omega) (by omega), e1]; rfl
      have hneg : decide ((-1 : Int) ≥ 0) = false := by decide
      simp only [if_neg hf, hneg, Bool.false_eq_true, if_false]
      rw [e3]
      generalize hnum : ((cntK T.length (rbC T m) i : Nat) : Int) = num at *
      have s3 := forN_det (R := Unit) (N := T.length) (body := fun k s => p_spec_l05Cosets_L3 T (m : Int) i num k s) (fun j => vecG (fun k => if (orN (fun j => if m.testBit j = true then supp T i j else 0) j).testBit k = true then num else (if fsK T.length (rbC T m) k < i then VK T.length (rbC T m) k else -1)) T.length) (fun j hj => by
        have hb : p_spec_l05Bit (m : Int) (j : Int) = some (m.testBit j) := specBit (lt_pow_mono hm (by omega)) (by omega)
        simp only [p_spec_l05Cosets_L3]
        by_cases hmj : m.testBit j = true
        · have := whileC_det (R := Unit) (step := fun s => p_spec_l05Cosets_L4 T (m : Int) j i num s.1 s.2) T.length (fun k => (vecG (fun q => if ((orN (fun j => if m.testBit j = true then supp T i j else 0) j).testBit q = true ∨ (q < k ∧ 0 < at3 T i j q)) then num else (if fsK T.length (rbC T m) q < i then VK T.length (rbC T m) q else -1)) T.length, (k : Int))) (s' := (vecG (fun k => if (orN (fun j => if m.testBit j = true then supp T i j else 0) (j + 1)).testBit k = true then num else (if fsK T.length (rbC T m) k < i then VK T.length (rbC T m) k else -1)) T.length, (T.length : Int))) (fun k hk => by
            have e1 : decide ((k : Int) < (T.length : Int)) = true := by simpa using hk
            have e5 : w64 ((k : Int) + 1) = ((k + 1 : Nat) : Int) := by rw [w64_small (by omega) (by omega)]; rfl
            simp only [p_spec_l05Cosets_L4, e1, if_true, hb, Option.bind_some, hmj, hc.i1 hi, hc.i2 hi hj, hc.i3 hi hj hk, e5]
            by_cases hp : 0 < at3 T i j k
            · have e : decide (at3 T i j k > 0) = true := by simpa using hp
              simp only [e, if_true, vecG_idx hk, Option.bind_some, Int.toNat_natCast]
              congr 3
              refine num_upd hk fun q hq => ?_
              by_cases eq : q = k
              · subst eq
                rw [if_pos rfl, if_pos (.inr ⟨by omega, hp⟩)]
              · rw [if_neg eq]
                have : q < k + 1 ↔ q < k := by omega
                simp only [this]
            · have e : decide (at3 T i j k > 0) = false := by simpa using hp
              simp only [e, Bool.false_eq_true, if_false, Option.bind_some]
              congr 3
              refine vecG_congr fun q hq => ?_
              have : (q < k + 1 ∧ 0 < at3 T i j q) ↔ (q < k ∧ 0 < at3 T i j q) := by
                constructor
                · rintro ⟨h1, h2⟩
                  refine ⟨?_, h2⟩
                  by_cases eq : q = k
                  · subst eq; exact absurd h2 hp
                  · omega
                · rintro ⟨h1, h2⟩; exact ⟨by omega, h2⟩
              simp only [this]) (by
            have e1 : decide ((T.length : Int) < (T.length : Int)) = false := by simp
            simp only [p_spec_l05Cosets_L4, e1, Bool.false_eq_true, if_false, Option.bind_some]
            congr 3
            refine vecG_congr fun q hq => ?_
            have : ((orN (fun j => if m.testBit j = true then supp T i j else 0) j).testBit q = true ∨ (q < T.length ∧ 0 < at3 T i j q)) ↔ (orN (fun j => if m.testBit j = true then supp T i j else 0) (j + 1)).testBit q = true := by
              simp only [orN, Nat.testBit_or, Bool.or_eq_true, hmj, if_true, supp_bit]
            simp only [this])
          have e0 : vecG (fun q => if ((orN (fun j => if m.testBit j = true then supp T i j else 0) j).testBit q = true ∨ (q < 0 ∧ 0 < at3 T i j q)) then num else (if fsK T.length (rbC T m) q < i then VK T.length (rbC T m) q else -1)) T.length = vecG (fun k => if (orN (fun j => if m.testBit j = true then supp T i j else 0) j).testBit k = true then num else (if fsK T.length (rbC T m) k < i then VK T.length (rbC T m) k else -1)) T.length := vecG_congr fun q hq => by simp
          rw [e0] at this
          have this' : whileC (R := Unit) (fun s => p_spec_l05Cosets_L4 T (m : Int) j i num s.1 s.2) (vecG (fun k => if (orN (fun j => if m.testBit j = true then supp T i j else 0) j).testBit k = true then num else (if fsK T.length (rbC T m) k < i then VK T.length (rbC T m) k else -1)) T.length, (0 : Int)) = _ := this
          rw [this']
          rfl
        · have e0 : m.testBit j = false := by simpa using hmj
          rw [whileC_of (n := 1) (iterW_brk (s' := (vecG (fun k => if (orN (fun j => if m.testBit j = true then supp T i j else 0) j).testBit k = true then num else (if fsK T.length (rbC T m) k < i then VK T.length (rbC T m) k else -1)) T.length, (0 : Int))) (by
            simp only [p_spec_l05Cosets_L4, hb, e0]
            split <;> simp))]
          simp only [Option.bind_some, onRes]
          congr 2
          refine vecG_congr fun q hq => ?_
          simp only [orN, e0, Bool.false_eq_true, if_false, Nat.or_zero])
      have e0 : vecG (fun k => if (orN (fun j => if m.testBit j = true then supp T i j else 0) 0).testBit k = true then num else (if fsK T.length (rbC T m) k < i then VK T.length (rbC T m) k else -1)) T.length = vecG (fun k => if fsK T.length (rbC T m) k < i then VK T.length (rbC T m) k else -1) T.length := vecG_congr fun q hq => by simp [orN]
      rw [e0] at s3
      rw [s3]
      simp only [Option.bind_some, onRes]
      congr 3
      refine vecG_congr fun k hk => ?_
      have er : (orN (fun j => if m.testBit j = true then supp T i j else 0) T.length).testBit k = rbC T m i k := rfl
      rw [er]
      by_cases hr : rbC T m i k = true
      · have := he.fs_eq hi hk hr
        rw [if_pos hr, if_pos (by omega)]
        unfold VK
        rw [this, ei, hnum]
      · rw [if_neg hr]
        have : fsK T.length (rbC T m) k ≠ i := fun e => by
          have := he.fs_rel hk
          rw [e] at this; exact hr this
        have : fsK T.length (rbC T m) k < i + 1 ↔ fsK T.length (rbC T m) k < i := by omega
        simp only [this])
  have e0 : vecG (fun k => if fsK T.length (rbC T m) k < 0 then VK T.length (rbC T m) k else -1) T.length = List.map (fun _ => (-1 : Int)) (List.range T.length) := vecG_congr fun q hq => by simp
  simp only [e0] at s2
  have s2' : forN (R := Unit) (fun k s => p_spec_l05Cosets_L2 T (m : Int) k s.1 s.2) T.length 0 (List.map (fun _ => (-1 : Int)) (List.range T.length), (0 : Int)) = _ := s2
  rw [s2']
  simp only [Option.bind_some]
  congr 1
  refine vecG_congr fun k hk => ?_
  have := he.fs_le hk
  rw [if_pos (by omega)]
end
end Go.VG
