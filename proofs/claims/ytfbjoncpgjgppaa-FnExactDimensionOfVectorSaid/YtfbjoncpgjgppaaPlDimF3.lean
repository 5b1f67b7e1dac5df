/- The code's whole dimensions: what they are. Plain. -/
import Derived.Test.YtfbjoncpgjgppaaPlDimF2
import Derived.Test.YtfbjoncpgjgppaaPlDimS2
import Derived.Test.YtfbjoncpgjgppaaPlRound
set_option linter.all false
namespace Go.VG
open Ieee
attribute [local irreducible] uU uUS
theorem repeat_flt {n : Nat} (h0 : 1 ≤ n) (h1 : n ≤ 16) : p_slices_Repeat_Lfloat64_float64 [4607182418800017408] (n : Int) = some (List.replicate n 4607182418800017408) := by
  have key : ∀ m : Nat, p_math_bits_Mul (IntKind.u64.wrap (([4607182418800017408] : List Int).length : Int)) (IntKind.u64.wrap (m : Int)) = some (0, (m : Int)) → mkL (w64 (m : Int)) (0 : Int) = some (List.replicate m 0) →
      iterW (R := Unit) (fun s : List Int × Int => p_slices_Repeat_Lfloat64_float64_L1 s.1 s.2) 8 ((cpyL (List.replicate m 0) (0 : Int) [4607182418800017408]), (cpyN (List.replicate m (0 : Int)) (0 : Int) [(4607182418800017408 : Int)])) = some (.fin (List.replicate m 4607182418800017408, (m : Int))) → m ≤ 16 → p_slices_Repeat_Lfloat64_float64 [4607182418800017408] (m : Int) = some (List.replicate m 4607182418800017408) := by
    intro m e1 e2 e3 hm
    unfold p_slices_Repeat_Lfloat64_float64
    have c1 : decide ((m : Int) < 0) = false := by simp
    have c2 : (decide ((0 : Int) > 0) || decide ((m : Int) > 9223372036854775807)) = false := by simp; omega
    simp only [c1, e1, c2, Bool.false_eq_true, if_false, Option.bind_some, e2]
    rw [whileC_of e3]
    rfl
  rcases (by omega : n = 1 ∨ n = 2 ∨ n = 3 ∨ n = 4 ∨ n = 5 ∨ n = 6 ∨ n = 7 ∨ n = 8 ∨ n = 9 ∨ n = 10 ∨ n = 11 ∨ n = 12 ∨ n = 13 ∨ n = 14 ∨ n = 15 ∨ n = 16) with h | h | h | h | h | h | h | h | h | h | h | h | h | h | h | h <;> subst h <;> exact key _ (by rfl) (by rfl) (by rfl) (by omega)
theorem fv_one_gen (S : Nat) (hS : S = 1074) : fv 4607182418800017408 = uU := by
  have hUpow := uU_gen S hS
  have e52 : (2 : Nat) ^ 52 = 4503599627370496 := by decide
  have := fv_word (e := 1022) (k := 4503599627370496) (by decide) (by decide)
  rw [show 1022 * 4503599627370496 + 4503599627370496 = 4607182418800017408 by decide] at this
  have h9 := pow_split (a := 52) (b := 1022) hUpow (by omega)
  rw [e52] at h9
  exact this.trans h9.symm
theorem near_int {A B C P : Nat} (h1 : 1125899906842624 * A ≤ 1125899906842625 * B) (h2 : 1125899906842624 * B ≤ 1125899906842625 * A) (h3 : 1000000000000000000 * B ≤ 1000000000004000000 * P) (h4 : 1000000000000000000 * P ≤ 1000000000004000000 * B) (h5 : P ≤ 16000 * C) (hC : 0 < C) : 2 * A < 2 * P + C ∧ 2 * P ≤ 2 * A + C := by
  omega
theorem quo_le {A B C : Nat} (h1 : 1125899906842624 * A ≤ 1125899906842625 * B) (h2 : B ≤ 16001 * C) : A ≤ 20000 * C := by omega
section
variable {T : List (List (List Int))}
theorem one_guess (h : RingOK T) {b : Nat → Nat} (hb : Wf T b) (hN : ∀ d, DimZ T d → Nr T.length d (fW b) 1000000000004000000 1000000000000000000) {j : Nat} (hj : j < T.length) :
    ∃ R : Nat, ∃ q r : Nat, fQuo (b j : Int) (b 0 : Int) = some (q : Int) ∧ p_math_Round (q : Int) = some (r : Int) ∧ fTo (r : Int) = some (R : Int) ∧ R ≤ 20000 ∧ ∀ d, DimZ T d → d j = (R : Int) := by
  have hU := uU_pos
  have l1 := hb.lo j hj; have l2 := hb.lo 0 h.n0
  have u1 := hb.hi j hj; have u2 := hb.hi 0 h.n0
  have p1 : 0 < b j := by
    rcases Nat.eq_zero_or_pos (b j) with e | e
    · rw [e, fv_zero] at l1; omega
    · exact e
  have p2 : 0 < b 0 := by
    rcases Nat.eq_zero_or_pos (b 0) with e | e
    · rw [e, fv_zero] at l2; omega
    · exact e
  obtain ⟨q, eq, fq, _, c1, c2⟩ := divU (hb.fin j hj) (hb.fin 0 h.n0) p1 p2 (by omega) (by omega)
  have hY : 0 < fv (b 0) := fv_pos p2
  have hf := hb.first j hj
  have hq : fv q ≤ 20000 * uU := by
    have a1 := Nat.mul_le_mul_right uU hf
    rw [Nat.mul_assoc] at a1
    have a2 := quo_le c1 a1
    apply Nat.le_of_mul_le_mul_right (c := fv (b 0)) _ hY
    rw [Nat.mul_assoc, Nat.mul_comm uU]; exact a2
  obtain ⟨r, er, fr, hr⟩ := round_ok fq hq
  have hR : (2 * fv q + uU) / (2 * uU) ≤ 20000 := by
    have : (2 * fv q + uU) / (2 * uU) < 20001 := by
      rw [Nat.div_lt_iff_lt_mul (by omega)]; omega
    omega
  refine ⟨(2 * fv q + uU) / (2 * uU), q, r, fQuoN eq, er, fTo_whole fr hr (by omega), hR, fun d hd => ?_⟩
  have N1 := hN d hd 0 h.n0 j hj
  have N2 := hN d hd j hj 0 h.n0
  obtain ⟨_, hD, _⟩ := hd.top
  have d1 := hd.pos j hj
  have d2 : d j ≤ 16000 := by
    obtain ⟨D, hD, _, hD2, _⟩ := hd.top
    have := hD j hj
    omega
  obtain ⟨D, hDj⟩ : ∃ D : Nat, d j = (D : Int) := ⟨(d j).toNat, by omega⟩
  rw [hd.zero, Int.mul_one, hDj] at N1 N2
  unfold fW at N1 N2
  have q1 : ((fv (b 0) : Nat) : Int) * (D : Int) = ((fv (b 0) * D : Nat) : Int) := (Int.natCast_mul _ _).symm
  rw [q1] at N1 N2
  have M1 : 1000000000000000000 * fv (b j) ≤ 1000000000004000000 * (fv (b 0) * D) := by omega
  have M2 : 1000000000000000000 * (fv (b 0) * D) ≤ 1000000000004000000 * fv (b j) := by omega
  have M3 := Nat.mul_le_mul_right uU M1
  have M4 := Nat.mul_le_mul_right uU M2
  rw [Nat.mul_assoc, Nat.mul_assoc 1000000000004000000] at M3 M4
  have M5 : fv (b 0) * D * uU ≤ 16000 * (fv (b 0) * uU) := by
    have := Nat.mul_le_mul_right uU (Nat.mul_le_mul_left (fv (b 0)) (show D ≤ 16000 by omega))
    rwa [Nat.mul_comm (fv (b 0)) 16000, Nat.mul_assoc 16000] at this
  obtain ⟨g1, g2⟩ := near_int c1 c2 M3 M4 M5 (Nat.mul_pos hY hU)
  have z1 : D * (2 * uU) * fv (b 0) = 2 * (fv (b 0) * D * uU) := by ac_rfl
  have z2 : (2 * fv q + uU) * fv (b 0) = 2 * (fv q * fv (b 0)) + fv (b 0) * uU := by rw [Nat.add_mul, Nat.mul_assoc, Nat.mul_comm uU]
  have z3 : (D + 1) * (2 * uU) * fv (b 0) = 2 * (fv (b 0) * D * uU) + 2 * (fv (b 0) * uU) := by
    have z4 : 2 * uU * fv (b 0) = 2 * (fv (b 0) * uU) := by ac_rfl
    rw [Nat.add_mul, Nat.add_mul, z1, Nat.one_mul, z4]
  have zz : (2 * fv q + uU) / (2 * uU) = D := by
    apply Nat.div_eq_of_lt_le
    · apply Nat.le_of_mul_le_mul_right (c := fv (b 0)) _ hY
      rw [z1, z2]; exact g2
    · apply Nat.lt_of_mul_lt_mul_right (a := fv (b 0))
      rw [z2, z3]; omega
  rw [hDj, zz]
theorem near_guess (h : RingOK T) : ∃ l, Guess T l ∧ p_impl_Ring_nearDimensions T = some l := by
  have hn := h.cube.1
  have hU := uU_pos
  have f1 := fv_one_gen 1074 rfl
  have h0 : Wf T (fun _ => 4607182418800017408) := ⟨fun k hk => by unfold Fin0; decide, fun k hk => by rw [f1]; omega, fun k hk => by rw [f1]; omega, fun k hk => by rw [f1]; omega⟩
  obtain ⟨b, e, hb, hN⟩ := wf_all h h0 (c := uU) (fun k hk => f1)
  have hc : ∀ j, ∃ R : Nat, j < T.length → ∃ q r : Nat, fQuo (b j : Int) (b 0 : Int) = some (q : Int) ∧ p_math_Round (q : Int) = some (r : Int) ∧ fTo (r : Int) = some (R : Int) ∧ R ≤ 20000 ∧ ∀ d, DimZ T d → d j = (R : Int) := fun j => by
    by_cases hj : j < T.length
    · obtain ⟨R, g⟩ := one_guess h hb hN hj
      exact ⟨R, fun _ => g⟩
    · exact ⟨0, fun hh => absurd hh hj⟩
  obtain ⟨R, hR⟩ := Classical.axiomOfChoice hc
  refine ⟨vecG (fun j => (R j : Int)) T.length, ⟨vecG_len, fun i hi => ?_, fun d hd i hi => ?_⟩, ?_⟩
  · rw [vecG_getD hi]
    obtain ⟨_, _, _, _, _, g, _⟩ := hR i hi
    omega
  · rw [vecG_getD hi]
    obtain ⟨_, _, _, _, _, _, g⟩ := hR i hi
    exact (g d hd).symm
  · unfold p_impl_Ring_nearDimensions
    have e0 : List.replicate T.length (4607182418800017408 : Int) = bL (fun _ => 4607182418800017408) T.length := by
      unfold bL
      refine List.ext_getElem (by simp [vecG_len]) fun i h1 h2 => ?_
      simp [vecG]
    rw [repeat_flt (by omega) (by omega), e0]
    simp only [Option.bind_some]
    have e' : forN (R := Unit) (fun k s => p_impl_Ring_nearDimensions_L1 T k s) ((3000 : Int)).toNat 0 (bL (fun _ => 4607182418800017408) T.length) = _ := e
    rw [e']
    have el : (bL b T.length).length = T.length := vecG_len
    simp only [Option.bind_some, onRes, el]
    have s2 := forN_app (R := Unit) (N := T.length) (body := fun k s => p_impl_Ring_nearDimensions_L7 (bL b T.length) k s) (fun j => (R j : Int)) (fun j hj => by
      obtain ⟨q, r, g1, g2, g3, _⟩ := hR j hj
      have i0 : idx (bL b T.length) (0 : Int) = some ((b 0 : Nat) : Int) := bL_idx (i := 0) h.n0
      simp only [p_impl_Ring_nearDimensions_L7, bL_idx hj, i0, Option.bind_some, g1, g2, g3, app_range (fun j => (R j : Int)) (by omega : j ≤ 1048576)])
    rw [s2]
    simp only [Option.bind_some, onRes]
    have en : (List.map (fun j => (R j : Int)) (List.range T.length)).isEmpty = false := by
      rw [List.isEmpty_eq_false_iff]
      intro hh
      have := congrArg List.length hh
      rw [List.length_map, List.length_range, List.length_nil] at this
      omega
    rw [en]
    rfl
end
end Go.VG
