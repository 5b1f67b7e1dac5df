/- The sum over all labellings: the model's recursion and the code's loop give one number. Plain. -/
import Derived.Test.YtbgebkgpodgjdaaPlGSum
set_option linter.all false
namespace Go.VG
def NS (n : Nat) : Nat → (List Nat → Int) → Int
  | 0, f => f []
  | d + 1, f => sumN (fun i => NS n d (fun l => f (i :: l))) n
theorem own_all (l : List Int) (h : l.length ≤ 1048576) : p_spec_l01Own l = some l := by
  unfold p_spec_l01Own
  simp [appL]; omega
section
variable {T : List (List (List Int))} {G : List (List Int)} {E : Nat}
theorem edgesE (hG : GrOK G E) : w64 ((w64 ((G.length : Int) * 3)).tdiv 2) = (E : Int) := by
  have h1 := hG.two
  have h2 := hG.small
  rw [w64_small (x := (G.length : Int) * 3) (by omega) (by omega), Int.tdiv_eq_ediv_of_nonneg (by omega), w64_small (by omega) (by omega)]
  omega
theorem vp_w (hG : GrOK G E) (ls : List Nat) : w64 (vp T G E ls) = vp T G E ls := by
  have h1 := hG.two
  have h2 := hG.small
  obtain ⟨m, hm⟩ : ∃ m, G.length = m + 1 := ⟨G.length - 1, by omega⟩
  unfold vp
  rw [hm]
  exact w64_idem _
theorem specSum (hT : RingOK T) (hG : GrOK G E) : ∀ (d k : Nat) (ls : List Nat), ls.length + d = E → (∀ x ∈ ls, x < T.length) → p_spec_l15Sum_F (d + 1 + k) T (duL T) G (castL ls) = some (w64 (NS T.length d fun l => vp T G E (ls ++ l)))
  | 0, k, ls, hl, hx => by
    rw [show 0 + 1 + k = k + 1 from by omega]
    show p_spec_l15Sum_B (p_spec_l15Sum_F k) T (duL T) G (castL ls) = _
    have h2 := hG.small
    have hls : LsOK T E ls := ⟨by omega, hx⟩
    obtain ⟨s, e1, e2⟩ := specVal hT hG hls
    have ed : decide (((castL ls).length : Int) < (E : Int)) = false := by rw [castL_len]; exact decide_eq_false (by omega)
    unfold p_spec_l15Sum_B
    rw [edgesE hG, ed, mkL_some' false (by omega)]
    simp only [Bool.false_eq_true, if_false, Option.bind_some, e1, onRes, e2]
    show _ = some (w64 (vp T G E (ls ++ [])))
    rw [List.append_nil, vp_w hG]
  | d + 1, k, ls, hl, hx => by
    rw [show d + 1 + 1 + k = (d + 1 + k) + 1 from by omega]
    show p_spec_l15Sum_B (p_spec_l15Sum_F (d + 1 + k)) T (duL T) G (castL ls) = _
    have h2 := hG.small
    have hn := hT.cube.1
    have ed : decide (((castL ls).length : Int) < (E : Int)) = true := by rw [castL_len]; exact decide_eq_true (by omega)
    unfold p_spec_l15Sum_B
    rw [edgesE hG, ed]
    simp only [if_true]
    have := forN_det (R := Unit) (N := T.length) (body := fun i s => p_spec_l15Sum_L1 (castL ls) (p_spec_l15Sum_F (d + 1 + k)) T (duL T) G i s) (fun i => w64 (sumN (fun i => NS T.length d (fun l => vp T G E (ls ++ (i :: l)))) i)) (fun i hi => by
      have ea : appL (castL ls) [(i : Int)] = some (castL (ls ++ [i])) := by
        unfold appL
        rw [if_pos (by rw [castL_len]; simp only [List.length_cons, List.length_nil]; omega)]
        simp [castL]
      have ih := specSum hT hG d k (ls ++ [i]) (by rw [List.length_append]; simp only [List.length_cons, List.length_nil]; omega) (fun x hx' => by
        rcases List.mem_append.1 hx' with h | h
        · exact hx x h
        · simp at h; subst h; exact hi)
      simp only [p_spec_l15Sum_L1, own_all (castL ls) (by rw [castL_len]; omega), ea, ih, Option.bind_some]
      rw [w64_add]
      have e : (fun l => vp T G E (ls ++ [i] ++ l)) = fun l => vp T G E (ls ++ (i :: l)) := funext fun l => by rw [List.append_assoc]; rfl
      rw [e]
      rfl)
    have e0 : w64 (sumN (fun i => NS T.length d (fun l => vp T G E (ls ++ (i :: l)))) 0) = 0 := (w64_small (x := 0) (by decide) (by decide) : w64 0 = 0)
    try dsimp only at this
    rw [e0] at this
    rw [this]
    rfl

/-! ### Labellings by their codes -/
def dig (n : Nat) : Nat → Nat → List Nat
  | 0, _ => []
  | e + 1, c => (c % n) :: dig n e (c / n)
theorem dig_len (n : Nat) : ∀ e c, (dig n e c).length = e
  | 0, _ => rfl
  | e + 1, c => by simp [dig, dig_len n e]
theorem dig_lt {n : Nat} (hn : 1 ≤ n) : ∀ e c, ∀ x ∈ dig n e c, x < n
  | 0, _, x, h => by cases h
  | e + 1, c, x, h => by
    simp only [dig, List.mem_cons] at h
    rcases h with rfl | h
    · exact Nat.mod_lt _ hn
    · exact dig_lt hn e _ x h
theorem dig_at (n : Nat) : ∀ e c, dig n e c = (List.range e).map fun q => c / n ^ q % n
  | 0, _ => rfl
  | e + 1, c => by
    rw [dig, dig_at n e, List.range_succ_eq_map, List.map_cons, List.map_map]
    congr 1
    · simp
    · refine List.map_congr_left fun q _ => ?_
      simp only [Function.comp, Nat.pow_succ]
      rw [Nat.div_div_eq_div_mul, Nat.mul_comm]
theorem sumN_app (g : Nat → Int) (a : Nat) : ∀ b, sumN g (a + b) = sumN g a + sumN (fun i => g (a + i)) b
  | 0 => by simp [sumN]
  | b + 1 => by
    show sumN g (a + b) + g (a + b) = _
    rw [sumN_app g a b]
    simp only [sumN]
    omega
theorem sumN_mulB (g : Nat → Int) (n : Nat) : ∀ M, sumN g (M * n) = sumN (fun c => sumN (fun i => g (c * n + i)) n) M
  | 0 => by simp [sumN]
  | M + 1 => by
    rw [Nat.succ_mul, sumN_app, sumN_mulB g n M]
    rfl
theorem NS_code {n : Nat} (hn : 1 ≤ n) : ∀ (e : Nat) (f : List Nat → Int), NS n e f = sumN (fun c => f (dig n e c)) (n ^ e)
  | 0, f => by simp [NS, sumN, dig]
  | e + 1, f => by
    rw [NS, Nat.pow_succ, sumN_mulB, ← sumN_swap]
    refine sumN_congr fun i hi => ?_
    rw [NS_code hn e]
    refine sumN_congr fun c hc => ?_
    show f (i :: dig n e c) = f (((c * n + i) % n) :: dig n e ((c * n + i) / n))
    have e1 : (c * n + i) % n = i := by rw [Nat.mul_comm, Nat.mul_add_mod]; exact Nat.mod_eq_of_lt hi
    have e2 : (c * n + i) / n = c := by
      rw [Nat.mul_comm, Nat.mul_add_div hn, Nat.div_eq_of_lt hi, Nat.add_zero]
    rw [e1, e2]
theorem implDig (hT : RingOK T) (hG : GrOK G E) {c : Nat} (hc : c ≤ 300000) : ∃ x, forN (R := Unit) (fun k (s : List Int × Int) => p_impl_GraphDimension_L2 T k s.1 s.2) (List.replicate E (0 : Int)).length 0 (List.replicate E (0 : Int), (c : Int)) = some (.fin (castL (dig T.length E c), x)) := by
  have hn := hT.cube.1
  have h2 := hG.small
  have := forN_det (R := Unit) (N := E) (body := fun k (s : List Int × Int) => p_impl_GraphDimension_L2 T k s.1 s.2) (fun k => (vecG (fun q => if q < k then ((c / T.length ^ q % T.length : Nat) : Int) else 0) E, ((c / T.length ^ k : Nat) : Int))) (fun k hk => by
    show p_impl_GraphDimension_L2 T k (vecG (fun q => if q < k then ((c / T.length ^ q % T.length : Nat) : Int) else 0) E) ((c / T.length ^ k : Nat) : Int) = _
    have hle : c / T.length ^ k ≤ c := Nat.div_le_self _ _
    simp only [p_impl_GraphDimension_L2, remN (k := c / T.length ^ k) hn.1, quoN (k := c / T.length ^ k) hn.1 (by omega), Option.bind_some, show idx (vecG (fun q => if q < k then ((c / T.length ^ q % T.length : Nat) : Int) else 0) E) (k : Int) = _ from vecG_idx hk, Int.toNat_natCast]
    have es : (vecG (fun q => if q < k then ((c / T.length ^ q % T.length : Nat) : Int) else 0) E).set k ((c / T.length ^ k % T.length : Nat) : Int) = vecG (fun q => if q < k + 1 then ((c / T.length ^ q % T.length : Nat) : Int) else 0) E := by
      rw [vecG_set hk]
      refine vecG_congr fun q hq => ?_
      simp only [up1]
      by_cases h : q = k
      · subst h; rw [if_pos rfl, if_pos (by omega)]
      · rw [if_neg h]
        by_cases h3 : q < k
        · rw [if_pos h3, if_pos (by omega)]
        · rw [if_neg h3, if_neg (by omega)]
    rw [es, Nat.div_div_eq_div_mul, ← Nat.pow_succ])
  have e0 : vecG (fun q => if q < 0 then ((c / T.length ^ q % T.length : Nat) : Int) else 0) E = List.replicate E 0 := by
    unfold vecG
    apply List.ext_getElem
    · simp
    · intro i h1 h2; simp
  have e1 : vecG (fun q => if q < E then ((c / T.length ^ q % T.length : Nat) : Int) else 0) E = castL (dig T.length E c) := by
    rw [dig_at]
    unfold castL vecG
    rw [List.map_map]
    refine List.map_congr_left fun q hq => ?_
    have hq' : q < E := by simpa using hq
    simp [hq']
  try dsimp only at this
  rw [e0, e1] at this
  refine ⟨((c / T.length ^ E : Nat) : Int), ?_⟩
  rw [List.length_replicate]
  simp only [Nat.pow_zero, Nat.div_one] at this
  exact this
theorem implSum (hT : RingOK T) (hG : GrOK G E) (hm : T.length ^ E ≤ 300000) : forN (R := Unit) (fun k s => p_impl_GraphDimension_L1 G T (duL T) k s) (T.length ^ E) 0 (0 : Int) = some (.fin (w64 (NS T.length E fun l => vp T G E l))) := by
  have hn := hT.cube.1
  have h2 := hG.small
  have := forN_det (R := Unit) (N := T.length ^ E) (body := fun k s => p_impl_GraphDimension_L1 G T (duL T) k s) (fun c => w64 (sumN (fun c => vp T G E (dig T.length E c)) c)) (fun c hc => by
    obtain ⟨x, e1⟩ := implDig hT hG (c := c) (by omega)
    have hls : LsOK T E (dig T.length E c) := ⟨dig_len _ _ _, dig_lt hn.1 _ _⟩
    simp only [p_impl_GraphDimension_L1, edgesE hG, mkL_some' (0 : Int) (show ((E : Nat) : Int) ≤ 1048576 by omega), mkL_some' false (show ((E : Nat) : Int) ≤ 1048576 by omega), Option.bind_some, e1, onRes, implVal hT hG hls]
    rw [w64_addL]
    rfl)
  have e0 : w64 (sumN (fun c => vp T G E (dig T.length E c)) 0) = 0 := (w64_small (x := 0) (by decide) (by decide) : w64 0 = 0)
  try dsimp only at this
  rw [e0] at this
  rw [this, NS_code hn.1]
end
end Go.VG
