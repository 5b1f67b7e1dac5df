/- Paths that end in the unit: the code's closure beside the model's recursion. Plain. -/
import Derived.Test.YtbgebkgpodgjdaaPlEnds
import Derived.Test.YtbgebkgpodgjdaaPlClone
set_option linter.all false
namespace Go.VG
def castP (ls : List Nat) : List Int := ls.map fun (x : Nat) => (x : Int)
theorem castP_len (ls : List Nat) : (castP ls).length = ls.length := by simp [castP]
theorem castP_idx {ls : List Nat} {i : Nat} (h : i < ls.length) : idx (castP ls) (i : Int) = some ((ls.getD i 0 : Nat) : Int) := by
  rw [idx_getD _ 0 (by rw [castP_len]; exact h)]
  simp [castP, List.getD, List.getElem?_eq_getElem h]
theorem castP_app (ls : List Nat) (x : Nat) : castP (ls ++ [x]) = castP ls ++ [(x : Int)] := by simp [castP]
theorem own_any (l : List Int) (h : l.length ≤ 1048576) : p_spec_l01Own l = some l := by
  unfold p_spec_l01Own
  simp [appL]; omega
def tk (l : List (List Int)) : List (List Int) := l.take 2001
theorem tk_small {l : List (List Int)} (h : l.length ≤ 2001) : tk l = l := List.take_of_length_le h
theorem tk_len (l : List (List Int)) : (tk l).length ≤ 2001 := by unfold tk; rw [List.length_take]; omega
theorem tk_app (a b : List (List Int)) : tk (tk a ++ b) = tk (a ++ b) := by
  by_cases h : a.length ≤ 2001
  · rw [tk_small h]
  · unfold tk
    rw [List.take_append_of_le_length (by rw [List.length_take]; omega), List.take_append_of_le_length (by omega), List.take_take]
    simp
theorem tk_full {a b : List (List Int)} (h : 2000 < (tk a).length) : tk (a ++ b) = tk a := by
  unfold tk at *
  rw [List.length_take] at h
  rw [List.take_append_of_le_length (by omega)]
theorem tk_le {a : List (List Int)} (h : (tk a).length ≤ 2000) : tk a = a := by
  refine tk_small ?_
  unfold tk at h
  rw [List.length_take] at h
  omega
section
variable {T : List (List (List Int))} {Lb : List Int}
def lastL (ls : List Nat) : Nat := ls.getD (ls.length - 1) 0
def goes (T : List (List (List Int))) (Lb : List Int) (ls : List Nat) (c : Nat) : Bool := at3 T (lastL ls) (lb Lb ls.length) c != 0 && en T Lb ls.length c
/-- All ways to the end. -/
def comp (T : List (List (List Int))) (Lb : List Int) : Nat → List Nat → List (List Int)
  | 0, ls => [castP ls]
  | d + 1, ls => (List.range T.length).flatMap fun c => if goes T Lb ls c = true then comp T Lb d (ls ++ [c]) else []
def part (T : List (List (List Int))) (Lb : List Int) (d : Nat) (ls : List Nat) (k : Nat) : List (List Int) := (List.range k).flatMap fun c => if goes T Lb ls c = true then comp T Lb d (ls ++ [c]) else []
theorem part_succ (d : Nat) (ls : List Nat) (k : Nat) : part T Lb d ls (k + 1) = part T Lb d ls k ++ (if goes T Lb ls k = true then comp T Lb d (ls ++ [k]) else []) := by
  unfold part
  rw [List.range_succ, List.flatMap_append]
  simp
theorem comp_len : ∀ (d : Nat) (ls : List Nat) (x : List Int), x ∈ comp T Lb d ls → x.length = ls.length + d
  | 0, ls, x, h => by
    simp only [comp, List.mem_singleton] at h
    rw [h, castP_len]; rfl
  | d + 1, ls, x, h => by
    simp only [comp, List.mem_flatMap] at h
    obtain ⟨c, _, h⟩ := h
    split at h
    · rw [comp_len d _ x h, List.length_append]; simp; omega
    · cases h
/-- A path so far. -/
def LsP (T : List (List (List Int))) (ls : List Nat) : Prop := 1 ≤ ls.length ∧ ∀ x ∈ ls, x < T.length
theorem LsP.last {ls : List Nat} (h : LsP T ls) : lastL ls < T.length := h.2 _ (by
  have := h.1
  unfold lastL
  exact getD_mem (by omega))
theorem LsP.app {ls : List Nat} (h : LsP T ls) {c : Nat} (hc : c < T.length) : LsP T (ls ++ [c]) := by
  refine ⟨by rw [List.length_append]; simp, fun x hx => ?_⟩
  rcases List.mem_append.1 hx with hx | hx
  · exact h.2 x hx
  · simp at hx; subst hx; exact hc
theorem last_app (ls : List Nat) (c : Nat) : lastL (ls ++ [c]) = c := by
  unfold lastL
  rw [List.length_append]
  simp [List.getD]
theorem app_one (ls : List Nat) (c : Nat) (h : ls.length ≤ 1000) : appL (castP ls) [(c : Int)] = some (castP (ls ++ [c])) := by
  unfold appL
  rw [if_pos (by rw [castP_len]; simp only [List.length_cons, List.length_nil]; omega), castP_app]
theorem specGrow (hT : RingOK T) (h : LbOK T Lb) : ∀ (d k : Nat) (ls : List Nat) (list : List (List Int)), LsP T ls → ls.length + d = Lb.length → list.length ≤ 2000 → p_spec_l15Grow_F (d + 1 + k) T Lb (ends T Lb) (castP ls) list = some (tk (list ++ comp T Lb d ls))
  | 0, k, ls, list, hls, hl, hn => by
    rw [show 0 + 1 + k = k + 1 from by omega]
    show p_spec_l15Grow_B (p_spec_l15Grow_F k) T Lb (ends T Lb) (castP ls) list = _
    have e : (((castP ls).length : Int) == (Lb.length : Int)) = true := by rw [castP_len, beq_iff_eq]; omega
    unfold p_spec_l15Grow_B
    simp only [e, if_true]
    unfold appL
    rw [if_pos (by simp only [List.length_cons, List.length_nil]; omega)]
    show _ = some (tk (list ++ [castP ls]))
    rw [tk_small (by rw [List.length_append]; simp; omega)]
    rfl
  | d + 1, k, ls, list, hls, hl, hn => by
    rw [show d + 1 + 1 + k = (d + 1 + k) + 1 from by omega]
    show p_spec_l15Grow_B (p_spec_l15Grow_F (d + 1 + k)) T Lb (ends T Lb) (castP ls) list = _
    have hl8 := h.1
    have hcn := hT.cube.1
    have h1 := hls.1
    have hlast := hls.last
    have hil : ls.length < Lb.length := by omega
    have e : (((castP ls).length : Int) == (Lb.length : Int)) = false := by rw [castP_len, beq_eq_false_iff_ne]; omega
    unfold p_spec_l15Grow_B
    simp only [e, Bool.false_eq_true, if_false]
    have key : ∀ c b : Nat, b + c = T.length → ∃ n s, iterW (R := Unit) (fun s : List (List Int) × Int => p_spec_l15Grow_L1 T (castP ls) Lb (ends T Lb) (p_spec_l15Grow_F (d + 1 + k)) s.1 s.2) n (tk (list ++ part T Lb d ls b), (b : Int)) = some (.fin s) ∧ s.1 = tk (list ++ part T Lb d ls T.length) := by
      intro c
      induction c with
      | zero =>
        intro b hb
        have d1 : (decide ((b : Int) < (T.length : Int)) && decide (((tk (list ++ part T Lb d ls b)).length : Int) ≤ 2000)) = false := by
          have : decide ((b : Int) < (T.length : Int)) = false := decide_eq_false (by omega)
          rw [this]; rfl
        refine ⟨1, _, iterW_brk (s' := (tk (list ++ part T Lb d ls b), (b : Int))) ?_, by rw [show b = T.length from by omega]⟩
        show p_spec_l15Grow_L1 T (castP ls) Lb (ends T Lb) (p_spec_l15Grow_F (d + 1 + k)) (tk (list ++ part T Lb d ls b)) (b : Int) = _
        simp only [p_spec_l15Grow_L1, d1, Bool.false_eq_true, if_false]
      | succ c ih =>
        intro b hb
        by_cases hfull : 2000 < (tk (list ++ part T Lb d ls b)).length
        · have d1 : (decide ((b : Int) < (T.length : Int)) && decide (((tk (list ++ part T Lb d ls b)).length : Int) ≤ 2000)) = false := by
            have : decide (((tk (list ++ part T Lb d ls b)).length : Int) ≤ 2000) = false := decide_eq_false (by omega)
            rw [this, Bool.and_false]
          refine ⟨1, _, iterW_brk (s' := (tk (list ++ part T Lb d ls b), (b : Int))) ?_, ?_⟩
          · show p_spec_l15Grow_L1 T (castP ls) Lb (ends T Lb) (p_spec_l15Grow_F (d + 1 + k)) (tk (list ++ part T Lb d ls b)) (b : Int) = _
            simp only [p_spec_l15Grow_L1, d1, Bool.false_eq_true, if_false]
          · have hsplit : ∃ X, part T Lb d ls T.length = part T Lb d ls b ++ X := by
              have hq : ∀ q, ∃ X, part T Lb d ls (b + q) = part T Lb d ls b ++ X := fun q => by
                induction q with
                | zero => exact ⟨[], by simp⟩
                | succ q ihq =>
                  obtain ⟨X, hX⟩ := ihq
                  exact ⟨X ++ _, by rw [show b + (q + 1) = (b + q) + 1 from by omega, part_succ, hX, List.append_assoc]⟩
              have := hq (c + 1)
              rwa [hb] at this
            obtain ⟨X, hX⟩ := hsplit
            rw [hX, ← List.append_assoc, tk_full hfull]
        · have hbl : b < T.length := by omega
          have hle : (tk (list ++ part T Lb d ls b)).length ≤ 2000 := by omega
          have hid := tk_le hle
          have d1 : (decide ((b : Int) < (T.length : Int)) && decide (((tk (list ++ part T Lb d ls b)).length : Int) ≤ 2000)) = true := by
            have q1 : decide ((b : Int) < (T.length : Int)) = true := decide_eq_true (by omega)
            have q2 : decide (((tk (list ++ part T Lb d ls b)).length : Int) ≤ 2000) = true := decide_eq_true (by omega)
            rw [q1, q2]; rfl
          obtain ⟨n, s, e1, e2⟩ := ih (b + 1) (by omega)
          refine ⟨n + 1, s, iterW_next (s' := (tk (list ++ part T Lb d ls (b + 1)), ((b + 1 : Nat) : Int))) ?_ e1, e2⟩
          show p_spec_l15Grow_L1 T (castP ls) Lb (ends T Lb) (p_spec_l15Grow_F (d + 1 + k)) (tk (list ++ part T Lb d ls b)) (b : Int) = _
          have ew : w64 (((castP ls).length : Int) - 1) = ((ls.length - 1 : Nat) : Int) := by rw [castP_len, w64_small (by omega) (by omega)]; omega
          have ei : idx (castP ls) ((ls.length - 1 : Nat) : Int) = some ((lastL ls : Nat) : Int) := castP_idx (by omega)
          rw [castP_len] at ew
          have eb : w64 ((b : Int) + 1) = ((b + 1 : Nat) : Int) := by rw [w64_small (by omega) (by omega)]; omega
          simp only [p_spec_l15Grow_L1, d1, if_true, ew, ei, Option.bind_some, hT.cube.i1 hlast, castP_len, h.idx hil, hT.cube.i2 hlast (h.lt hil), hT.cube.i3 hlast (h.lt hil) hbl, ends_idx hil, rowE_idx hbl, eb, own_any (castP ls) (by rw [castP_len]; omega), app_one ls b (by omega)]
          have ih2 := specGrow hT h d k (ls ++ [b]) (tk (list ++ part T Lb d ls b)) (hls.app hbl) (by rw [List.length_append]; simp; omega) hle
          rw [ih2]
          rw [part_succ, ← List.append_assoc]
          unfold goes
          cases hz : (at3 T (lastL ls) (lb Lb ls.length) b != 0) with
          | false =>
            simp only [Bool.false_eq_true, if_false, Option.bind_some, Bool.false_and, List.append_nil]
          | true =>
            simp only [if_true, Option.bind_some, Bool.true_and]
            cases hen : en T Lb ls.length b with
            | false => simp only [Bool.false_eq_true, if_false, Option.bind_some, List.append_nil]
            | true => simp only [if_true, Option.bind_some, tk_app]
    obtain ⟨n, s, e1, e2⟩ := key T.length 0 (by omega)
    have e0 : tk (list ++ part T Lb d ls 0) = list := by
      rw [show part T Lb d ls 0 = [] from rfl, List.append_nil, tk_small (by omega)]
    rw [e0] at e1
    have e1' := whileC_of e1
    have e1'' : whileC (R := Unit) (fun s : List (List Int) × Int => p_spec_l15Grow_L1 T (castP ls) Lb (ends T Lb) (p_spec_l15Grow_F (d + 1 + k)) s.1 s.2) (list, (0 : Int)) = some (.fin s) := e1'
    rw [e1'']
    simp only [Option.bind_some, onRes, e2]
    rfl
theorem cut_back (ls : List Nat) (c : Nat) : cutL (castP (ls ++ [c])) (0 : Int) ((ls.length : Nat) : Int) = some (castP ls) := by
  unfold cutL
  rw [if_pos (by rw [castP_len, List.length_append]; simp only [List.length_cons, List.length_nil]; omega), castP_app]
  simp [castP]
theorem implGrow (hT : RingOK T) (h : LbOK T Lb) : ∀ (d k : Nat) (ls : List Nat) (out : List (List Int)), LsP T ls → ls.length + d = Lb.length → out.length ≤ 2001 →
    p_impl_FusionPaths_c1_F (d + 1 + k) (castP ls) (ends T Lb) out Lb T = some (castP ls, tk (out ++ if en T Lb (ls.length - 1) (lastL ls) = true then comp T Lb d ls else [])) := by
  intro d
  induction d with
  | zero =>
    intro k ls out hls hl hn
    rw [show 0 + 1 + k = k + 1 from by omega]
    show p_impl_FusionPaths_c1_B (p_impl_FusionPaths_c1_F k) (castP ls) (ends T Lb) out Lb T = _
    have hl8 := h.1
    have h1 := hls.1
    have hlast := hls.last
    have ew : w64 (((castP ls).length : Int) - 1) = ((ls.length - 1 : Nat) : Int) := by rw [castP_len, w64_small (by omega) (by omega)]; omega
    have ei : idx (castP ls) ((ls.length - 1 : Nat) : Int) = some ((lastL ls : Nat) : Int) := castP_idx (by omega)
    have e : (((castP ls).length : Int) == (Lb.length : Int)) = true := by rw [castP_len, beq_iff_eq]; omega
    unfold p_impl_FusionPaths_c1_B
    simp only [ew, ei, ends_idx (T := T) (Lb := Lb) (show ls.length - 1 < Lb.length by omega), rowE_idx hlast, Option.bind_some]
    cases hen : en T Lb (ls.length - 1) (lastL ls) with
    | false => simp only [Bool.not_false, Bool.true_or, if_true, Bool.false_eq_true, if_false, List.append_nil, tk_small hn]
    | true =>
      by_cases hf : out.length ≤ 2000
      · have df : decide ((out.length : Int) > 2000) = false := decide_eq_false (by omega)
        simp only [Bool.not_true, df, Bool.or_self, Bool.false_eq_true, if_false, e, if_true, clone1_eq (castP ls) (by rw [castP_len]; omega), Option.bind_some]
        unfold appL
        rw [if_pos (by simp only [List.length_cons, List.length_nil]; omega)]
        show _ = some (castP ls, tk (out ++ [castP ls]))
        rw [tk_small (by rw [List.length_append]; simp; omega)]
        rfl
      · have df : decide ((out.length : Int) > 2000) = true := decide_eq_true (by omega)
        simp only [Bool.not_true, df, Bool.false_or, if_true]
        rw [tk_full (by rw [tk_small hn]; omega), tk_small hn]
  | succ d ih =>
    intro k ls out hls hl hn
    rw [show d + 1 + 1 + k = (d + 1 + k) + 1 from by omega]
    show p_impl_FusionPaths_c1_B (p_impl_FusionPaths_c1_F (d + 1 + k)) (castP ls) (ends T Lb) out Lb T = _
    have hl8 := h.1
    have hcn := hT.cube.1
    have h1 := hls.1
    have hlast := hls.last
    have hil : ls.length < Lb.length := by omega
    have ew : w64 (((castP ls).length : Int) - 1) = ((ls.length - 1 : Nat) : Int) := by rw [castP_len, w64_small (by omega) (by omega)]; omega
    have ei : idx (castP ls) ((ls.length - 1 : Nat) : Int) = some ((lastL ls : Nat) : Int) := castP_idx (by omega)
    have e : (((castP ls).length : Int) == (Lb.length : Int)) = false := by rw [castP_len, beq_eq_false_iff_ne]; omega
    unfold p_impl_FusionPaths_c1_B
    simp only [ew, ei, ends_idx (T := T) (Lb := Lb) (show ls.length - 1 < Lb.length by omega), rowE_idx hlast, Option.bind_some]
    cases hen : en T Lb (ls.length - 1) (lastL ls) with
    | false => simp only [Bool.not_false, Bool.true_or, if_true, Bool.false_eq_true, if_false, List.append_nil, tk_small hn]
    | true =>
      by_cases hf : out.length ≤ 2000
      · have df : decide ((out.length : Int) > 2000) = false := decide_eq_false (by omega)
        have hrl := hT.cube.row hlast (h.lt hil)
        have en' : ((T.length : Int) - 0).toNat = T.length := by omega
        rw [castP_len] at e
        simp only [Bool.not_true, df, Bool.or_self, Bool.false_eq_true, if_false, e, if_true, hT.cube.i1 hlast, castP_len, h.idx hil, hT.cube.i2 hlast (h.lt hil), Option.bind_some, hrl, en']
        have := forN_det (R := Unit) (N := T.length) (body := fun c (s : List Int × List (List Int)) => p_impl_FusionPaths_c1_L1 ((T.getD (lastL ls) []).getD (lb Lb ls.length) []) (p_impl_FusionPaths_c1_F (d + 1 + k)) (ends T Lb) Lb T (castP ls) c s.1 s.2) (fun c => (castP ls, tk (out ++ part T Lb d ls c))) (fun c hc => by
          have e0 : (0 : Int) + (c : Int) = ((c : Nat) : Int) := by omega
          have ih2 := ih k (ls ++ [c]) (tk (out ++ part T Lb d ls c)) (hls.app hc) (by rw [List.length_append]; simp; omega) (tk_len _)
          have el : (ls ++ [c]).length - 1 = ls.length := by rw [List.length_append]; simp
          rw [last_app, el] at ih2
          show p_impl_FusionPaths_c1_L1 ((T.getD (lastL ls) []).getD (lb Lb ls.length) []) (p_impl_FusionPaths_c1_F (d + 1 + k)) (ends T Lb) Lb T (castP ls) c (castP ls) (tk (out ++ part T Lb d ls c)) = _
          simp only [p_impl_FusionPaths_c1_L1, e0, hT.cube.i3 hlast (h.lt hil) hc, Option.bind_some, app_one ls c (by omega), ih2, castP_len, cut_back]
          rw [part_succ, ← List.append_assoc, tk_app]
          unfold goes
          cases hz : (at3 T (lastL ls) (lb Lb ls.length) c != 0) with
          | false => simp only [Bool.false_eq_true, if_false, Option.bind_some, Bool.false_and, List.append_nil]
          | true => simp only [if_true, Option.bind_some, Bool.true_and])
        have e0 : tk (out ++ part T Lb d ls 0) = out := by
          rw [show part T Lb d ls 0 = [] from rfl, List.append_nil, tk_small hn]
        try dsimp only at this
        rw [e0] at this
        rw [this]
        rfl
      · have df : decide ((out.length : Int) > 2000) = true := decide_eq_true (by omega)
        simp only [Bool.not_true, df, Bool.false_or, if_true]
        rw [tk_full (by rw [tk_small hn]; omega), tk_small hn]
end
end Go.VG
