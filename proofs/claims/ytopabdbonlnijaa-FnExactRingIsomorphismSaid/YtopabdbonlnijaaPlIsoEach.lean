/- The code's search, which hands each isomorphism to a function until one is enough. Plain. -/
import Derived.Test.YtopabdbonlnijaaPlIsoSeek
set_option linter.all false
namespace Go.VG
def runL {σ : Type} (gp : List Int → σ → Option (Bool × σ)) : List (List Int) → σ → Option (Bool × σ)
  | [], s => some (false, s)
  | l :: ls, s => (gp l s).bind fun x => if x.1 = true then some (true, x.2) else runL gp ls x.2
theorem runL_app {σ : Type} (gp : List Int → σ → Option (Bool × σ)) : ∀ (a b : List (List Int)) (s : σ), runL gp (a ++ b) s = (runL gp a s).bind fun x => if x.1 = true then some (true, x.2) else runL gp b x.2
  | [], b, s => by simp [runL]
  | l :: a, b, s => by
    simp only [List.cons_append, runL]
    cases h : gp l s with
    | none => rfl
    | some x =>
      simp only [Option.bind_some]
      by_cases e : x.1 = true
      · rw [if_pos e, if_pos e]; rfl
      · rw [if_neg e, if_neg e]; exact runL_app gp a b x.2
section
variable {T S : List (List (List Int))} (hT : Cube T) (hS : Cube S) (hn : T.length = S.length) {σ : Type} {gp : List Int → σ → Option (Bool × σ)}
include hT hS hn
theorem cut_last (p : List Nat) (q : Nat) (h : p.length ≤ 16) : cutL (castL (p ++ [q])) (0 : Int) (w64 (((castL (p ++ [q])).length : Int) - 1)) = some (castL p) := by
  have e : w64 (((castL (p ++ [q])).length : Int) - 1) = (p.length : Int) := by
    rw [castL_len, List.length_append, List.length_singleton, w64_small (by omega) (by omega)]; omega
  rw [e, cut_take _ (by rw [castL_len]; simp), castL_app, List.take_append_of_le_length (by rw [castL_len]; omega), List.take_of_length_le (by rw [castL_len]; omega)]
/-- One round. -/
theorem each_skip {rf : List Int → σ → Int → List (List (List Int)) → List (List (List Int)) → (List Int → σ → Option (Bool × σ)) → Option (Bool × List Int × σ)} {p : List Nat} {q : Nat} {s : σ}
    (h : q ∈ p ∨ ¬ (p.length = 0 ↔ q = 0)) : p_impl_eachIsomorphism_c1_L1 T S rf (T.length : Int) gp q (castL p) s = some (.next (castL p, s)) := by
  obtain ⟨b1, e1, hb1⟩ := implHas p q
  unfold p_impl_eachIsomorphism_c1_L1
  rw [e1, Option.bind_some, castL_len]
  have hc : (b1 || (((p.length : Int) == (0 : Int)) != ((q : Int) == (0 : Int)))) = true := by
    rcases h with h | h
    · rw [hb1.2 h]; rfl
    · by_cases h1 : p.length = 0
      · have h2 : q ≠ 0 := fun e => h ⟨fun _ => e, fun _ => h1⟩
        have e3 : ((p.length : Int) == (0 : Int)) = true := by rw [beq_iff_eq]; omega
        have e4 : ((q : Int) == (0 : Int)) = false := by rw [beq_eq_false_iff_ne]; omega
        rw [e3, e4]; simp
      · have h2 : q = 0 := Classical.byContradiction fun e => h ⟨fun h3 => absurd h3 h1, fun h3 => absurd h3 e⟩
        have e3 : ((p.length : Int) == (0 : Int)) = false := by rw [beq_eq_false_iff_ne]; omega
        have e4 : ((q : Int) == (0 : Int)) = true := by rw [beq_iff_eq]; omega
        rw [e3, e4]; simp
  rw [if_pos hc]
theorem each_go {rf : List Int → σ → Int → List (List (List Int)) → List (List (List Int)) → (List Int → σ → Option (Bool × σ)) → Option (Bool × List Int × σ)} {p : List Nat} {q : Nat} {s : σ}
    (hl : p.length < T.length) (hne : q ∉ p) (hz : p.length = 0 ↔ q = 0) :
    p_impl_eachIsomorphism_c1_L1 T S rf (T.length : Int) gp q (castL p) s = ((p_impl_fitsNext T S (castL (p ++ [q]))).bind fun x72 =>
      if x72 = true then (rf (castL (p ++ [q])) s (T.length : Int) T S gp).bind fun x79 => some (x79.2.1, x79.2.2, x79.1) else some (castL (p ++ [q]), s, false)).bind fun ⟨x68, x69, x70⟩ =>
      if x70 = true then some (.ret (true, x68, x69)) else (cutL x68 (0 : Int) (w64 (((x68).length : Int) - (1 : Int)))).bind fun x101 => some (.next (x101, x69)) := by
  have h1 := hT.1
  obtain ⟨b1, e1, hb1⟩ := implHas p q
  have hb : b1 = false := by
    cases b1 with
    | false => rfl
    | true => exact absurd (hb1.1 rfl) hne
  subst hb
  unfold p_impl_eachIsomorphism_c1_L1
  rw [e1, Option.bind_some]
  have hc : ((((castL p).length : Int) == (0 : Int)) != ((q : Int) == (0 : Int))) = false := by
    rw [castL_len]
    by_cases h2 : p.length = 0
    · have h3 := hz.1 h2
      subst h3
      rw [h2]; rfl
    · have h3 : q ≠ 0 := fun e => h2 (hz.2 e)
      have e3 : ((p.length : Int) == (0 : Int)) = false := by rw [beq_eq_false_iff_ne]; omega
      have e4 : ((q : Int) == (0 : Int)) = false := by rw [beq_eq_false_iff_ne]; omega
      rw [e3, e4]; rfl
  rw [hc]
  simp only [Bool.or_false, Bool.false_eq_true, if_false]
  rw [app_ok (by rw [castL_len]; simp; omega), Option.bind_some, ← castL_app]
theorem each_not {rf : List Int → σ → Int → List (List (List Int)) → List (List (List Int)) → (List Int → σ → Option (Bool × σ)) → Option (Bool × List Int × σ)} {p : List Nat} {q : Nat} {s : σ}
    (hl : p.length < T.length) (hb : Beg T S (p ++ [q])) (hne : q ∉ p) (hz : p.length = 0 ↔ q = 0) (hf : ¬ Fit T S (p ++ [q])) :
    p_impl_eachIsomorphism_c1_L1 T S rf (T.length : Int) gp q (castL p) s = some (.next (castL p, s)) := by
  have h1 := hT.1
  rw [each_go hT hS hn hl hne hz]
  obtain ⟨b, e, hbb⟩ := implFits hT hS hb
  have : b = false := by
    cases b with
    | false => rfl
    | true => exact absurd (hbb.1 rfl) hf
  subst this
  rw [e]
  simp only [Option.bind_some, Bool.false_eq_true, if_false]
  rw [cut_last hT hS hn p q (by omega)]
  rfl
theorem each_fit {rf : List Int → σ → Int → List (List (List Int)) → List (List (List Int)) → (List Int → σ → Option (Bool × σ)) → Option (Bool × List Int × σ)} {p : List Nat} {q : Nat} {s s1 : σ} {b : Bool}
    (hl : p.length < T.length) (hb : Beg T S (p ++ [q])) (hne : q ∉ p) (hz : p.length = 0 ↔ q = 0) (hf : Fit T S (p ++ [q]))
    (hrf : ∃ p', rf (castL (p ++ [q])) s (T.length : Int) T S gp = some (b, p', s1) ∧ (b = false → p' = castL (p ++ [q]))) :
    (b = true → ∃ p', p_impl_eachIsomorphism_c1_L1 T S rf (T.length : Int) gp q (castL p) s = some (.ret (true, p', s1))) ∧ (b = false → p_impl_eachIsomorphism_c1_L1 T S rf (T.length : Int) gp q (castL p) s = some (.next (castL p, s1))) := by
  have h1 := hT.1
  rw [each_go hT hS hn hl hne hz]
  obtain ⟨b2, e, hbb⟩ := implFits hT hS hb
  have : b2 = true := hbb.2 hf
  subst this
  obtain ⟨p', h2, h3⟩ := hrf
  rw [e]
  simp only [Option.bind_some, if_true, h2]
  constructor
  · intro hb1
    subst hb1
    exact ⟨p', rfl⟩
  · intro hb1
    subst hb1
    rw [h3 rfl]
    simp only [Bool.false_eq_true, if_false]
    rw [cut_last hT hS hn p q (by omega)]
    rfl
theorem each_round {d : Nat} {p : List Nat} (hv : Val T S p) (hd : p.length + (d + 1) = T.length) {rf : List Int → σ → Int → List (List (List Int)) → List (List (List Int)) → (List Int → σ → Option (Bool × σ)) → Option (Bool × List Int × σ)}
    (hrf : ∀ q, q < T.length → Okk T S p q → ∀ s b s1, runL gp (leaves T S d (p ++ [q])) s = some (b, s1) → ∃ p', rf (castL (p ++ [q])) s (T.length : Int) T S gp = some (b, p', s1) ∧ (b = false → p' = castL (p ++ [q])))
    {q : Nat} (hq : q < T.length) {s s1 : σ} {b : Bool} (hr : runL gp (br T S d p q) s = some (b, s1)) :
    (b = true → ∃ p', p_impl_eachIsomorphism_c1_L1 T S rf (T.length : Int) gp q (castL p) s = some (.ret (true, p', s1))) ∧ (b = false → p_impl_eachIsomorphism_c1_L1 T S rf (T.length : Int) gp q (castL p) s = some (.next (castL p, s1))) := by
  have hpos := hv.beg.pos
  have hno : ¬ Okk T S p q → b = false ∧ s1 = s := fun h => by
    have e : br T S d p q = [] := by unfold br; rw [if_neg h]
    rw [e] at hr
    simp only [runL, Option.some.injEq, Prod.mk.injEq] at hr
    exact ⟨hr.1.symm, hr.2.symm⟩
  by_cases hne : q ∈ p
  · obtain ⟨rfl, rfl⟩ := hno fun h => h.1 hne
    exact ⟨(fun h => Bool.noConfusion h), fun _ => each_skip hT hS hn (.inl hne)⟩
  · have hq0 : q ≠ 0 := fun e => hne (by
      rw [e, ← hv.zero]; exact getD_mem (by omega))
    have hz : p.length = 0 ↔ q = 0 := ⟨fun h => by omega, fun h => absurd h hq0⟩
    have hbg := hv.beg.app (q := q) (by omega) (by omega)
    by_cases hf : Fit T S (p ++ [q])
    · have e : br T S d p q = leaves T S d (p ++ [q]) := by unfold br; rw [if_pos ⟨hne, hf⟩]
      rw [e] at hr
      exact each_fit hT hS hn (by omega) hbg hne hz hf (hrf q hq ⟨hne, hf⟩ s b s1 hr)
    · obtain ⟨rfl, rfl⟩ := hno fun h => hf h.2
      exact ⟨(fun h => Bool.noConfusion h), fun _ => each_not hT hS hn (by omega) hbg hne hz hf⟩
theorem each_loop {body : Nat → List Int × σ → Option (Ctl (List Int × σ) (Bool × List Int × σ))} {p : List Int} {f : Nat → List (List Int)} {N : Nat}
    (hb : ∀ q, q < N → ∀ s s1 b, runL gp (f q) s = some (b, s1) → (b = true → ∃ p', body q (p, s) = some (.ret (true, p', s1))) ∧ (b = false → body q (p, s) = some (.next (p, s1)))) :
    ∀ (c k : Nat), k + c = N → ∀ s b s', runL gp ((List.range' k c).flatMap f) s = some (b, s') → (b = true → ∃ p', forN body c k (p, s) = some (.ret (true, p', s'))) ∧ (b = false → forN body c k (p, s) = some (.fin (p, s'))) := by
  intro c
  induction c with
  | zero =>
    intro k hk s b s' h
    simp only [List.range'_zero, List.flatMap_nil, runL, Option.some.injEq, Prod.mk.injEq] at h
    obtain ⟨rfl, rfl⟩ := h
    exact ⟨(fun h => Bool.noConfusion h), fun _ => rfl⟩
  | succ c ih =>
    intro k hk s b s' h
    rw [List.range'_succ, List.flatMap_cons, runL_app] at h
    obtain ⟨x, h1, h2⟩ := bs h
    obtain ⟨h3, h4⟩ := hb k (by omega) s x.2 x.1 h1
    by_cases e : x.1 = true
    · rw [if_pos e] at h2
      cases h2
      obtain ⟨p', h5⟩ := h3 e
      exact ⟨fun _ => ⟨p', forN_ret1 h5⟩, fun h => Bool.noConfusion h⟩
    · rw [if_neg e] at h2
      have h5 := h4 (by simpa using e)
      rw [forN_next1 h5]
      exact ih (k + 1) (by omega) x.2 b s' h2
theorem each_F : ∀ (d : Nat) (p : List Nat), Val T S p → p.length + d = T.length → ∀ (fuel : Nat), d < fuel → ∀ (s : σ) (b : Bool) (s' : σ), runL gp (leaves T S d p) s = some (b, s') →
    ∃ p', p_impl_eachIsomorphism_c1_F fuel (castL p) s (T.length : Int) T S gp = some (b, p', s') ∧ (b = false → p' = castL p)
  | d, p, hv, hd, 0, hfu, s, b, s', hr => by omega
  | 0, p, hv, hd, fuel + 1, hfu, s, b, s', hr => by
    refine ⟨castL p, ?_, fun _ => rfl⟩
    show p_impl_eachIsomorphism_c1_B (p_impl_eachIsomorphism_c1_F fuel) (castL p) s (T.length : Int) T S gp = _
    unfold p_impl_eachIsomorphism_c1_B
    rw [if_pos (by rw [castL_len, beq_iff_eq]; omega)]
    simp only [leaves, runL] at hr
    obtain ⟨x, h1, h2⟩ := bs hr
    rw [h1]
    simp only [Option.bind_some]
    by_cases e : x.1 = true
    · rw [if_pos e] at h2
      cases h2
      rw [e]
    · rw [if_neg e] at h2
      cases h2
      have e' : x.1 = false := by simpa using e
      rw [e']
  | d + 1, p, hv, hd, fuel + 1, hfu, s, b, s', hr => by
    show ∃ p', p_impl_eachIsomorphism_c1_B (p_impl_eachIsomorphism_c1_F fuel) (castL p) s (T.length : Int) T S gp = some (b, p', s') ∧ _
    unfold p_impl_eachIsomorphism_c1_B
    rw [if_neg (by rw [castL_len, beq_iff_eq]; omega), Int.toNat_natCast]
    rw [leaves_succ, List.range_eq_range'] at hr
    obtain ⟨h1, h2⟩ := each_loop hT hS hn (body := fun k s => p_impl_eachIsomorphism_c1_L1 T S (p_impl_eachIsomorphism_c1_F fuel) (T.length : Int) gp k s.1 s.2) (p := castL p) (f := br T S d p) (N := T.length)
      (fun q hq s s1 b hr => each_round hT hS hn hv hd (fun q hq hok s b s1 hr => each_F d (p ++ [q]) (hv.app (by omega) (by omega) hok) (by simp; omega) fuel (by omega) s b s1 hr) hq hr) T.length 0 (by omega) s b s' hr
    cases b with
    | true =>
      obtain ⟨p', h3⟩ := h1 rfl
      rw [h3]
      exact ⟨p', rfl, fun h => Bool.noConfusion h⟩
    | false =>
      rw [h2 rfl]
      exact ⟨castL p, rfl, fun _ => rfl⟩
open Classical in
noncomputable def leaves0 (T S : List (List (List Int))) : List (List Int) := if Fit T S [0] then leaves T S (T.length - 1) [0] else []
omit hn in
theorem val0 (hf : Fit T S [0]) : Val T S [0] := by
  have h1 := hT.1; have h2 := hS.1
  refine ⟨⟨by simp, by simp; omega, fun i hi => ?_⟩, by simp, rfl, fun k h3 h4 => ?_⟩
  · have : i = 0 := by simpa using hi
    subst this
    show 0 < S.length
    omega
  · have : k = 1 := by simp at h4; omega
    subst this
    exact hf
theorem each_eq {s : σ} {b : Bool} {s' : σ} (hr : runL gp (leaves0 T S) s = some (b, s')) : p_impl_eachIsomorphism T S gp s = some s' := by
  have h1 := hT.1
  unfold p_impl_eachIsomorphism p_impl_eachIsomorphism_c1
  obtain ⟨fl, hfl⟩ : ∃ fl, fuelN = fl + 1 ∧ 100 < fl := ⟨1099999, rfl, by omega⟩
  rw [hfl.1]
  have key : ∃ p', p_impl_eachIsomorphism_c1_F (fl + 1) (castL []) s (T.length : Int) T S gp = some (b, p', s') := by
    show ∃ p', p_impl_eachIsomorphism_c1_B (p_impl_eachIsomorphism_c1_F fl) (castL []) s (T.length : Int) T S gp = some (b, p', s')
    unfold p_impl_eachIsomorphism_c1_B
    rw [if_neg (by rw [castL_len, beq_iff_eq]; simp; omega), Int.toNat_natCast]
    have hflat : ((List.range' 0 T.length).flatMap fun q => if q = 0 then leaves0 T S else []) = leaves0 T S := by
      obtain ⟨m, hm⟩ : ∃ m, T.length = m + 1 := ⟨T.length - 1, by omega⟩
      rw [hm, List.range'_succ, List.flatMap_cons]
      have : ∀ l : List Nat, (∀ x ∈ l, x ≠ 0) → (l.flatMap fun q => if q = 0 then leaves0 T S else []) = [] := by
        intro l
        induction l with
        | nil => intro _; rfl
        | cons x l ih =>
          intro h
          rw [List.flatMap_cons, if_neg (h x (by simp)), ih fun y hy => h y (by simp [hy])]
          rfl
      rw [this _ (fun x hx => by have := (List.mem_range'_1.1 hx).1; omega)]
      simp
    obtain ⟨h3, h4⟩ := each_loop hT hS hn (gp := gp) (body := fun k s => p_impl_eachIsomorphism_c1_L1 T S (p_impl_eachIsomorphism_c1_F fl) (T.length : Int) gp k s.1 s.2) (p := castL []) (f := fun q => if q = 0 then leaves0 T S else []) (N := T.length)
      (fun q hq s s1 b hr => by
        by_cases e : q = 0
        · subst e
          rw [if_pos rfl] at hr
          have hz : ([] : List Nat).length = 0 ↔ (0 : Nat) = 0 := by simp
          by_cases hf : Fit T S [0]
          · have hv := val0 hT hS hf
            have e2 : leaves0 T S = leaves T S (T.length - 1) [0] := by unfold leaves0; rw [if_pos hf]
            rw [e2] at hr
            exact each_fit hT hS hn (p := []) (by simp; omega) hv.beg (by simp) hz hf (each_F hT hS hn (T.length - 1) [0] hv (by simp; omega) fl (by omega) s b s1 hr)
          · have e2 : leaves0 T S = [] := by unfold leaves0; rw [if_neg hf]
            rw [e2] at hr
            simp only [runL, Option.some.injEq, Prod.mk.injEq] at hr
            obtain ⟨rfl, rfl⟩ := hr
            have hbg : Beg T S ([] ++ [0]) := ⟨by simp, by simp; omega, fun i hi => by
              have : i = 0 := by simpa using hi
              subst this
              show 0 < S.length
              have := hS.1; omega⟩
            exact ⟨(fun h => Bool.noConfusion h), fun _ => each_not hT hS hn (p := []) (by simp; omega) hbg (by simp) hz hf⟩
        · rw [if_neg e] at hr
          simp only [runL, Option.some.injEq, Prod.mk.injEq] at hr
          obtain ⟨rfl, rfl⟩ := hr
          exact ⟨(fun h => Bool.noConfusion h), fun _ => each_skip hT hS hn (p := []) (.inr fun h => e (h.1 rfl))⟩) T.length 0 (by omega) s b s' (by rw [hflat]; exact hr)
    cases b with
    | true =>
      obtain ⟨p', h5⟩ := h3 rfl
      exact ⟨p', by rw [h5]; rfl⟩
    | false =>
      rw [h4 rfl]
      exact ⟨castL [], rfl⟩
  obtain ⟨p', h⟩ := key
  have h' : p_impl_eachIsomorphism_c1_F (fl + 1) ([] : List Int) s (T.length : Int) T S gp = some (b, p', s') := h
  rw [h']
  rfl
end
end Go.VG
