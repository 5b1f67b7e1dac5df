/- The model's search, which leaves out what the colours forbid, finds them all, or the first. Plain. -/
import Derived.Test.YtopabdbonlnijaaPlIsoTree
set_option linter.all false
namespace Go.VG
theorem ownL (l : List Int) (h : l.length ≤ 1048576) : p_spec_l01Own l = some l := by
  unfold p_spec_l01Own
  rw [app_ok (by simp; omega)]; rfl
theorem index_says {R : Type} {body : Nat → Unit → Option (Ctl Unit Int)} {p : List Nat} {q : Nat} (hb : ∀ k, k < p.length → body k () = if (p.getD k 0 = q) then some (.ret (k : Int)) else some (.next ())) :
    Says (((forN body p.length 0 ()).bind fun res1 => onRes res1 (fun r47 => some r47) fun _ => some (-1 : Int)).bind fun x1 => some (decide (x1 ≥ (0 : Int)))) (q ∈ p) := by
  have h : Chk (forN body p.length 0 ()) (∀ k, k < p.length → p.getD k 0 ≠ q) (fun r => 0 ≤ r) := forN_chk (fun k hk _ => by
    rw [hb k hk]
    by_cases e : p.getD k 0 = q
    · rw [if_pos e]; exact .inr ⟨fun h => h e, _, rfl, Int.natCast_nonneg k⟩
    · rw [if_neg e]; exact .inl ⟨e, rfl⟩)
  rcases h with ⟨h1, h2⟩ | ⟨h1, r, h2, hr⟩
  · rw [h2]
    refine ⟨false, rfl, ?_⟩
    simp only [Bool.false_eq_true, false_iff]
    intro hq
    obtain ⟨i, hi, e⟩ := mem_getD 0 hq
    exact h1 i hi e
  · rw [h2]
    refine ⟨true, ?_, ?_⟩
    · simp [onRes, hr]
    · simp only [true_iff]
      refine Classical.byContradiction fun hq => h1 fun k hk e => hq ?_
      rw [← e]; exact getD_mem hk
theorem specHas (p : List Nat) (q : Nat) : Says (p_spec_l01Has (castL p) (q : Int)) (q ∈ p) := by
  unfold p_spec_l01Has p_spec_l01Index
  rw [castL_len]
  refine index_says (R := Unit) (fun k hk => ?_)
  unfold p_spec_l01Index_L1
  rw [castL_idx hk, Option.bind_some]
  by_cases e : p.getD k 0 = q
  · rw [if_pos e, if_pos (by rw [beq_iff_eq]; omega)]
  · rw [if_neg e, if_neg (by rw [beq_iff_eq]; omega)]
theorem implHas (p : List Nat) (q : Nat) : Says (p_slices_Contains_Lint_int (castL p) (q : Int)) (q ∈ p) := by
  unfold p_slices_Contains_Lint_int p_slices_Index_Lint_int
  rw [castL_len]
  refine index_says (R := Unit) (fun k hk => ?_)
  unfold p_slices_Index_Lint_int_L1
  rw [castL_idx hk, Option.bind_some]
  by_cases e : p.getD k 0 = q
  · rw [if_pos e, if_pos (by rw [beq_iff_eq]; omega)]
  · rw [if_neg e, if_neg (by rw [beq_iff_eq]; omega)]
def sel (first : Bool) (l : List (List Int)) : List (List Int) := if first = true then l.take 1 else l
section
variable {T S : List (List (List Int))} (hT : Cube T) (hS : Cube S) (hn : T.length = S.length)
structure Col (T S : List (List (List Int))) (p : List Nat) (c d : List Int) : Prop where
  len1 : c.length = T.length
  len2 : d.length = T.length
  keep : ∀ g, Full T S p g → Keeps T.length (fun x => g.getD x 0) c d
theorem col_set {p : List Nat} {c d : List Int} {q : Nat} (hp : p.length < T.length) (hq : q < T.length) (hc : Col T S p c d) : ∀ g, Full T S (p ++ [q]) g → Keeps T.length (fun x => g.getD x 0) (c.set p.length 60) (d.set q 60) := by
  intro g hg x hx
  obtain ⟨h1, h2⟩ := hg.less
  have hl := h1.len
  show (c.set p.length 60).getD x 0 = (d.set q 60).getD (g.getD x 0) 0
  by_cases e : x = p.length
  · subst e
    rw [h2, set_self (by rw [hc.len1]; exact hx), set_self (by rw [hc.len2]; exact hq)]
  · have hne : g.getD x 0 ≠ q := fun e2 => by
      rw [← h2] at e2
      have hi := (List.getElem_inj (xs := g) (h₀ := by omega) (h₁ := by omega) h1.val.nodup (i := x) (j := p.length)).1 (by
        simpa [List.getD, List.getElem?_eq_getElem (show x < g.length by omega), List.getElem?_eq_getElem (show p.length < g.length by omega)] using e2)
      exact e hi
    rw [set_other (fun e3 => e e3.symm), set_other (fun e3 => hne e3.symm)]
    exact hc.keep g h1 x hx
theorem sel_part {first : Bool} {a b : List (List Int)} (h : first = true → a = []) : sel first (a ++ b) = sel first a ++ sel first b := by
  unfold sel
  cases first with
  | true => rw [h rfl]; simp
  | false => simp
theorem sel_nil {first : Bool} {a : List (List Int)} (hf : first = true) (h : sel first a = []) : a = [] := by
  unfold sel at h
  rw [if_pos hf] at h
  cases a with
  | nil => rfl
  | cons x a => simp at h
theorem sel_done {a b : List (List Int)} (h : sel true a ≠ []) : sel true (a ++ b) = sel true a := by
  unfold sel at *
  simp only [if_true] at *
  cases a with
  | nil => simp at h
  | cons x a => simp
include hT hS hn
/-- What one image yields. -/
theorem seek_step {d : Nat} {p : List Nat} (hv : Val T S p) (hd : p.length + (d + 1) = T.length) {c c' : List Int} (hc : Col T S p c c') {first : Bool} {rf : List (List (List Int)) → List (List (List Int)) → List Int → List Int → List Int → Bool → List (List Int) → Option (List (List Int))}
    {out : List (List Int)} (hf : first = true → out = []) {y : Nat} (hy : y < T.length)
    (hrf : ∀ e e', Okk T S p y → Col T S (p ++ [y]) e e' → rf T S (castL (p ++ [y])) e e' first out = some (out ++ sel first (leaves T S d (p ++ [y])))) :
    p_spec_l03Seek_L1 S first (castL p) T c c' rf out (y : Int) = some (.next (out ++ sel first (br T S d p y), ((y + 1 : Nat) : Int))) := by
  have h1 := hT.1
  have hyS : y < S.length := by omega
  have hpl : p.length < T.length := by omega
  have hw : w64 ((y : Int) + 1) = ((y + 1 : Nat) : Int) := by rw [w64_small (by omega) (by omega)]; rfl
  have hcond : (y : Int) < (S.length : Int) := by omega
  have hxc : p.length < c.length := by rw [hc.len1]; exact hpl
  have hyd : y < c'.length := by rw [hc.len2]; exact hy
  obtain ⟨b1, e1, hb1⟩ := specHas p y
  obtain ⟨b2, e2, hb2⟩ := specFits hT hS (hv.beg.app hpl hyS)
  have hgo : (if (!first) = true then some true else some (((out).length : Int) == (0 : Int))) = some true := by
    cases first with
    | true => rw [hf rfl]; rfl
    | false => rfl
  unfold p_spec_l03Seek_L1
  simp only [hcond, decide_true, if_true, hgo, Option.bind_some]
  rw [ownL _ (by rw [castL_len]; omega), Option.bind_some, app_ok (by rw [castL_len]; simp; omega), Option.bind_some, ← castL_app, e1, Option.bind_some]
  simp only [castL_len]
  have hskip : ¬ Okk T S p y ∨ leaves T S d (p ++ [y]) = [] → sel first (br T S d p y) = [] := fun h => by
    have : br T S d p y = [] := by
      unfold br
      rcases h with h | h
      · rw [if_neg h]
      · rw [h]; simp
    rw [this]; unfold sel; simp
  have hnext : ¬ Okk T S p y ∨ leaves T S d (p ++ [y]) = [] → (some (Ctl.next (out, w64 ((y : Int) + 1))) : Option (Ctl (List (List Int) × Int) Unit)) = some (.next (out ++ sel first (br T S d p y), ((y + 1 : Nat) : Int))) := fun h => by
    rw [hskip h, hw, List.append_nil]
  cases b1 with
  | true =>
    simp only [if_true, Option.bind_some]
    exact hnext (.inl fun h => h.1 (hb1.1 rfl))
  | false =>
    have hny : y ∉ p := fun h => by have := hb1.2 h; cases this
    simp only [Bool.false_eq_true, if_false, idx_getD c 0 hxc, idx_getD c' 0 hyd, Option.bind_some]
    by_cases hcol : c.getD p.length 0 = c'.getD y 0
    · have hcb : (c.getD p.length 0 != c'.getD y 0) = false := by simpa [bne_eq_false_iff_eq] using hcol
      simp only [hcb, Bool.false_eq_true, if_false, e2, Option.bind_some]
      cases b2 with
      | false =>
        simp only [Bool.not_false, if_true]
        exact hnext (.inl fun h => by have := hb2.2 h.2; cases this)
      | true =>
        have hok : Okk T S p y := ⟨hny, hb2.1 rfl⟩
        have hbr : br T S d p y = leaves T S d (p ++ [y]) := by unfold br; rw [if_pos hok]
        simp only [Bool.not_true, Bool.false_eq_true, if_false]
        rw [ownL c (by rw [hc.len1]; omega), Option.bind_some, ownL c' (by rw [hc.len2]; omega), Option.bind_some, idx_getD c 0 hxc, Option.bind_some, idx_getD c' 0 hyd, Option.bind_some]
        simp only [Int.toNat_natCast]
        obtain ⟨r, e3, hr1, hr2⟩ := refine_eq hT hS hn (c := c.set p.length 60) (d := c'.set y 60) (by rw [List.length_set, hc.len1]) (by rw [List.length_set, hc.len2])
        rw [e3, Option.bind_some]
        have hkeep := col_set hpl hy hc
        by_cases hr : r.2.2 = true
        · rw [if_pos hr]
          have hrec := hrf r.1 r.2.1 hok ⟨(hr1 hr).1, (hr1 hr).2, fun g hg => (hr2 _ (hg.iso hn) (hkeep g hg)).2⟩
          rw [hrec]
          simp only [Option.bind_some]
          rw [hbr, hw]
        · rw [if_neg hr]
          simp only [Option.bind_some]
          refine hnext (.inr ?_)
          refine Classical.byContradiction fun hne => ?_
          obtain ⟨l, hl⟩ := List.exists_mem_of_ne_nil _ hne
          obtain ⟨g, _, hg⟩ := leaves_full d (p ++ [y]) hn (hv.app hpl hyS hok) (by simp; omega) l hl
          exact hr (hr2 _ (hg.iso hn) (hkeep g hg)).1
    · have hcb : (c.getD p.length 0 != c'.getD y 0) = true := by simpa [bne_iff_ne] using hcol
      simp only [hcb, if_true, Option.bind_some]
      by_cases hok : Okk T S p y
      · refine hnext (.inr ?_)
        refine Classical.byContradiction fun hne => ?_
        obtain ⟨l, hl⟩ := List.exists_mem_of_ne_nil _ hne
        obtain ⟨g, _, hg⟩ := leaves_full d (p ++ [y]) hn (hv.app hpl hyS hok) (by simp; omega) l hl
        obtain ⟨h5, h6⟩ := hg.less
        have := hc.keep g h5 p.length hpl
        simp only [h6] at this
        exact hcol this
      · exact hnext (.inl hok)
theorem seek_loop {d : Nat} {p : List Nat} (hv : Val T S p) (hd : p.length + (d + 1) = T.length) {c c' : List Int} (hc : Col T S p c c') {first : Bool} {rf : List (List (List Int)) → List (List (List Int)) → List Int → List Int → List Int → Bool → List (List Int) → Option (List (List Int))}
    {out : List (List Int)} (hf : first = true → out = [])
    (hlen : first = false → out.length + (leaves T S (d + 1) p).length ≤ 1099511627776)
    (hrf : ∀ y, y < T.length → ∀ e e' o, (first = true → o = []) → (first = false → o.length + (leaves T S d (p ++ [y])).length ≤ 1099511627776) → Okk T S p y → Col T S (p ++ [y]) e e' → rf T S (castL (p ++ [y])) e e' first o = some (o ++ sel first (leaves T S d (p ++ [y])))) :
    ∀ (m y : Nat), T.length - y = m → y ≤ T.length → ∃ y', iterW (fun s => p_spec_l03Seek_L1 S first (castL p) T c c' rf s.1 s.2) (m + 1) (out ++ sel first ((List.range y).flatMap (br T S d p)), (y : Int)) = some (.fin (out ++ sel first (leaves T S (d + 1) p), y')) := by
  have hend : ∀ (o : List (List Int)) (y : Nat), (first = true ∧ o ≠ []) ∨ y = T.length → p_spec_l03Seek_L1 S first (castL p) T c c' rf o (y : Int) = some (.brk (o, (y : Int))) := fun o y h => by
    unfold p_spec_l03Seek_L1
    by_cases hy : (y : Int) < (S.length : Int)
    · rcases h with ⟨h, ho⟩ | h
      · have : (((o).length : Int) == (0 : Int)) = false := by
          have := List.length_pos_iff.2 ho
          simp; exact ho
        simp only [hy, decide_true, if_true, h, Bool.not_true, Bool.false_eq_true, if_false, this, Option.bind_some]
      · omega
    · simp only [hy, decide_false, Bool.false_eq_true, if_false, Option.bind_some]
  have hsplit : ∀ y, y ≤ T.length → ∃ r, leaves T S (d + 1) p = (List.range y).flatMap (br T S d p) ++ r := fun y hy => by
    rw [leaves_succ]
    refine ⟨(List.range' y (T.length - y)).flatMap (br T S d p), ?_⟩
    rw [← List.flatMap_append]
    congr 1
    have h3 := List.range'_append_1 (s := 0) (m := y) (n := T.length - y)
    rw [Nat.zero_add] at h3
    rw [List.range_eq_range', List.range_eq_range', h3]
    congr 1; omega
  intro m
  induction m with
  | zero =>
    intro y hm hy
    have e : y = T.length := by omega
    refine ⟨(y : Int), ?_⟩
    rw [iterW]
    simp only [hend _ y (.inr e)]
    rw [e, ← leaves_succ]
  | succ m ih =>
    intro y hm hy
    by_cases hstop : first = true ∧ sel first ((List.range y).flatMap (br T S d p)) ≠ []
    · refine ⟨(y : Int), ?_⟩
      obtain ⟨r, hr⟩ := hsplit y hy
      rw [iterW]
      simp only [hend (out ++ sel first ((List.range y).flatMap (br T S d p))) y (.inl ⟨hstop.1, fun h => hstop.2 (List.append_eq_nil_iff.1 h).2⟩)]
      obtain ⟨h1, h2⟩ := hstop
      rw [h1] at h2 ⊢
      rw [hr, sel_done h2]
    · have hlt : y < T.length := by omega
      have hpe : first = true → (List.range y).flatMap (br T S d p) = [] := fun h => sel_nil h (Classical.byContradiction fun h2 => hstop ⟨h, h2⟩)
      have ho : first = true → out ++ sel first ((List.range y).flatMap (br T S d p)) = [] := fun h => by
        rw [hf h, hpe h]; unfold sel; simp
      have hstep := seek_step hT hS hn hv hd hc (rf := rf) ho hlt (fun e e' hok hcol => hrf y hlt e e' _ ho (fun h => by
        have h3 := hlen h
        obtain ⟨r, hr⟩ := hsplit (y + 1) (by omega)
        rw [hr, flat_succ] at h3
        have : br T S d p y = leaves T S d (p ++ [y]) := by unfold br; rw [if_pos hok]
        rw [this] at h3
        unfold sel
        rw [if_neg (by rw [h]; simp)]
        simp only [List.length_append] at h3 ⊢
        omega) hok hcol)
      obtain ⟨y', hi⟩ := ih (y + 1) (by omega) (by omega)
      refine ⟨y', ?_⟩
      rw [iterW]
      simp only [hstep]
      rw [flat_succ, sel_part hpe, ← List.append_assoc] at hi
      exact hi
theorem seek_F : ∀ (d : Nat) (p : List Nat), Val T S p → p.length + d = T.length → ∀ (fuel : Nat), d < fuel → ∀ (c c' : List Int), Col T S p c c' → ∀ (first : Bool) (out : List (List Int)), (first = true → out = []) → (first = false → out.length + (leaves T S d p).length ≤ 1099511627776) →
    p_spec_l03Seek_F fuel T S (castL p) c c' first out = some (out ++ sel first (leaves T S d p))
  | d, p, hv, hd, 0, hfu, c, c', hc, first, out, hf, hlen => by omega
  | 0, p, hv, hd, fuel + 1, hfu, c, c', hc, first, out, hf, hlen => by
    have h1 := hT.1
    show p_spec_l03Seek_B (p_spec_l03Seek_F fuel) T S (castL p) c c' first out = _
    unfold p_spec_l03Seek_B
    have hb : (((castL p).length : Int) == (T.length : Int)) = true := by rw [castL_len]; simp; omega
    rw [if_pos hb, ownL _ (by rw [castL_len]; omega), Option.bind_some, app_ok (by
      cases first with
      | true => rw [hf rfl]; simp
      | false => have := hlen rfl; simp [leaves] at this ⊢; omega)]
    cases first <;> simp [leaves, sel]
  | d + 1, p, hv, hd, fuel + 1, hfu, c, c', hc, first, out, hf, hlen => by
    have h1 := hT.1
    show p_spec_l03Seek_B (p_spec_l03Seek_F fuel) T S (castL p) c c' first out = _
    unfold p_spec_l03Seek_B
    have hb : ¬ (((castL p).length : Int) == (T.length : Int)) = true := by rw [castL_len]; simp; omega
    rw [if_neg hb]
    obtain ⟨y', h⟩ := seek_loop hT hS hn hv hd hc (rf := p_spec_l03Seek_F fuel) hf hlen (fun y hy e e' o ho hol hok hcol => seek_F d (p ++ [y]) (hv.app (by omega) (by omega) hok) (by simp; omega) fuel (by omega) e e' hcol first o ho hol) _ 0 rfl (Nat.zero_le _)
    have h' : whileC (fun s => p_spec_l03Seek_L1 S first (castL p) T c c' (p_spec_l03Seek_F fuel) s.1 s.2) (out, (0 : Int)) = some (.fin (out ++ sel first (leaves T S (d + 1) p), y')) := by
      have := whileC_of h
      simpa [sel] using this
    rw [h']
    rfl
end
end Go.VG
