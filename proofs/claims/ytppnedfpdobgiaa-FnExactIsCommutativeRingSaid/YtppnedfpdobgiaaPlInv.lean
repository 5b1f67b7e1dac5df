/- Invertible labels: the test, the list, the mask. No condition. -/
import Derived.Test.YtppnedfpdobgiaaPlRing2
set_option linter.all false
namespace Go.VG

/-- A loop that folds over a list. -/
theorem forN_foldl {α S R : Type} {body : Nat → S → Option (Ctl S R)} (l : List α) (d : α) (f : S → α → S) (s : S) (hb : ∀ j s, j < l.length → body j s = some (.next (f s (l.getD j d)))) : forN body l.length 0 s = some (.fin (l.foldl f s)) := by
  have := forN_det (body := body) (N := l.length) (fun k => (l.take k).foldl f s) (fun j hj => by
    rw [hb j _ hj]
    congr 2
    rw [List.take_succ_eq_append_getElem hj, List.foldl_append]
    simp [List.getD, List.getElem?_eq_getElem hj])
  simpa using this

def oneV (n : Nat) : List Int := (List.replicate n 0).set 0 1
def invB (T : List (List (List Int))) (i : Nat) : Bool := decide ((T.getD i []).getD (du T i).toNat [] = oneV T.length)
def labs (T : List (List (List Int))) (k : Nat) : List Int := ((List.range k).filter (invB T)).map Int.ofNat
theorem labs_succ (T : List (List (List Int))) (k : Nat) : labs T (k + 1) = if invB T k = true then labs T k ++ [(k : Int)] else labs T k := by
  unfold labs
  rw [List.range_succ, List.filter_append, List.map_append]
  cases h : invB T k <;> simp [h]
theorem labs_len (T : List (List (List Int))) (k : Nat) : (labs T k).length ≤ k := by
  unfold labs
  rw [List.length_map]
  have := List.length_filter_le (invB T) (List.range k)
  simpa using this

theorem sameS_says (a b : List Int) : Says (p_spec_l01Same a b) (a = b) := eqS_says a b
theorem equal_says (a b : List Int) : Says (p_slices_Equal_Lint64_int64 a b) (a = b) := eqS_says a b

section
variable {T : List (List (List Int))}
theorem mk_one (h : Cube T) : (mkL (T.length : Int) (0 : Int)).bind (fun x => (idx x (0 : Int)).bind fun y => some (x.set (0 : Int).toNat (1 : Int))) = some (oneV T.length) := by
  have h1 := h.1.1; have h2 := h.1.2
  rw [mkL_some' (0 : Int) (by omega : (T.length : Int) ≤ 1048576)]
  simp only [Option.bind_some]
  rw [idx_zero _ 0 (by simp; omega)]
  rfl
theorem specInv (h : RingOK T) {i : Nat} (hi : i < T.length) : p_spec_l04Invertible T (i : Int) = some (invB T i) := by
  unfold p_spec_l04Invertible p_spec_l03One
  have e := mk_one h.cube
  simp only [h.cube.i1 hi, (dual_spec h.cube hi).1, Option.bind_some]
  rw [idx_toNat _ [] (h.du0 hi) (by rw [h.cube.mat hi]; exact (du_lt h.cube hi).2)]
  simp only [Option.bind_some]
  erw [e]
  obtain ⟨b, e1, e2⟩ := sameS_says ((T.getD i []).getD (du T i).toNat []) (oneV T.length)
  simp only [Option.bind_some]
  rw [e1]
  show some b = _
  congr 1
  rw [Bool.eq_iff_iff, e2]; simp [invB]
theorem implInv (h : RingOK T) {i : Nat} (hi : i < T.length) : p_impl_Ring_isInvertible T (i : Int) = some (invB T i) := by
  unfold p_impl_Ring_isInvertible p_impl_Ring_vectorOf
  have e := mk_one h.cube
  simp only [h.cube.i1 hi, onlyOf_eq h.cube hi, Option.bind_some]
  rw [idx_toNat _ [] (h.du0 hi) (by rw [h.cube.mat hi]; exact (du_lt h.cube hi).2)]
  simp only [Option.bind_some]
  erw [e]
  obtain ⟨b, e1, e2⟩ := equal_says ((T.getD i []).getD (du T i).toNat []) (oneV T.length)
  simp only [Option.bind_some]
  rw [e1]
  show some b = _
  congr 1
  rw [Bool.eq_iff_iff, e2]; simp [invB]

theorem lab_step (h : Cube T) {k : Nat} (hk : k < T.length) : (if invB T k = true then (appL (labs T k) [(k : Int)]).bind fun x => some x else some (labs T k)) = some (labs T (k + 1)) := by
  rw [labs_succ]
  have h1 := labs_len T k; have h2 := h.1.2
  cases invB T k
  · simp
  · simp [appL]; omega
theorem implLabels (h : RingOK T) : p_impl_InvertibleLabels T = some (labs T T.length, 0) := by
  unfold p_impl_InvertibleLabels
  obtain ⟨b, e, hb⟩ := implIs (T := T)
  rw [e, hb.2 h]
  simp only [Option.bind_some, Bool.not_true, Bool.false_eq_true, if_false]
  have e2 : forN (fun k s => p_impl_InvertibleLabels_L1 T k s) T.length 0 ([] : List Int) = some (.fin (labs T T.length)) := forN_det (R := Unit) (labs T) (fun k hk => by
    simp only [p_impl_InvertibleLabels_L1, implInv h hk, Option.bind_some, lab_step h.cube hk])
  rw [e2]; rfl
theorem specLabels (h : RingOK T) : p_spec_InvertibleLabels T = some (labs T T.length, 0) := by
  unfold p_spec_InvertibleLabels
  obtain ⟨b, e, hb⟩ := specIs (T := T)
  rw [e, hb.2 h]
  simp only [Option.bind_some, Bool.not_true, Bool.false_eq_true, if_false]
  have e2 : forN (fun k s => p_spec_InvertibleLabels_L1 T k s) T.length 0 ([] : List Int) = some (.fin (labs T T.length)) := forN_det (R := Unit) (labs T) (fun k hk => by
    simp only [p_spec_InvertibleLabels_L1, specInv h hk, Option.bind_some, lab_step h.cube hk])
  rw [e2]; rfl
theorem implLabels_no (h : ¬ RingOK T) : p_impl_InvertibleLabels T = some ([], 1) := by
  unfold p_impl_InvertibleLabels
  obtain ⟨b, e, hb⟩ := implIs (T := T)
  have : b = false := by cases b; rfl; exact absurd (hb.1 rfl) h
  rw [e, this]; rfl
theorem specLabels_no (h : ¬ RingOK T) : p_spec_InvertibleLabels T = some ([], 1) := by
  unfold p_spec_InvertibleLabels
  obtain ⟨b, e, hb⟩ := specIs (T := T)
  have : b = false := by cases b; rfl; exact absurd (hb.1 rfl) h
  rw [e, this]; rfl
end
end Go.VG
