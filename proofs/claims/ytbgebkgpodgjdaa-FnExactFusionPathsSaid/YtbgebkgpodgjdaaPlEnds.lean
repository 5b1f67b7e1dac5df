/- The table of ends that lead to the unit: the model's beside the code's. Plain. -/
import Derived.Test.YtbgebkgpodgjdaaPlComm0
import Derived.Test.YtbgebkgpodgjdaaPlGrid
set_option linter.all false
namespace Go.VG
section
variable {T : List (List (List Int))} {Lb : List Int}
/-- Labels of a ring's table. -/
def LbOK (T : List (List (List Int))) (Lb : List Int) : Prop := (1 ≤ Lb.length ∧ Lb.length ≤ 8) ∧ ∀ i, i < Lb.length → 0 ≤ Lb.getD i 0 ∧ Lb.getD i 0 < T.length
def lb (Lb : List Int) (i : Nat) : Nat := (Lb.getD i 0).toNat
theorem LbOK.lt (h : LbOK T Lb) {i : Nat} (hi : i < Lb.length) : lb Lb i < T.length := by have := h.2 i hi; unfold lb; omega
theorem LbOK.idx (h : LbOK T Lb) {i : Nat} (hi : i < Lb.length) : idx Lb (i : Int) = some ((lb Lb i : Nat) : Int) := by
  rw [idx_getD _ 0 hi]
  have := h.2 i hi
  unfold lb
  congr 1; omega
def enD (T : List (List (List Int))) (Lb : List Int) : Nat → Nat → Bool
  | 0, b => ((b : Int) == 0)
  | t + 1, b => (List.range T.length).any fun c => at3 T b (lb Lb (Lb.length - 1 - t)) c != 0 && enD T Lb t c
def en (T : List (List (List Int))) (Lb : List Int) (i b : Nat) : Bool := enD T Lb (Lb.length - 1 - i) b
def acc (T : List (List (List Int))) (Lb : List Int) (i b k : Nat) : Bool := (List.range k).any fun c => at3 T b (lb Lb (i + 1)) c != 0 && en T Lb (i + 1) c
theorem acc_succ (i b k : Nat) : acc T Lb i b (k + 1) = (acc T Lb i b k || (at3 T b (lb Lb (i + 1)) k != 0 && en T Lb (i + 1) k)) := by
  unfold acc
  rw [List.range_succ, List.any_append]
  simp
theorem acc_all {i b : Nat} (hi : i + 1 < Lb.length) : acc T Lb i b T.length = en T Lb i b := by
  unfold acc
  conv => rhs; unfold en
  rw [show Lb.length - 1 - i = (Lb.length - 1 - (i + 1)) + 1 from by omega]
  rw [enD]
  rw [show Lb.length - 1 - (Lb.length - 1 - (i + 1)) = i + 1 from by omega]
  rfl
theorem en_last {b : Nat} : en T Lb (Lb.length - 1) b = ((b : Int) == 0) := by
  unfold en
  rw [Nat.sub_self]
  rfl
def rowS (T : List (List (List Int))) (Lb : List Int) (i b : Nat) (a : Bool) : List Bool := vecG (fun q => if q < b then en T Lb i q else if q = b then a else false) T.length
theorem rowS_len {i b : Nat} {a : Bool} : (rowS T Lb i b a).length = T.length := vecG_len
theorem rowS_idx {i b : Nat} {a : Bool} (hb : b < T.length) : idx (rowS T Lb i b a) (b : Int) = some a := by
  unfold rowS
  rw [vecG_idx hb, if_neg (by omega), if_pos rfl]
theorem rowS_set {i b : Nat} {a x : Bool} (hb : b < T.length) : (rowS T Lb i b a).set b x = rowS T Lb i b x := by
  unfold rowS
  rw [vecG_set hb]
  refine vecG_congr fun q hq => ?_
  simp only [up1]
  by_cases h : q = b
  · subst h; rw [if_pos rfl, if_neg (by omega), if_pos rfl]
  · rw [if_neg h, if_neg h]
    by_cases h2 : q < b
    · rw [if_pos h2, if_pos h2]
    · rw [if_neg h2, if_neg h2, if_neg h]
theorem rowS_next {i b : Nat} : rowS T Lb i b (en T Lb i b) = rowS T Lb i (b + 1) false := vecG_congr fun q hq => by
  by_cases h : q < b
  · rw [if_pos h, if_pos (by omega)]
  · by_cases h2 : q = b
    · subst h2; rw [if_neg (by omega), if_pos rfl, if_pos (by omega)]
    · rw [if_neg h, if_neg h2, if_neg (by omega)]
      split <;> rfl
theorem rowS_zero {i : Nat} : List.replicate T.length false = rowS T Lb i 0 false := by
  unfold rowS vecG
  apply List.ext_getElem
  · simp
  · intro j h1 h2
    simp
def rowE (T : List (List (List Int))) (Lb : List Int) (i : Nat) : List Bool := vecG (en T Lb i) T.length
theorem rowS_end {i : Nat} : rowS T Lb i T.length false = rowE T Lb i := vecG_congr fun q hq => if_pos hq
theorem rowE_idx {i b : Nat} (hb : b < T.length) : idx (rowE T Lb i) (b : Int) = some (en T Lb i b) := vecG_idx hb
/-- The rows from i on are done, row i is r. -/
def matI (T : List (List (List Int))) (Lb : List Int) (i : Nat) (r : List Bool) : List (List Bool) := vecG (fun q => if q < i then [] else if q = i then r else rowE T Lb q) Lb.length
def matD (T : List (List (List Int))) (Lb : List Int) (i : Nat) : List (List Bool) := vecG (fun q => if q < i then [] else rowE T Lb q) Lb.length
theorem matI_len {i : Nat} {r : List Bool} : (matI T Lb i r).length = Lb.length := vecG_len
theorem matI_set {i : Nat} {r x : List Bool} (hi : i < Lb.length) : (matI T Lb i r).set i x = matI T Lb i x := by
  unfold matI
  rw [vecG_set hi]
  refine vecG_congr fun q hq => ?_
  simp only [up1]
  by_cases h : q = i
  · subst h; rw [if_pos rfl, if_neg (by omega), if_pos rfl]
  · rw [if_neg h, if_neg h]
    by_cases h2 : q < i
    · rw [if_pos h2, if_pos h2]
    · rw [if_neg h2, if_neg h2, if_neg h]
theorem matI_at {i : Nat} {r : List Bool} (hi : i < Lb.length) : idx (matI T Lb i r) (i : Int) = some r := by
  unfold matI
  rw [vecG_idx hi, if_neg (by omega), if_pos rfl]
theorem matI_next {i : Nat} {r : List Bool} (hi : i + 1 < Lb.length) : idx (matI T Lb i r) ((i + 1 : Nat) : Int) = some (rowE T Lb (i + 1)) := by
  unfold matI
  rw [vecG_idx hi, if_neg (by omega), if_neg (by omega)]
theorem matD_set {i : Nat} {x : List Bool} (hi : i < Lb.length) : (matD T Lb (i + 1)).set i x = matI T Lb i x := by
  unfold matD matI
  rw [vecG_set hi]
  refine vecG_congr fun q hq => ?_
  simp only [up1]
  by_cases h : q = i
  · subst h; rw [if_pos rfl, if_neg (by omega), if_pos rfl]
  · rw [if_neg h]
    by_cases h2 : q < i
    · rw [if_pos (by omega), if_pos h2]
    · rw [if_neg (by omega), if_neg h2, if_neg h]
theorem matD_at {i : Nat} (hi : i < Lb.length) : ∃ r, idx (matD T Lb (i + 1)) (i : Int) = some r := ⟨_, vecG_idx hi⟩
theorem matD_next {i : Nat} (hi : i + 1 < Lb.length) : idx (matD T Lb (i + 1)) ((i + 1 : Nat) : Int) = some (rowE T Lb (i + 1)) := by
  unfold matD
  rw [vecG_idx hi, if_neg (by omega)]
theorem matI_done {i : Nat} : matI T Lb i (rowE T Lb i) = matD T Lb i := vecG_congr fun q hq => by
  by_cases h : q < i
  · rw [if_pos h, if_pos h]
  · rw [if_neg h, if_neg h]
    by_cases h2 : q = i
    · subst h2; rw [if_pos rfl]
    · rw [if_neg h2]
theorem matD_start : List.replicate Lb.length ([] : List Bool) = matD T Lb Lb.length := by
  unfold matD vecG
  apply List.ext_getElem
  · simp
  · intro j h1 h2
    have : j < Lb.length := by simpa using h1
    simp [this]
def ends (T : List (List (List Int))) (Lb : List Int) : List (List Bool) := matD T Lb 0
theorem ends_idx {i : Nat} (hi : i < Lb.length) : idx (ends T Lb) (i : Int) = some (rowE T Lb i) := by
  unfold ends matD
  rw [vecG_idx hi, if_neg (by omega)]
theorem orS (a b c : Bool) : (if a = true then (some true : Option Bool) else if b = true then some c else some false) = some (a || (b && c)) := by
  cases a <;> cases b <;> cases c <;> rfl

/-! ### The code's -/
theorem implEndsRow (hT : RingOK T) (h : LbOK T Lb) {i b : Nat} (hi : i < Lb.length) (hb : b < T.length) :
    p_impl_Ring_endsAtZero_L2 (i : Int) Lb T b (matI T Lb i (rowS T Lb i b false)) = some (.next (matI T Lb i (rowS T Lb i (b + 1) false))) := by
  have hl := h.1
  have hn := hT.cube.1
  unfold p_impl_Ring_endsAtZero_L2
  rw [w64_small (x := (Lb.length : Int) - 1) (by omega) (by omega), w64_small (x := (i : Int) + 1) (by omega) (by omega)]
  by_cases hlast : i + 1 = Lb.length
  · have e : ((i : Int) == (Lb.length : Int) - 1) = true := by rw [beq_iff_eq]; omega
    simp only [e, if_true, matI_at hi, Option.bind_some, rowS_idx hb, Int.toNat_natCast, rowS_set hb, matI_set hi]
    have : ((b : Int) == 0) = en T Lb i b := by rw [show i = Lb.length - 1 from by omega, en_last]
    rw [this, rowS_next]
  · have e : ((i : Int) == (Lb.length : Int) - 1) = false := by rw [beq_eq_false_iff_ne]; omega
    have hi1 : i + 1 < Lb.length := by omega
    have ei : (i : Int) + 1 = ((i + 1 : Nat) : Int) := by omega
    have hlt := h.lt hi1
    have hrl := hT.cube.row hb hlt
    simp only [e, Bool.false_eq_true, if_false, ei, hT.cube.i1 hb, h.idx hi1, hT.cube.i2 hb hlt, Option.bind_some, hrl]
    have en' : ((T.length : Int) - 0).toNat = T.length := by omega
    rw [en']
    have := forN_det (R := Unit) (N := T.length) (body := fun k s => p_impl_Ring_endsAtZero_L3 ((T.getD b []).getD (lb Lb (i + 1)) []) (i : Int) b k s) (fun k => matI T Lb i (rowS T Lb i b (acc T Lb i b k))) (fun k hk => by
      have e0 : (0 : Int) + (k : Int) = ((k : Nat) : Int) := by omega
      have ew : w64 ((i : Int) + 1) = ((i + 1 : Nat) : Int) := by rw [w64_small (by omega) (by omega)]; omega
      simp only [p_impl_Ring_endsAtZero_L3, e0, hT.cube.i3 hb hlt hk, matI_at hi, Option.bind_some, rowS_idx hb, Int.toNat_natCast, rowS_set hb, matI_set hi, ew, matI_next hi1, rowE_idx hk, acc_succ]
      cases acc T Lb i b k <;> cases (at3 T b (lb Lb (i + 1)) k != 0) <;> rfl)
    rw [show acc T Lb i b 0 = false from rfl] at this
    rw [this]
    simp only [Option.bind_some, onRes]
    rw [acc_all hi1, rowS_next]
theorem implEndsT (hT : RingOK T) (h : LbOK T Lb) : p_impl_Ring_endsAtZero T Lb = some (ends T Lb) := by
  have hl := h.1
  have hn := hT.cube.1
  unfold p_impl_Ring_endsAtZero
  rw [mkL_some' ([] : List Bool) (by omega), w64_small (by omega) (by omega)]
  simp only [Option.bind_some]
  have := whileC_det (R := Unit) (step := fun s : List (List Bool) × Int => p_impl_Ring_endsAtZero_L1 T Lb s.1 s.2) Lb.length (fun j => (matD T Lb (Lb.length - j), (Lb.length : Int) - 1 - (j : Int))) (s' := (matD T Lb 0, -1)) (fun j hj => by
    obtain ⟨i, hi⟩ : ∃ i, Lb.length - j = i + 1 := ⟨Lb.length - j - 1, by omega⟩
    have ei : (Lb.length : Int) - 1 - (j : Int) = (i : Int) := by omega
    have hil : i < Lb.length := by omega
    show p_impl_Ring_endsAtZero_L1 T Lb (matD T Lb (Lb.length - j)) ((Lb.length : Int) - 1 - (j : Int)) = _
    rw [hi, ei]
    have d1 : decide ((i : Int) ≥ 0) = true := decide_eq_true (by omega)
    obtain ⟨r, er⟩ := matD_at (T := T) hil
    have lo := forN_det (R := Unit) (N := T.length) (body := fun k s => p_impl_Ring_endsAtZero_L2 (i : Int) Lb T k s) (fun b => matI T Lb i (rowS T Lb i b false)) (fun b hb => implEndsRow hT h hil hb)
    simp only [p_impl_Ring_endsAtZero_L1, d1, if_true, mkL_some' false (show ((T.length : Nat) : Int) ≤ 1048576 by omega), Option.bind_some, er, Int.toNat_natCast, matD_set hil]
    rw [rowS_zero (Lb := Lb) (i := i), lo]
    simp only [Option.bind_some, onRes]
    rw [rowS_end, matI_done, w64_small (by omega) (by omega)]
    have e1 : Lb.length - (j + 1) = i := by omega
    have e2 : (Lb.length : Int) - 1 - ((j + 1 : Nat) : Int) = (i : Int) - 1 := by omega
    rw [e1, e2]) (by
    have e1 : (Lb.length : Int) - 1 - (Lb.length : Int) = -1 := by omega
    rw [Nat.sub_self, e1]
    rfl)
  have e0 : (Lb.length : Int) - 1 - ((0 : Nat) : Int) = (Lb.length : Int) - 1 := by omega
  try dsimp only at this
  rw [Nat.sub_zero, e0, ← matD_start] at this
  rw [this]
  rfl

/-! ### The model's -/
theorem specEndsRow (hT : RingOK T) (h : LbOK T Lb) {i b : Nat} (hi : i < Lb.length) (hb : b < T.length) :
    p_spec_l15Ends_L2 (i : Int) Lb T (matD T Lb (i + 1)) (rowS T Lb i b false) (b : Int) = some (.next (rowS T Lb i (b + 1) false, ((b + 1 : Nat) : Int))) := by
  have hl := h.1
  have hn := hT.cube.1
  unfold p_spec_l15Ends_L2
  have d1 : decide ((b : Int) < (((rowS T Lb i b false).length : Nat) : Int)) = true := by rw [rowS_len]; exact decide_eq_true (by omega)
  have eb : w64 ((b : Int) + 1) = ((b + 1 : Nat) : Int) := by rw [w64_small (by omega) (by omega)]; omega
  rw [w64_small (x := (Lb.length : Int) - 1) (by omega) (by omega)]
  by_cases hlast : i + 1 = Lb.length
  · have e : ((i : Int) == (Lb.length : Int) - 1) = true := by rw [beq_iff_eq]; omega
    simp only [d1, e, if_true, rowS_idx hb, Option.bind_some, Int.toNat_natCast, rowS_set hb, eb]
    have : ((b : Int) == 0) = en T Lb i b := by rw [show i = Lb.length - 1 from by omega, en_last]
    rw [this, rowS_next]
  · have e : ((i : Int) == (Lb.length : Int) - 1) = false := by rw [beq_eq_false_iff_ne]; omega
    have hi1 : i + 1 < Lb.length := by omega
    have hlt := h.lt hi1
    have ew : w64 ((i : Int) + 1) = ((i + 1 : Nat) : Int) := by rw [w64_small (by omega) (by omega)]; omega
    have := whileC_det (R := Unit) (step := fun s : List Bool × Int => p_spec_l15Ends_L3 (b : Int) T Lb (i : Int) (matD T Lb (i + 1)) s.1 s.2) T.length (fun k => (rowS T Lb i b (acc T Lb i b k), (k : Int))) (s' := (rowS T Lb i b (acc T Lb i b T.length), (T.length : Int))) (fun k hk => by
      have d2 : decide ((k : Int) < (((rowS T Lb i b (acc T Lb i b k)).length : Nat) : Int)) = true := by rw [rowS_len]; exact decide_eq_true (by omega)
      have ek : w64 ((k : Int) + 1) = ((k + 1 : Nat) : Int) := by rw [w64_small (by omega) (by omega)]; omega
      show p_spec_l15Ends_L3 (b : Int) T Lb (i : Int) (matD T Lb (i + 1)) (rowS T Lb i b (acc T Lb i b k)) (k : Int) = _
      simp only [p_spec_l15Ends_L3, d2, if_true, rowS_idx hb, Option.bind_some, Int.toNat_natCast, rowS_set hb, ew, hT.cube.i1 hb, h.idx hi1, hT.cube.i2 hb hlt, hT.cube.i3 hb hlt hk, matD_next hi1, rowE_idx hk, ek, acc_succ]
      cases acc T Lb i b k <;> cases (at3 T b (lb Lb (i + 1)) k != 0) <;> rfl) (by
      have d2 : decide ((T.length : Int) < (((rowS T Lb i b (acc T Lb i b T.length)).length : Nat) : Int)) = false := by rw [rowS_len]; exact decide_eq_false (by omega)
      show p_spec_l15Ends_L3 (b : Int) T Lb (i : Int) (matD T Lb (i + 1)) (rowS T Lb i b (acc T Lb i b T.length)) (T.length : Int) = _
      simp only [p_spec_l15Ends_L3, d2, Bool.false_eq_true, if_false])
    have e0 : acc T Lb i b 0 = false := rfl
    try dsimp only at this
    rw [e0] at this
    have this' : whileC (R := Unit) (fun s : List Bool × Int => p_spec_l15Ends_L3 (b : Int) T Lb (i : Int) (matD T Lb (i + 1)) s.1 s.2) (rowS T Lb i b false, (0 : Int)) = _ := this
    simp only [d1, e, if_true, Bool.false_eq_true, if_false, this', Option.bind_some, onRes, eb]
    rw [acc_all hi1, rowS_next]
theorem specEndsT (hT : RingOK T) (h : LbOK T Lb) : p_spec_l15Ends T Lb = some (ends T Lb) := by
  have hl := h.1
  have hn := hT.cube.1
  unfold p_spec_l15Ends
  rw [mkL_some' ([] : List Bool) (by omega), w64_small (by omega) (by omega)]
  simp only [Option.bind_some]
  have := whileC_det (R := Unit) (step := fun s : List (List Bool) × Int => p_spec_l15Ends_L1 T Lb s.1 s.2) Lb.length (fun j => (matD T Lb (Lb.length - j), (Lb.length : Int) - 1 - (j : Int))) (s' := (matD T Lb 0, -1)) (fun j hj => by
    obtain ⟨i, hi⟩ : ∃ i, Lb.length - j = i + 1 := ⟨Lb.length - j - 1, by omega⟩
    have ei : (Lb.length : Int) - 1 - (j : Int) = (i : Int) := by omega
    have hil : i < Lb.length := by omega
    show p_spec_l15Ends_L1 T Lb (matD T Lb (Lb.length - j)) ((Lb.length : Int) - 1 - (j : Int)) = _
    rw [hi, ei]
    have d1 : decide ((i : Int) ≥ 0) = true := decide_eq_true (by omega)
    obtain ⟨r, er⟩ := matD_at (T := T) hil
    have lo := whileC_det (R := Unit) (step := fun s : List Bool × Int => p_spec_l15Ends_L2 (i : Int) Lb T (matD T Lb (i + 1)) s.1 s.2) T.length (fun b => (rowS T Lb i b false, (b : Int))) (s' := (rowS T Lb i T.length false, (T.length : Int))) (fun b hb => specEndsRow hT h hil hb) (by
      have d2 : decide ((T.length : Int) < (((rowS T Lb i T.length false).length : Nat) : Int)) = false := by rw [rowS_len]; exact decide_eq_false (by omega)
      show p_spec_l15Ends_L2 (i : Int) Lb T (matD T Lb (i + 1)) (rowS T Lb i T.length false) (T.length : Int) = _
      simp only [p_spec_l15Ends_L2, d2, Bool.false_eq_true, if_false])
    have lo' : whileC (R := Unit) (fun s : List Bool × Int => p_spec_l15Ends_L2 (i : Int) Lb T (matD T Lb (i + 1)) s.1 s.2) (List.replicate T.length false, (0 : Int)) = some (.fin (rowS T Lb i T.length false, (T.length : Int))) := by
      rw [rowS_zero (Lb := Lb) (i := i)]; exact lo
    simp only [p_spec_l15Ends_L1, d1, if_true, mkL_some' false (show ((T.length : Nat) : Int) ≤ 1048576 by omega), Option.bind_some, lo', onRes, er, Int.toNat_natCast, matD_set hil]
    rw [rowS_end, matI_done, w64_small (by omega) (by omega)]
    have e1 : Lb.length - (j + 1) = i := by omega
    have e2 : (Lb.length : Int) - 1 - ((j + 1 : Nat) : Int) = (i : Int) - 1 := by omega
    rw [e1, e2]) (by
    have e1 : (Lb.length : Int) - 1 - (Lb.length : Int) = -1 := by omega
    rw [Nat.sub_self, e1]
    rfl)
  have e0 : (Lb.length : Int) - 1 - ((0 : Nat) : Int) = (Lb.length : Int) - 1 := by omega
  try dsimp only at this
  rw [Nat.sub_zero, e0, ← matD_start] at this
  rw [this]
  rfl
end
end Go.VG
