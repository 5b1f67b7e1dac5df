/- The codes of one character, and of two. Plain. -/
import Derived.Test.YtoobahemnnhkbaaPlPair
set_option linter.all false
namespace Go.VG
section
variable {T : List (List (List Int))}
def TwoC (T : List (List (List Int))) (x y : List Int) : Prop := (GoodL T x ∧ ChrOK T x) ∧ (GoodL T y ∧ ChrOK T y)
open Classical in
theorem list_two (h : Cube T) (x y : List Int) (hc : p_spec_l08Code T = some 0) : p_spec_l08List T true [x, y] = some (if TwoC T x y then 0 else 2) := by
  rw [list_eq h true [x, y] (by simp) hc]
  have q : (∀ j, j < [x, y].length → PgL T true ([x, y].getD j [])) ↔ TwoC T x y := by
    constructor
    · intro hh
      have a := hh 0 (by simp); have b := hh 1 (by simp)
      exact ⟨⟨a.1, a.2 rfl⟩, ⟨b.1, b.2 rfl⟩⟩
    · intro hh j hj
      have : j = 0 ∨ j = 1 := by simp at hj; omega
      rcases this with rfl | rfl
      · exact ⟨hh.1.1, fun _ => hh.1.2⟩
      · exact ⟨hh.2.1, fun _ => hh.2.2⟩
  by_cases hh : TwoC T x y
  · rw [if_pos hh, if_pos (q.2 hh)]
  · rw [if_neg hh, if_neg (fun g => hh (q.1 g))]
open Classical in
theorem list_one (h : Cube T) (x : List Int) (hc : p_spec_l08Code T = some 0) : p_spec_l08List T true [x] = some (if GoodL T x ∧ ChrOK T x then 0 else 2) := by
  rw [list_eq h true [x] (by simp) hc]
  have q : (∀ j, j < [x].length → PgL T true ([x].getD j [])) ↔ (GoodL T x ∧ ChrOK T x) := by
    constructor
    · intro hh; have := hh 0 (by simp); exact ⟨this.1, this.2 rfl⟩
    · intro hh j hj
      have : j = 0 := by simp at hj; exact hj
      subst this; exact ⟨hh.1, fun _ => hh.2⟩
  by_cases hh : GoodL T x ∧ ChrOK T x
  · rw [if_pos hh, if_pos (q.2 hh)]
  · rw [if_neg hh, if_neg (fun g => hh (q.1 g))]
open Classical in
theorem chr_codes2 (h : Cube T) (x y : List Int) (hc : p_impl_commuteCode T = some 0) : p_impl_characterCode T [x, y] [] = some (if TwoC T x y then 0 else 2) := by
  rw [chrCode_eq h [x, y] [] (by simp) hc]
  have q : ((∀ z ∈ [x, y], GoodL T z ∧ ChrOK T z) ∧ ∀ z ∈ ([] : List (List Int)), GoodL T z) ↔ TwoC T x y := by simp [TwoC]
  by_cases hh : TwoC T x y
  · rw [if_pos hh, if_pos (q.2 hh)]
  · rw [if_neg hh, if_neg (fun g => hh (q.1 g))]
open Classical in
theorem chr_codes1 (h : Cube T) (x : List Int) (hc : p_impl_commuteCode T = some 0) : p_impl_characterCode T [x] [] = some (if GoodL T x ∧ ChrOK T x then 0 else 2) := by
  rw [chrCode_eq h [x] [] (by simp) hc]
  have q : ((∀ z ∈ [x], GoodL T z ∧ ChrOK T z) ∧ ∀ z ∈ ([] : List (List Int)), GoodL T z) ↔ (GoodL T x ∧ ChrOK T x) := by simp
  by_cases hh : GoodL T x ∧ ChrOK T x
  · rw [if_pos hh, if_pos (q.2 hh)]
  · rw [if_neg hh, if_neg (fun g => hh (q.1 g))]
end
theorem implPairOf (T : List (List (List Int))) (x y : List Int) : ∃ r, p_impl_PairingOf T x y = some r ∧ (∀ c, p_spec_l08Code T = some c → c ≠ 0 → r = (0, c)) ∧ (p_spec_l08Code T = some 0 → RingOK T → (TwoC T x y → r = (dotM x (tuL T y), 0)) ∧ (¬ TwoC T x y → r = (0, 2))) := by
  classical
  unfold p_impl_PairingOf
  obtain ⟨c, e1, e2, hc⟩ := code_eq T
  by_cases h0 : c = 0
  · subst h0
    obtain ⟨h, _⟩ := hc.1 rfl
    rw [chr_codes2 h.cube x y e2]
    by_cases hh : TwoC T x y
    · rw [if_pos hh]
      simp only [Option.bind_some, implPairing h hh.1.1 hh.2.1, (by decide : ((0 : Int) != 0) = false), Bool.false_eq_true, if_false]
      refine ⟨_, rfl, fun c hc' hne => ?_, fun _ _ => ⟨fun _ => rfl, fun hn => absurd hh hn⟩⟩
      rw [e1] at hc'; cases hc'; exact absurd rfl hne
    · rw [if_neg hh]
      refine ⟨(0, 2), rfl, fun c hc' hne => ?_, fun _ _ => ⟨fun hy => absurd hy hh, fun _ => rfl⟩⟩
      rw [e1] at hc'; cases hc'; exact absurd rfl hne
  · rw [chrCode_off [x, y] [] e2 h0]
    refine ⟨(0, c), by simp [h0], fun c' hc' _ => ?_, fun hc' _ => ?_⟩
    · rw [e1] at hc'; cases hc'; rfl
    · rw [e1] at hc'; cases hc'; exact absurd rfl h0
theorem specPairTail {T : List (List (List Int))} (h : RingOK T) {x y : List Int} (hx : GoodL T x) (hy : GoodL T y) :
    ((p_spec_l03Duals T).bind fun x24 => (p_spec_l08Pair x y x24).bind fun x31 => some (x31, (0 : Int))) = some (dotM x (tuL T y), 0) := by
  rw [specDuals h]
  simp only [Option.bind_some, specPairing h hx hy]
end Go.VG
