/- The model's whole dimensions: what they are. Plain. -/
import Derived.Test.YtfbjoncpgjgppaaPlDimS
set_option linter.all false
namespace Go.VG
/-- A list that is near enough: its places within bounds, and the dimensions where there are whole ones. -/
structure Guess (T : List (List (List Int))) (l : List Int) : Prop where
  len : l.length = T.length
  rng : ∀ i, i < T.length → 0 ≤ l.getD i 0 ∧ l.getD i 0 ≤ 20000
  hit : ∀ d, DimZ T d → ∀ i, i < T.length → l.getD i 0 = d i
section
variable {T : List (List (List Int))}
theorem spec_guess (h : RingOK T) : ∃ l, Guess T l ∧ p_spec_l04Integers T = (p_spec_l04Is T l).bind fun b => some (l, b) := by
  have hn := h.cube.1
  obtain ⟨w, e, hm, hN⟩ := mil_all h
  refine ⟨vecG (fun j => (w j + 500000) / 1000000) T.length, ⟨vecG_len, fun i hi => ?_, fun d hd i hi => ?_⟩, ?_⟩
  · rw [vecG_getD hi]
    have := hm.lo i hi; have := hm.hi i hi
    omega
  · rw [vecG_getD hi]
    have N1 := hN d hd 0 h.n0 i hi
    have N2 := hN d hd i hi 0 h.n0
    rw [hd.zero, hm.one, Int.mul_one] at N1 N2
    obtain ⟨D, hD, _, hD2, _⟩ := hd.top
    have := hD i hi; have := hd.pos i hi
    omega
  · unfold p_spec_l04Integers
    have s1 := forN_app (R := Unit) (N := T.length) (body := fun k s => p_spec_l04Integers_L1 k s) (fun _ => (1000000 : Int)) (fun j hj => by
      simp only [p_spec_l04Integers_L1, app_range (fun _ => (1000000 : Int)) (by omega : j ≤ 1048576), Option.bind_some])
    rw [s1]
    simp only [Option.bind_some, onRes]
    have e' : forN (R := Unit) (fun k s => p_spec_l04Integers_L2 T k s) ((400 : Int)).toNat 0 (List.map (fun _ => (1000000 : Int)) (List.range T.length)) = some (.fin (vecG w T.length)) := e
    rw [e']
    simp only [Option.bind_some, vecG_len]
    have s2 := forN_app (R := Unit) (N := T.length) (body := fun k s => p_spec_l04Integers_L4 (vecG w T.length) k s) (fun j => (w j + 500000) / 1000000) (fun j hj => by
      have := hm.lo j hj; have := hm.hi j hj
      have q : w64 ((w64 (w j + 500000)).tdiv 1000000) = (w j + 500000) / 1000000 := by
        rw [w64_small (x := w j + 500000) (by omega) (by omega), Int.tdiv_eq_ediv_of_nonneg (by omega), w64_small (by omega) (by omega)]
      simp only [p_spec_l04Integers_L4, vecG_idx hj, Option.bind_some, q, app_range (fun j => (w j + 500000) / 1000000) (by omega : j ≤ 1048576)])
    rw [s2]
    rfl
end
end Go.VG
