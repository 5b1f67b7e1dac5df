/- The number of a labelled graph, and the sum over all labellings: the model's recursion beside the code's loop. Plain. -/
import Derived.Test.YtbgebkgpodgjdaaPlHdl0
import Derived.Test.YtbgebkgpodgjdaaPlCube
import Derived.Test.YtbgebkgpodgjdaaPlTri2
set_option linter.all false
namespace Go.VG
theorem w64_add (a b : Int) : w64 (w64 a + w64 b) = w64 (a + b) := by
  unfold w64 IntKind.wrap IntKind.signed IntKind.bits
  simp
  (repeat split) <;> omega
theorem w64_idem (a : Int) : w64 (w64 a) = w64 a := w64_id (inR_w64 a)
theorem w64_addL (a b : Int) : w64 (w64 a + b) = w64 (a + b) := by
  have := w64_add (w64 a) b
  rw [w64_idem, w64_add] at this
  have h2 := w64_add a b
  unfold w64 IntKind.wrap IntKind.signed IntKind.bits at *
  simp at *
  omega

/-! ### One labelling -/
section
variable (T : List (List (List Int))) (G : List (List Int))
def dn (i : Nat) : Nat := (du T i).toNat
def edge (v j : Nat) : Nat := ((G.getD v []).getD j 0).toNat
def metJ (v : Nat) (M : List Bool) : Nat → List Bool
  | 0 => M
  | j + 1 => (metJ v M j).set (edge G v j) true
def chs (ls : List Nat) (v : Nat) (M : List Bool) (j : Nat) : Nat := if (metJ G v M j).getD (edge G v j) false = true then dn T (ls.getD (edge G v j) 0) else ls.getD (edge G v j) 0
def numV (ls : List Nat) (v : Nat) (M : List Bool) : Int := at3 T (chs T G ls v M 0) (chs T G ls v M 1) (dn T (chs T G ls v M 2))
def prodV (ls : List Nat) (E : Nat) : Nat → List Bool × Int
  | 0 => (List.replicate E false, 1)
  | v + 1 => (metJ G v (prodV ls E v).1 3, w64 ((prodV ls E v).2 * numV T G ls v (prodV ls E v).1))
end
def castL (ls : List Nat) : List Int := ls.map fun (x : Nat) => (x : Int)
theorem castL_len (ls : List Nat) : (castL ls).length = ls.length := by simp [castL]
theorem castL_idx {ls : List Nat} {i : Nat} (h : i < ls.length) : idx (castL ls) (i : Int) = some ((ls.getD i 0 : Nat) : Int) := by
  rw [idx_getD _ 0 (by rw [castL_len]; exact h)]
  simp [castL, List.getD, List.getElem?_eq_getElem h]
/-- A graph with E edges, its rows' edges in their range. -/
structure GrOK (G : List (List Int)) (E : Nat) : Prop where
  rows : ∀ v, v < G.length → (G.getD v []).length = 3
  two : 2 * E = 3 * G.length
  small : 1 ≤ E ∧ E ≤ 9
  rng : ∀ v, v < G.length → ∀ j, j < 3 → (G.getD v []).getD j 0 = ((edge G v j : Nat) : Int) ∧ edge G v j < E
theorem TriOK.gr {G : List (List Int)} (h : TriOK G) : ∃ E, GrOK G E := by
  obtain ⟨h3, E, h1, h2, h4, h5, _⟩ := h
  refine ⟨E, h3, h4, ⟨h1, h2⟩, fun v hv j hj => ?_⟩
  have hl := h3 v hv
  have := h5 _ (List.mem_flatten.2 ⟨_, getD_mem (d := []) hv, getD_mem (d := (0 : Int)) (by omega : j < (G.getD v []).length)⟩)
  unfold edge
  omega
section
variable {T : List (List (List Int))} {G : List (List Int)} {E : Nat} {ls : List Nat}
theorem dn_lt (h : RingOK T) {i : Nat} (hi : i < T.length) : dn T i < T.length := h.duN hi
theorem du_dn (h : RingOK T) {i : Nat} (hi : i < T.length) : du T i = ((dn T i : Nat) : Int) := by
  have := h.du0 hi
  unfold dn; omega
theorem metJ_len {v : Nat} {M : List Bool} : ∀ j, (metJ G v M j).length = M.length
  | 0 => rfl
  | j + 1 => by simp only [metJ, List.length_set, metJ_len j]
def LsOK (T : List (List (List Int))) (E : Nat) (ls : List Nat) : Prop := ls.length = E ∧ ∀ x ∈ ls, x < T.length
theorem LsOK.at (h : LsOK T E ls) {i : Nat} (hi : i < E) : ls.getD i 0 < T.length := h.2 _ (getD_mem (by rw [h.1]; exact hi))
theorem chs_lt (hT : RingOK T) (hG : GrOK G E) (hl : LsOK T E ls) {v j : Nat} (hv : v < G.length) (hj : j < 3) (M : List Bool) : chs T G ls v M j < T.length := by
  have he := (hG.rng v hv j hj).2
  unfold chs
  split
  · exact dn_lt hT (hl.at he)
  · exact hl.at he
/-- One step of either loop over a vertex' ends. -/
theorem step_facts (hT : RingOK T) (hG : GrOK G E) (hl : LsOK T E ls) {v j : Nat} (hv : v < G.length) (hj : j < 3) {M : List Bool} (hM : M.length = E) :
    idx G (v : Int) = some (G.getD v []) ∧ idx (G.getD v []) (j : Int) = some ((edge G v j : Nat) : Int) ∧ idx (metJ G v M j) ((edge G v j : Nat) : Int) = some ((metJ G v M j).getD (edge G v j) false) ∧ idx (castL ls) ((edge G v j : Nat) : Int) = some ((ls.getD (edge G v j) 0 : Nat) : Int) ∧
    idx (duL T) ((ls.getD (edge G v j) 0 : Nat) : Int) = some ((dn T (ls.getD (edge G v j) 0) : Nat) : Int) := by
  obtain ⟨h1, h2⟩ := hG.rng v hv j hj
  have h3 := hG.rows v hv
  refine ⟨idx_getD _ _ hv, by rw [idx_getD _ 0 (by omega), h1], idx_getD _ _ (by rw [metJ_len, hM]; exact h2), castL_idx (by rw [hl.1]; exact h2), ?_⟩
  rw [duL_idx (hl.at h2), du_dn hT (hl.at h2)]
theorem specEnds (hT : RingOK T) (hG : GrOK G E) (hl : LsOK T E ls) {v : Nat} (hv : v < G.length) {M : List Bool} (hM : M.length = E) :
    forN (R := Unit) (fun k (s : List Bool × List Int) => p_spec_l15Sum_L3 G (v : Int) (castL ls) (duL T) k s.1 s.2) 3 0 (M, ([] : List Int)) = some (.fin (metJ G v M 3, (List.range 3).map fun j => ((chs T G ls v M j : Nat) : Int))) := by
  have := forN_det (R := Unit) (N := 3) (body := fun k (s : List Bool × List Int) => p_spec_l15Sum_L3 G (v : Int) (castL ls) (duL T) k s.1 s.2) (fun j => (metJ G v M j, (List.range j).map fun j => ((chs T G ls v M j : Nat) : Int))) (fun j hj => by
    obtain ⟨f1, f2, f3, f4, f5⟩ := step_facts hT hG hl hv hj hM
    show p_spec_l15Sum_L3 G (v : Int) (castL ls) (duL T) j (metJ G v M j) ((List.range j).map fun j => ((chs T G ls v M j : Nat) : Int)) = _
    have ea := appL_range (fun j => ((chs T G ls v M j : Nat) : Int)) (by omega : j ≤ 1048576)
    simp only [p_spec_l15Sum_L3, f1, f2, f3, f4, Option.bind_some, Int.toNat_natCast]
    cases hb : (metJ G v M j).getD (edge G v j) false with
    | true =>
      have ec : chs T G ls v M j = dn T (ls.getD (edge G v j) 0) := by unfold chs; rw [hb]; rfl
      rw [ec] at ea
      simp only [if_true, f5, Option.bind_some, ea]
      rfl
    | false =>
      have ec : chs T G ls v M j = ls.getD (edge G v j) 0 := by unfold chs; rw [hb]; rfl
      rw [ec] at ea
      simp only [Bool.false_eq_true, if_false, ea, Option.bind_some]
      rfl)
  exact this
theorem implEnds (hT : RingOK T) (hG : GrOK G E) (hl : LsOK T E ls) {v : Nat} (hv : v < G.length) {M : List Bool} (hM : M.length = E) :
    forN (R := Unit) (fun k (s : List Bool × List Int) => p_impl_GraphDimension_L4 (G.getD v []) (castL ls) (duL T) k s.1 s.2) (G.getD v []).length 0 (M, ([0, 0, 0] : List Int)) = some (.fin (metJ G v M 3, (List.range 3).map fun j => ((chs T G ls v M j : Nat) : Int))) := by
  rw [hG.rows v hv]
  have := forN_det (R := Unit) (N := 3) (body := fun k (s : List Bool × List Int) => p_impl_GraphDimension_L4 (G.getD v []) (castL ls) (duL T) k s.1 s.2) (fun j => (metJ G v M j, vecG (fun q => if q < j then ((chs T G ls v M q : Nat) : Int) else 0) 3)) (fun j hj => by
    obtain ⟨f1, f2, f3, f4, f5⟩ := step_facts hT hG hl hv hj hM
    show p_impl_GraphDimension_L4 (G.getD v []) (castL ls) (duL T) j (metJ G v M j) (vecG (fun q => if q < j then ((chs T G ls v M q : Nat) : Int) else 0) 3) = _
    have e1 : idx (vecG (fun q => if q < j then ((chs T G ls v M q : Nat) : Int) else 0) 3) (j : Int) = some 0 := by rw [vecG_idx hj, if_neg (by omega)]
    have es : ∀ x : Int, x = ((chs T G ls v M j : Nat) : Int) → (vecG (fun q => if q < j then ((chs T G ls v M q : Nat) : Int) else 0) 3).set j x = vecG (fun q => if q < j + 1 then ((chs T G ls v M q : Nat) : Int) else 0) 3 := fun x hx => by
      rw [vecG_set hj]
      refine vecG_congr fun q hq => ?_
      simp only [up1]
      by_cases h : q = j
      · subst h; rw [if_pos rfl, if_pos (by omega), hx]
      · rw [if_neg h]
        by_cases h2 : q < j
        · rw [if_pos h2, if_pos (by omega)]
        · rw [if_neg h2, if_neg (by omega)]
    simp only [p_impl_GraphDimension_L4, f2, f3, f4, e1, Option.bind_some, Int.toNat_natCast]
    cases hb : (metJ G v M j).getD (edge G v j) false with
    | true =>
      have ec : chs T G ls v M j = dn T (ls.getD (edge G v j) 0) := by unfold chs; rw [hb]; rfl
      have e2 : idx ((vecG (fun q => if q < j then ((chs T G ls v M q : Nat) : Int) else 0) 3).set j ((ls.getD (edge G v j) 0 : Nat) : Int)) (j : Int) = some ((ls.getD (edge G v j) 0 : Nat) : Int) := by
        rw [idx_getD _ 0 (by rw [List.length_set, vecG_len]; exact hj), getD_set_eq _ _ _ (by rw [vecG_len]; exact hj)]
      simp only [if_true, f5, e2, Option.bind_some, List.set_set]
      rw [es _ (by rw [ec])]
      rfl
    | false =>
      have ec : chs T G ls v M j = ls.getD (edge G v j) 0 := by unfold chs; rw [hb]; rfl
      simp only [Bool.false_eq_true, if_false, Option.bind_some]
      rw [es _ (by rw [ec])]
      rfl)
  have e0 : vecG (fun q => if q < 0 then ((chs T G ls v M q : Nat) : Int) else 0) 3 = [0, 0, 0] := rfl
  have e3 : vecG (fun q => if q < 3 then ((chs T G ls v M q : Nat) : Int) else 0) 3 = (List.range 3).map fun j => ((chs T G ls v M j : Nat) : Int) := vecG_congr fun q hq => if_pos hq
  simp only [e0, e3] at this
  exact this
theorem vertex_facts (hT : RingOK T) (hG : GrOK G E) (hl : LsOK T E ls) {v : Nat} (hv : v < G.length) (M : List Bool) :
    idx ((List.range 3).map fun j => ((chs T G ls v M j : Nat) : Int)) (0 : Int) = some ((chs T G ls v M 0 : Nat) : Int) ∧ idx ((List.range 3).map fun j => ((chs T G ls v M j : Nat) : Int)) (1 : Int) = some ((chs T G ls v M 1 : Nat) : Int) ∧ idx ((List.range 3).map fun j => ((chs T G ls v M j : Nat) : Int)) (2 : Int) = some ((chs T G ls v M 2 : Nat) : Int) ∧
    idx T ((chs T G ls v M 0 : Nat) : Int) = some (T.getD (chs T G ls v M 0) []) ∧ idx (T.getD (chs T G ls v M 0) []) ((chs T G ls v M 1 : Nat) : Int) = some ((T.getD (chs T G ls v M 0) []).getD (chs T G ls v M 1) []) ∧
    idx (duL T) ((chs T G ls v M 2 : Nat) : Int) = some ((dn T (chs T G ls v M 2) : Nat) : Int) ∧ idx ((T.getD (chs T G ls v M 0) []).getD (chs T G ls v M 1) []) ((dn T (chs T G ls v M 2) : Nat) : Int) = some (numV T G ls v M) := by
  have c0 := chs_lt hT hG hl hv (by omega : 0 < 3) M
  have c1 := chs_lt hT hG hl hv (by omega : 1 < 3) M
  have c2 := chs_lt hT hG hl hv (by omega : 2 < 3) M
  refine ⟨rfl, rfl, rfl, hT.cube.i1 c0, hT.cube.i2 c0 c1, by rw [duL_idx c2, du_dn hT c2], hT.cube.i3 c0 c1 (dn_lt hT c2)⟩
theorem prodV_len (ls : List Nat) : ∀ v, (prodV T G ls E v).1.length = E
  | 0 => by simp [prodV]
  | v + 1 => by simp only [prodV, metJ_len, prodV_len ls v]
theorem prodV_zero {v : Nat} (h : (prodV T G ls E v).2 = 0) : ∀ c, (prodV T G ls E (v + c)).2 = 0
  | 0 => h
  | c + 1 => by
    show w64 ((prodV T G ls E (v + c)).2 * _) = 0
    rw [prodV_zero h c, Int.zero_mul]
    exact w64_small (by decide) (by decide)
def vp (T : List (List (List Int))) (G : List (List Int)) (E : Nat) (ls : List Nat) : Int := (prodV T G ls E G.length).2
theorem specVal (hT : RingOK T) (hG : GrOK G E) (hl : LsOK T E ls) : ∃ s, whileC (R := Unit) (fun s : List Bool × Int × Int => p_spec_l15Sum_L2 G (castL ls) (duL T) T s.1 s.2.1 s.2.2) (List.replicate E false, (1 : Int), (0 : Int)) = some (.fin s) ∧ s.2.1 = vp T G E ls := by
  have hV : G.length ≤ 6 := by have := hG.two; have := hG.small; omega
  have key : ∀ c v, v + c = G.length → ∃ n s, iterW (R := Unit) (fun s : List Bool × Int × Int => p_spec_l15Sum_L2 G (castL ls) (duL T) T s.1 s.2.1 s.2.2) n ((prodV T G ls E v).1, (prodV T G ls E v).2, (v : Int)) = some (.fin s) ∧ s.2.1 = vp T G E ls := by
    intro c
    induction c with
    | zero =>
      intro v hv
      have ec : (decide ((v : Int) < (G.length : Int)) && (prodV T G ls E v).2 != 0) = false := by
        have : decide ((v : Int) < (G.length : Int)) = false := decide_eq_false (by omega)
        rw [this]; rfl
      refine ⟨1, _, iterW_brk (s' := ((prodV T G ls E v).1, (prodV T G ls E v).2, (v : Int))) ?_, ?_⟩
      · show p_spec_l15Sum_L2 G (castL ls) (duL T) T (prodV T G ls E v).1 (prodV T G ls E v).2 (v : Int) = _
        simp only [p_spec_l15Sum_L2, ec, Bool.false_eq_true, if_false]
      · unfold vp
        have : v = G.length := by omega
        rw [this]
    | succ c ih =>
      intro v hv
      by_cases h0 : (prodV T G ls E v).2 = 0
      · have ec : (decide ((v : Int) < (G.length : Int)) && (prodV T G ls E v).2 != 0) = false := by rw [h0]; simp
        refine ⟨1, _, iterW_brk (s' := ((prodV T G ls E v).1, (prodV T G ls E v).2, (v : Int))) ?_, ?_⟩
        · show p_spec_l15Sum_L2 G (castL ls) (duL T) T (prodV T G ls E v).1 (prodV T G ls E v).2 (v : Int) = _
          simp only [p_spec_l15Sum_L2, ec, Bool.false_eq_true, if_false]
        · unfold vp
          have := prodV_zero h0 (c + 1)
          rw [hv] at this
          rw [this]; exact h0
      · have hvl : v < G.length := by omega
        have ec : (decide ((v : Int) < (G.length : Int)) && (prodV T G ls E v).2 != 0) = true := by
          have h1 : decide ((v : Int) < (G.length : Int)) = true := decide_eq_true (by omega)
          have h2 : ((prodV T G ls E v).2 != 0) = true := bne_iff_ne.2 h0
          rw [h1, h2]; rfl
        obtain ⟨n, s, e1, e2⟩ := ih (v + 1) (by omega)
        refine ⟨n + 1, s, iterW_next ?_ e1, e2⟩
        show p_spec_l15Sum_L2 G (castL ls) (duL T) T (prodV T G ls E v).1 (prodV T G ls E v).2 (v : Int) = _
        obtain ⟨g0, g1, g2, g3, g4, g5, g6⟩ := vertex_facts hT hG hl hvl (prodV T G ls E v).1
        have t3 : (3 : Int).toNat = 3 := rfl
        simp only [p_spec_l15Sum_L2, ec, if_true, t3, specEnds hT hG hl hvl (prodV_len ls v), Option.bind_some, onRes, g0, g1, g2, g3, g4, g5, g6]
        rw [w64_small (x := (v : Int) + 1) (by omega) (by omega)]
        rfl
  obtain ⟨n, s, e1, e2⟩ := key G.length 0 (by omega)
  exact ⟨s, whileC_of e1, e2⟩
theorem implVal (hT : RingOK T) (hG : GrOK G E) (hl : LsOK T E ls) : forN (R := Unit) (fun k (s : List Bool × Int) => p_impl_GraphDimension_L3 G (castL ls) (duL T) T k s.1 s.2) G.length 0 (List.replicate E false, (1 : Int)) = some (.fin (prodV T G ls E G.length)) := by
  have := forN_det (R := Unit) (N := G.length) (body := fun k (s : List Bool × Int) => p_impl_GraphDimension_L3 G (castL ls) (duL T) T k s.1 s.2) (fun v => prodV T G ls E v) (fun v hv => by
    obtain ⟨g0, g1, g2, g3, g4, g5, g6⟩ := vertex_facts hT hG hl hv (prodV T G ls E v).1
    show p_impl_GraphDimension_L3 G (castL ls) (duL T) T v (prodV T G ls E v).1 (prodV T G ls E v).2 = _
    simp only [p_impl_GraphDimension_L3, idx_getD G [] hv, implEnds hT hG hl hv (prodV_len ls v), Option.bind_some, onRes, g0, g1, g2, g3, g4, g5, g6]
    rfl)
  exact this
end
end Go.VG
