/- Characters and lists of a commutative ring: the codes, pairings, turned lists. Plain. -/
import Derived.Test.YtoobahemnnhkbaaPlChar
import Derived.Test.YtoobahemnnhkbaaPlLoops
import Derived.Test.YtoobahemnnhkbaaPlGrid
set_option linter.all false
namespace Go.VG
def GoodL (T : List (List (List Int))) (x : List Int) : Prop := x.length = T.length ∧ NumOK x
def PgL (T : List (List (List Int))) (good : Bool) (x : List Int) : Prop := GoodL T x ∧ (good = true → ChrOK T x)
theorem goodL_says (T : List (List (List Int))) (x : List Int) : Says (p_impl_Ring_isList T x) (GoodL T x) := by
  unfold p_impl_Ring_isList
  refine Says.congr (Says.id (Says.and fun _ => Says.id (implNums x))) ?_
  simp only [beq_iff_eq]
  exact ⟨fun h => ⟨by have := h.1; omega, h.2⟩, fun h => ⟨by have := h.1; omega, h.2⟩⟩
section
variable {T : List (List (List Int))}
open Classical in
theorem list_step (h : Cube T) (good : Bool) (list : List (List Int)) {i : Nat} (hi : i < list.length) (hs : list.length ≤ 1048576) :
    p_spec_l08List_L1 list T good 0 (i : Int) = some (.next ((if PgL T good (list.getD i []) then 0 else 2), ((i + 1 : Nat) : Int))) := by
  have e5 : w64 ((i : Int) + 1) = ((i + 1 : Nat) : Int) := by rw [w64_small (by omega) (by omega)]; rfl
  have e1 : (decide ((i : Int) < (list.length : Int)) && ((0 : Int) == 0)) = true := by simp; exact hi
  obtain ⟨b, e2, hb⟩ := specNums (list.getD i [])
  simp only [p_spec_l08List_L1, e1, if_true, idx_getD list [] hi, Option.bind_some, e2, e5]
  generalize list.getD i [] = x at *
  by_cases hl : x.length = T.length
  · have e3 : ((x.length : Int) != (T.length : Int)) = false := (bne_len _ _).2 hl
    cases b
    · have : ¬ PgL T good x := fun hh => by have := hb.2 hh.1.2; cases this
      simp [e3, this]
    · have hx := hb.1 rfl
      obtain ⟨c, e4, hc⟩ := specChr h hl hx
      cases good
      · have : PgL T false x := ⟨⟨hl, hx⟩, fun h => by cases h⟩
        simp [e3, this]
      · cases c
        · have : ¬ PgL T true x := fun hh => by have := hc.2 (hh.2 rfl); cases this
          simp [e3, e4, this]
        · have : PgL T true x := ⟨⟨hl, hx⟩, fun _ => hc.1 rfl⟩
          simp [e3, e4, this]
  · have e3 : ((x.length : Int) != (T.length : Int)) = true := by simp; omega
    have : ¬ PgL T good x := fun hh => hl hh.1.1
    simp [e3, this]
open Classical in
theorem list_eq (h : Cube T) (good : Bool) (list : List (List Int)) (hs : list.length ≤ 1048576) (hc : p_spec_l08Code T = some 0) :
    p_spec_l08List T good list = some (if ∀ j, j < list.length → PgL T good (list.getD j []) then 0 else 2) := by
  have key : ∀ (c k : Nat), k + c = list.length → (∀ j, j < k → PgL T good (list.getD j [])) →
      ∃ x, iterW (R := Unit) (fun s => p_spec_l08List_L1 list T good s.1 s.2) (c + 1) ((0 : Int), (k : Int)) = some (.fin ((if ∀ j, j < list.length → PgL T good (list.getD j []) then 0 else 2), x)) := by
    intro c
    induction c with
    | zero =>
      intro k hk hall
      obtain rfl : k = list.length := by omega
      refine ⟨(list.length : Int), ?_⟩
      rw [if_pos hall]
      exact iterN_brk (by simp [p_spec_l08List_L1])
    | succ c ih =>
      intro k hk hall
      have st := list_step h good list (i := k) (by omega) hs
      by_cases hp : PgL T good (list.getD k [])
      · rw [if_pos hp] at st
        obtain ⟨x, hx⟩ := ih (k + 1) (by omega) (fun j hj => by
          by_cases e : j = k
          · subst e; exact hp
          · exact hall j (by omega))
        exact ⟨x, by rw [iterN_next (s' := ((0 : Int), ((k + 1 : Nat) : Int))) st]; exact hx⟩
      · rw [if_neg hp] at st
        refine ⟨((k + 1 : Nat) : Int), ?_⟩
        rw [if_neg (fun hh => hp (hh k (by omega)))]
        rw [iterN_next (s' := ((2 : Int), ((k + 1 : Nat) : Int))) st]
        exact iterN_brk (by simp [p_spec_l08List_L1])
  obtain ⟨x, hx⟩ := key list.length 0 (by omega) (fun j hj => by omega)
  unfold p_spec_l08List
  rw [hc]
  simp only [Option.bind_some]
  have hx' : iterW (R := Unit) (fun s => p_spec_l08List_L1 list T good s.1 s.2) (list.length + 1) ((0 : Int), (0 : Int)) = _ := hx
  rw [whileC_of hx']
  rfl
theorem list_off (good : Bool) (list : List (List Int)) {c : Int} (hc : p_spec_l08Code T = some c) (h0 : c ≠ 0) : p_spec_l08List T good list = some c := by
  unfold p_spec_l08List
  rw [hc]
  simp only [Option.bind_some]
  rw [show whileC (R := Unit) (fun s => p_spec_l08List_L1 list T good s.1 s.2) (c, (0 : Int)) = some (.fin (c, 0)) from
    whileC_of (iterW_brk (by simp [p_spec_l08List_L1, h0]))]
  rfl
open Classical in
theorem chrCode_eq (h : Cube T) (cs ls : List (List Int)) (hs : cs.length + ls.length ≤ 1048576) (hc : p_impl_commuteCode T = some 0) :
    p_impl_characterCode T cs ls = some (if (∀ x ∈ cs, GoodL T x ∧ ChrOK T x) ∧ ∀ x ∈ ls, GoodL T x then 0 else 2) := by
  unfold p_impl_characterCode
  rw [hc]
  have ef : [cs, ls].flatten = cs ++ ls := by simp
  have e1 : p_slices_Concat_LLint64_Lint64 [cs, ls] = some (cs ++ ls) := by
    unfold p_slices_Concat_LLint64_Lint64
    rw [ef, if_pos ⟨by rw [List.length_append]; exact hs, by simp⟩]
  simp only [Option.bind_some, e1, (by decide : ((0 : Int) != 0) = false), Bool.false_eq_true, if_false]
  have l1 := forN_chk (R := Int) (N := (cs ++ ls).length) (body := fun k s => p_impl_characterCode_L1 (cs ++ ls) T k) (P := fun j => GoodL T ((cs ++ ls).getD j [])) (Bad := fun r => r = 2) (fun j hj _ => by
    simp only [p_impl_characterCode_L1, idx_getD (cs ++ ls) [] hj, Option.bind_some]
    exact ChkC.bindNot (goodL_says T _) rfl)
  rcases l1 with ⟨h1, e2⟩ | ⟨h1, r, e2, rfl⟩ <;> rw [e2] <;> simp only [Option.bind_some, onRes]
  · have hg : ∀ x ∈ cs ++ ls, GoodL T x := fun x hx => by
      obtain ⟨j, hj, rfl⟩ := mem_getD [] hx
      exact h1 j hj
    have l2 := forN_chk (R := Int) (N := cs.length) (body := fun k s => p_impl_characterCode_L2 cs T k) (P := fun j => ChrOK T (cs.getD j [])) (Bad := fun r => r = 2) (fun j hj _ => by
      have hx := hg _ (List.mem_append_left _ (getD_mem (d := []) hj))
      simp only [p_impl_characterCode_L2, idx_getD cs [] hj, Option.bind_some]
      exact ChkC.bindNot (implChr h hx.1 hx.2) rfl)
    rcases l2 with ⟨h2, e3⟩ | ⟨h2, r, e3, rfl⟩ <;> rw [e3] <;> simp only [Option.bind_some, onRes]
    · have hA : (∀ x ∈ cs, GoodL T x ∧ ChrOK T x) ∧ ∀ x ∈ ls, GoodL T x := by
        refine ⟨fun x hx => ⟨hg x (List.mem_append_left _ hx), ?_⟩, fun x hx => hg x (List.mem_append_right _ hx)⟩
        obtain ⟨j, hj, rfl⟩ := mem_getD [] hx
        exact h2 j hj
      rw [if_pos hA]
    · rw [if_neg (fun hh => h2 fun j hj => (hh.1 _ (getD_mem hj)).2)]
  · have hA : ¬ ((∀ x ∈ cs, GoodL T x ∧ ChrOK T x) ∧ ∀ x ∈ ls, GoodL T x) := by
      intro hh
      refine h1 fun j hj => ?_
      rcases List.mem_append.1 (getD_mem (d := []) hj) with hm | hm
      · exact (hh.1 _ hm).1
      · exact hh.2 _ hm
    rw [if_neg hA]
theorem chrCode_off (cs ls : List (List Int)) {c : Int} (hc : p_impl_commuteCode T = some c) (h0 : c ≠ 0) : p_impl_characterCode T cs ls = some c := by
  unfold p_impl_characterCode
  rw [hc]
  have : (c != 0) = true := by simpa using h0
  simp only [Option.bind_some, this, if_true]

/-! ### Turned lists and pairings -/
def tuL (T : List (List (List Int))) (y : List Int) : List Int := vecG (fun i => y.getD (du T i).toNat 0) T.length
theorem tuL_len (y : List Int) : (tuL T y).length = T.length := vecG_len
theorem tu_idx (h : RingOK T) {y : List Int} (hl : y.length = T.length) {i : Nat} (hi : i < T.length) : idx y (du T i) = some (y.getD (du T i).toNat 0) := idx_toNat _ _ (h.du0 hi) (by have := h.duN hi; have := h.du0 hi; omega)
theorem implTurn (h : RingOK T) {y : List Int} (hl : y.length = T.length) : p_impl_turnList (duL T) y = some (tuL T y) := by
  have hn := h.cube.1.2
  unfold p_impl_turnList
  rw [duL_len, forN_app (R := Unit) (N := T.length) (body := fun k s => p_impl_turnList_L1 (duL T) y k s) (fun i => y.getD (du T i).toNat 0) (fun i hi => by
    simp only [p_impl_turnList_L1, duL_idx hi, tu_idx h hl hi, Option.bind_some, app_range (fun i => y.getD (du T i).toNat 0) (by omega : i ≤ 1048576)])]
  rfl
theorem dot_pair (h : RingOK T) {x y : List Int} (hx : GoodL T x) (hy : GoodL T y) : ∀ k, k < x.length → 0 ≤ x.getD k 0 * (tuL T y).getD k 0 ∧ x.getD k 0 * (tuL T y).getD k 0 ≤ 4000000000 := fun k hk => by
  have hk' : k < T.length := by rw [← hx.1]; exact hk
  have hd := h.duN hk'
  rw [show (tuL T y).getD k 0 = y.getD (du T k).toNat 0 from vecG_getD hk']
  have := prod_small (hx.2 k hk) (hy.2 (du T k).toNat (by rw [hy.1]; exact hd)) (by decide)
  exact ⟨this.1, this.2.1⟩
theorem implPairing (h : RingOK T) {x y : List Int} (hx : GoodL T x) (hy : GoodL T y) : p_impl_Ring_pairing T x y = some (dotM x (tuL T y)) := by
  have hn := h.cube.1.2
  unfold p_impl_Ring_pairing
  rw [duals_eq h.cube]
  simp only [Option.bind_some, implTurn h hy.1]
  rw [implDot (by rw [hx.1, tuL_len]) (by rw [hx.1]; omega) (dot_pair h hx hy)]
  rfl
theorem specPairing (h : RingOK T) {x y : List Int} (hx : GoodL T x) (hy : GoodL T y) : p_spec_l08Pair x y (duL T) = some (dotM x (tuL T y)) := by
  rw [← specDot (by rw [hx.1, tuL_len]) (dot_pair h hx hy)]
  unfold p_spec_l08Pair p_spec_l01Dot
  rw [forN_congr (b' := fun k s => p_spec_l01Dot_L1 x (tuL T y) k s) x.length 0 0 (fun k s hk => by
    have hk' : k < T.length := by rw [← hx.1]; omega
    simp only [p_spec_l08Pair_L1, p_spec_l01Dot_L1, duL_idx hk', tu_idx h hy.1 hk', Option.bind_some, idx_getD (tuL T y) 0 (by rw [tuL_len]; exact hk')]
    rw [show (tuL T y).getD k 0 = y.getD (du T k).toNat 0 from vecG_getD hk'])]
theorem specDuals (h : RingOK T) : p_spec_l03Duals T = some (duL T) := by
  have hn := h.cube.1.2
  unfold p_spec_l03Duals
  rw [forN_app (R := Unit) (N := T.length) (body := fun k s => p_spec_l03Duals_L1 T k s) (du T) (fun j hj => by
    simp only [p_spec_l03Duals_L1, (dual_spec h.cube hj).1, Option.bind_some, app_range (du T) (by omega : j ≤ 1048576)])]
  rfl
end
end Go.VG
