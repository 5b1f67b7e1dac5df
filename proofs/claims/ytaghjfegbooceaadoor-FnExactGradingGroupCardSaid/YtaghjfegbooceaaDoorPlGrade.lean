/- The grading: products of components lie in one component. Plain. -/
import Derived.Test.YtaghjfegbooceaaDoorPlComps
set_option linter.all false
namespace Go.VG
section
variable {T : List (List (List Int))}
/-- k occurs in i times j. -/
def Oc (T : List (List (List Int))) (i j k : Nat) : Prop := 0 < at3 T i j k
def dN (T : List (List (List Int))) (i : Nat) : Nat := (du T i).toNat
theorem RingOK.dlt (h : RingOK T) {i : Nat} (hi : i < T.length) : dN T i < T.length := h.duN hi
theorem RingOK.ddN (h : RingOK T) {i : Nat} (hi : i < T.length) : dN T (dN T i) = i := h.dd hi
theorem RingOK.t1 (h : RingOK T) {i j k : Nat} (hi : i < T.length) (hj : j < T.length) (hk : k < T.length) : Oc T i j k → Oc T (dN T i) k j := by
  unfold Oc dN; rw [(h.turn i hi j hj k hk).1]; exact id
theorem RingOK.t2 (h : RingOK T) {i j k : Nat} (hi : i < T.length) (hj : j < T.length) (hk : k < T.length) : Oc T i j k → Oc T k (dN T j) i := by
  unfold Oc dN; rw [(h.turn i hi j hj k hk).2]; exact id
/-- The dual of a product. -/
theorem RingOK.td (h : RingOK T) {i j k : Nat} (hi : i < T.length) (hj : j < T.length) (hk : k < T.length) (hp : Oc T i j k) : Oc T (dN T j) (dN T i) (dN T k) :=
  h.t2 (h.dlt hk) hi (h.dlt hj) (h.t1 hk (h.dlt hj) hi (h.t2 hi hj hk hp))
theorem RingOK.as1 (h : RingOK T) {i j k l e : Nat} (hi : i < T.length) (hj : j < T.length) (hk : k < T.length) (hl : l < T.length) (he : e < T.length) (h1 : Oc T i j e) (h2 : Oc T e k l) : ∃ e, e < T.length ∧ Oc T j k e ∧ Oc T i e l := (h.assoc hi hj hk hl).1 ⟨e, he, h1, h2⟩
theorem RingOK.as2 (h : RingOK T) {i j k l e : Nat} (hi : i < T.length) (hj : j < T.length) (hk : k < T.length) (hl : l < T.length) (he : e < T.length) (h1 : Oc T j k e) (h2 : Oc T i e l) : ∃ e, e < T.length ∧ Oc T i j e ∧ Oc T e k l := (h.assoc hi hj hk hl).2 ⟨e, he, h1, h2⟩
theorem RingOK.u0 (h : RingOK T) {i k : Nat} (hi : i < T.length) (hk : k < T.length) : (Oc T i 0 k ↔ i = k) ∧ (Oc T 0 i k ↔ i = k) := by
  unfold Oc
  rw [(h.unit i hi k hk).1, (h.unit i hi k hk).2]
  unfold dl
  split <;> simp_all
theorem RingOK.pos (h : RingOK T) : 0 < T.length := by have := h.n1; omega
theorem RingOK.dual0 (h : RingOK T) {i : Nat} (hi : i < T.length) : Oc T i (dN T i) 0 := by
  rcases (dual_spec h.cube hi).2 with ⟨g1, g2, g3, g4⟩ | ⟨g1, g2⟩
  · have g5 : at3 T i (du T i).toNat 0 = 1 := g3
    unfold Oc dN; rw [g5]; decide
  · have := h.du0 hi; omega
/-- No product is empty. -/
theorem RingOK.some (h : RingOK T) {i j : Nat} (hi : i < T.length) (hj : j < T.length) : ∃ k, k < T.length ∧ Oc T i j k := by
  obtain ⟨e, he, h1, _⟩ := h.as2 (i := i) (j := j) (k := dN T j) (l := i) hi hj (h.dlt hj) hi h.pos (h.dual0 hj) ((h.u0 hi hi).1.2 rfl)
  exact ⟨e, he, h1⟩

/-! ### The adjoint subring is normal -/
def InA (T : List (List (List Int))) (a : Nat) : Prop := a < T.length ∧ (adj T).testBit a = true
theorem adj0 (h : RingOK T) : (adj T).testBit 0 = true := by rw [← adj_fix h]; exact spr_zero _
theorem InA.zero (h : RingOK T) : InA T 0 := ⟨h.pos, adj0 h⟩
theorem InA.dual (h : RingOK T) {a : Nat} (ha : InA T a) : InA T (dN T a) := ⟨h.dlt ha.1, ((spr_fix_iff (adj0 h)).1 (adj_fix h) a ha.1 ha.2).1⟩
theorem InA.prod (h : RingOK T) {a b c : Nat} (ha : InA T a) (hb : InA T b) (hc : c < T.length) (hp : Oc T a b c) : InA T c := ⟨hc, ((spr_fix_iff (adj0 h)).1 (adj_fix h) a ha.1 ha.2).2 b hb.1 hb.2 c hc hp⟩
theorem clN_sub : ∀ (c m k : Nat), m.testBit k = true → (clN T c m).testBit k = true
  | 0, _, _, hk => hk
  | c + 1, m, k, hk => clN_sub c (spr T m) k ((spr_bit m k).2 (.inl hk))
theorem InA.gen (h : RingOK T) {y w : Nat} (hy : y < T.length) (hw : w < T.length) (hp : Oc T y (dN T y) w) : InA T w := by
  refine ⟨hw, clN_sub _ _ _ ?_⟩
  unfold adjW
  rw [Nat.testBit_or, Bool.or_eq_true]
  exact .inr ((orN_bit _ _ _).2 ⟨y, hy, (supp_bit _ _ _).2 ⟨hw, hp⟩⟩)
theorem InA.gen' (h : RingOK T) {y w : Nat} (hy : y < T.length) (hw : w < T.length) (hp : Oc T (dN T y) y w) : InA T w := InA.gen h (h.dlt hy) hw (by rw [h.ddN hy]; exact hp)
/-- A label that may be moved from the one side to the other. -/
def Nrm (T : List (List (List Int))) (w : Nat) : Prop := ∀ X Z, X < T.length → Z < T.length → (Oc T X w Z → ∃ a, InA T a ∧ Oc T a X Z) ∧ (Oc T w X Z → ∃ a, InA T a ∧ Oc T X a Z)
def GoodW (T : List (List (List Int))) (m : Nat) : Prop := ∀ w, w < T.length → m.testBit w = true → Nrm T w
theorem nrm0 (h : RingOK T) : Nrm T 0 := fun X Z hX hZ => ⟨fun hp => ⟨0, InA.zero h, (h.u0 hX hZ).2.2 ((h.u0 hX hZ).1.1 hp)⟩, fun hp => ⟨0, InA.zero h, (h.u0 hX hZ).1.2 ((h.u0 hX hZ).2.1 hp)⟩⟩
theorem nrm_gen (h : RingOK T) {y w : Nat} (hy : y < T.length) (hw : w < T.length) (hp : Oc T y (dN T y) w) : Nrm T w := by
  have hd := h.dlt hy
  refine fun X Z hX hZ => ⟨fun hq => ?_, fun hq => ?_⟩
  · obtain ⟨V, hV, h1, h2⟩ := h.as2 hX hy hd hZ hw hp hq
    have h3 := h.t1 hV hd hX (h.t2 hX hy hV h1)
    obtain ⟨e, he, g1, g2⟩ := h.as2 (i := V) (j := dN T V) (k := X) (l := Z) hV (h.dlt hV) hX hZ hd h3 h2
    exact ⟨e, InA.gen h hV he g1, g2⟩
  · obtain ⟨U, hU, h1, h2⟩ := h.as1 (i := y) (j := dN T y) (k := X) (l := Z) hy hd hX hZ hw hp hq
    have h3 := h.t1 hd hX hU h1
    rw [h.ddN hy] at h3
    obtain ⟨e, he, g1, g2⟩ := h.as1 (i := X) (j := dN T U) (k := U) (l := Z) hX (h.dlt hU) hU hZ hy (h.t2 hy hU hX h3) h2
    exact ⟨e, InA.gen' h hU he g1, g2⟩
theorem nrm_dual (h : RingOK T) {w : Nat} (hw : w < T.length) (hn : Nrm T w) : Nrm T (dN T w) := by
  have hd := h.dlt hw
  refine fun X Z hX hZ => ⟨fun hq => ?_, fun hq => ?_⟩
  · have h1 := h.td hX hd hZ hq
    rw [h.ddN hw] at h1
    obtain ⟨a, ha, g⟩ := (hn _ _ (h.dlt hX) (h.dlt hZ)).2 h1
    have g2 := h.td (h.dlt hX) ha.1 (h.dlt hZ) g
    rw [h.ddN hX, h.ddN hZ] at g2
    exact ⟨dN T a, InA.dual h ha, g2⟩
  · have h1 := h.td hd hX hZ hq
    rw [h.ddN hw] at h1
    obtain ⟨a, ha, g⟩ := (hn _ _ (h.dlt hX) (h.dlt hZ)).1 h1
    have g2 := h.td ha.1 (h.dlt hX) (h.dlt hZ) g
    rw [h.ddN hX, h.ddN hZ] at g2
    exact ⟨dN T a, InA.dual h ha, g2⟩
theorem nrm_prod (h : RingOK T) {i j k : Nat} (hi : i < T.length) (hj : j < T.length) (hk : k < T.length) (ni : Nrm T i) (nj : Nrm T j) (hp : Oc T i j k) : Nrm T k := by
  refine fun X Z hX hZ => ⟨fun hq => ?_, fun hq => ?_⟩
  · obtain ⟨e, he, h1, h2⟩ := h.as2 hX hi hj hZ hk hp hq
    obtain ⟨a, ha, g1⟩ := (ni X e hX he).1 h1
    obtain ⟨b, hb, g2⟩ := (nj e Z he hZ).1 h2
    obtain ⟨c, hc, g3, g4⟩ := h.as2 hb.1 ha.1 hX hZ he g1 g2
    exact ⟨c, InA.prod h hb ha hc g3, g4⟩
  · obtain ⟨e, he, h1, h2⟩ := h.as1 hi hj hX hZ hk hp hq
    obtain ⟨b, hb, g1⟩ := (nj X e hX he).2 h1
    obtain ⟨a, ha, g2⟩ := (ni e Z he hZ).2 h2
    obtain ⟨c, hc, g3, g4⟩ := h.as1 hX hb.1 ha.1 hZ he g1 g2
    exact ⟨c, InA.prod h hb ha hc g3, g4⟩
theorem good_spr (h : RingOK T) {m : Nat} (hm : GoodW T m) : GoodW T (spr T m) := fun w hw hb => by
  rcases (spr_bit m w).1 hb with h1 | rfl | ⟨i, hi, hmi, h1 | ⟨j, hj, hmj, _, hp⟩⟩
  · exact hm w hw h1
  · exact nrm0 h
  · rw [← h1]; exact nrm_dual h hi (hm i hi hmi)
  · exact nrm_prod h hi hj hw (hm i hi hmi) (hm j hj hmj) hp
theorem good_cl (h : RingOK T) : ∀ (c m : Nat), GoodW T m → GoodW T (clN T c m)
  | 0, _, hm => hm
  | c + 1, m, hm => good_cl h c _ (good_spr h hm)
theorem nrm_adj (h : RingOK T) {a : Nat} (ha : InA T a) : Nrm T a := by
  refine good_cl h (2 ^ T.length) (adjW T) (fun w hw hb => ?_) a ha.1 ha.2
  unfold adjW at hb
  rw [Nat.testBit_or, Bool.or_eq_true, one_bit, orN_bit] at hb
  rcases hb with rfl | ⟨y, hy, hp⟩
  · exact nrm0 h
  · exact nrm_gen h hy hw ((supp_bit _ _ _).1 hp).2

/-! ### Products of components -/
def rA (T : List (List (List Int))) : Nat → Nat → Bool := rbC T (adj T)
theorem rA_iff (i k : Nat) : rA T i k = true ↔ ∃ a, InA T a ∧ k < T.length ∧ Oc T i a k := by
  unfold rA
  rw [rbC_iff]
  exact ⟨fun ⟨j, h1, h2, h3, h4⟩ => ⟨j, ⟨h1, h2⟩, h3, h4⟩, fun ⟨j, h1, h3, h4⟩ => ⟨j, h1.1, h1.2, h3, h4⟩⟩
theorem rA_eqv (h : RingOK T) : Eqv T.length (rA T) := cos_eqv h (adj_fix h)
theorem prod_one (h : RingOK T) {i j k k' : Nat} (hi : i < T.length) (hj : j < T.length) (hk : k < T.length) (hk' : k' < T.length) (h1 : Oc T i j k) (h2 : Oc T i j k') : rA T k k' = true := by
  obtain ⟨c, hc, g1, g2⟩ := h.as1 hk (h.dlt hj) hj hk' hi (h.t2 hi hj hk h1) h2
  exact (rA_iff k k').2 ⟨c, InA.gen' h hj hc g1, hk', g2⟩
theorem prod_two (h : RingOK T) {i j k i' j' k' : Nat} (hi : i < T.length) (hj : j < T.length) (hk : k < T.length) (hi' : i' < T.length) (hj' : j' < T.length) (hk' : k' < T.length)
    (ri : rA T i i' = true) (rj : rA T j j' = true) (h1 : Oc T i j k) (h2 : Oc T i' j' k') : rA T k k' = true := by
  have he := rA_eqv h
  obtain ⟨a, ha, _, g1⟩ := (rA_iff i i').1 ri
  obtain ⟨e, hel, g2, g3⟩ := h.as1 hi ha.1 hj' hk' hi' g1 h2
  obtain ⟨a', ha', g4⟩ := (nrm_adj h ha j' e hj' hel).2 g2
  have rje : rA T j e = true := he.trans j j' e hj hj' hel rj ((rA_iff j' e).2 ⟨a', ha', hel, g4⟩)
  obtain ⟨c, hc, _, g5⟩ := (rA_iff j e).1 rje
  obtain ⟨k0, hk0, g6, g7⟩ := h.as2 hi hj hc.1 hk' hel g5 g3
  exact he.trans k k0 k' hk hk0 hk' (prod_one h hi hj hk hk0 h1 g6) ((rA_iff k0 k').2 ⟨c, hc, hk', g7⟩)
end
end Go.VG
