/- Calls that write into slices that the caller owns: what the callee is lent, and what it gives back. No condition. -/
import Derived.Test.YtjjjljlobfpbnaaVgGen
set_option linter.all false
namespace Go.VG
open Go.RowKit (Below)

/-- All the other entries, as one. -/
def restOf (Rs : List Ent) : Ent := fun S w => ∃ Ss : Nat → Nat → Prop, (∀ i b, Ss i b → S b) ∧ (∀ i j b, Ss i b → Ss j b → i = j) ∧ ∀ i A, Rs[i]? = some A → A (Ss i) w ∧ Local A
theorem restOf_local (Rs : List Ent) : Local (restOf Rs) := by
  refine ⟨fun S w w' h ⟨Ss, h1, h2, h3⟩ => ⟨Ss, h1, h2, fun i A hA => ?_⟩, fun S S' w h ⟨Ss, h1, h2, h3⟩ => ⟨Ss, fun i b hb => h b (h1 i b hb), h2, h3⟩⟩
  obtain ⟨h4, h5⟩ := h3 i A hA
  exact ⟨h5.1 _ w w' (fun b hb => h b (h1 i b hb)) h4, h5⟩

section
variable {w w' w0 : World} {As Rs : List Ent} {B : Nat}
theorem Sep.fold (h : Sep B w (As ++ Rs)) : Sep B w (As ++ [restOf Rs]) := by
  obtain ⟨Ss, h1, h2, h3⟩ := h
  refine ⟨fun i b => (i < As.length ∧ Ss i b) ∨ (i = As.length ∧ ∃ j, As.length ≤ j ∧ Ss j b), ?_, ?_, ?_⟩
  · rintro i b (⟨_, hb⟩ | ⟨_, j, _, hb⟩)
    · exact h1 i b hb
    · exact h1 j b hb
  · rintro i j b (⟨ha, hb⟩ | ⟨ha, i', hi, hb⟩) (⟨hc, hd⟩ | ⟨hc, j', hj, hd⟩)
    · exact h2 i j b hb hd
    · have := h2 _ _ _ hb hd; omega
    · have := h2 _ _ _ hb hd; omega
    · omega
  · intro i A hA
    rw [List.getElem?_append] at hA
    split at hA
    · rename_i hi
      obtain ⟨h4, h5⟩ := h3 i A (by rw [List.getElem?_append, if_pos hi]; exact hA)
      exact ⟨h5.2 _ _ w (fun b hb => .inl ⟨hi, hb⟩) h4, h5⟩
    · rename_i hi
      have hi0 : i - As.length = 0 := by
        have := (List.getElem?_eq_some_iff.1 hA).1
        simp at this; omega
      rw [hi0] at hA
      simp at hA
      subst hA
      refine ⟨⟨fun j b => Ss (As.length + j) b, fun j b hb => .inr ⟨by omega, _, by omega, hb⟩, fun j j' b hb hc => by have := h2 _ _ _ hb hc; omega, fun j A hA => ?_⟩, restOf_local Rs⟩
      exact h3 (As.length + j) A (by rw [List.getElem?_append, if_neg (by omega)]; rw [show As.length + j - As.length = j from by omega]; exact hA)
theorem Sep.unfold (h : Sep B w (As ++ [restOf Rs])) : Sep B w (As ++ Rs) := by
  obtain ⟨Ss, h1, h2, h3⟩ := h
  have hr := h3 As.length (restOf Rs) (by simp)
  obtain ⟨⟨Ts, g1, g2, g3⟩, _⟩ := hr
  refine ⟨fun i b => (i < As.length ∧ Ss i b) ∨ (As.length ≤ i ∧ Ts (i - As.length) b), ?_, ?_, ?_⟩
  · rintro i b (⟨_, hb⟩ | ⟨_, hb⟩)
    · exact h1 i b hb
    · exact h1 _ b (g1 _ b hb)
  · rintro i j b (⟨ha, hb⟩ | ⟨ha, hb⟩) (⟨hc, hd⟩ | ⟨hc, hd⟩)
    · exact h2 i j b hb hd
    · have := h2 _ _ _ hb (g1 _ b hd); omega
    · have := h2 _ _ _ (g1 _ b hb) hd; omega
    · have := g2 _ _ _ hb hd; omega
  · intro i A hA
    rw [List.getElem?_append] at hA
    split at hA
    · rename_i hi
      obtain ⟨h4, h5⟩ := h3 i A (by rw [List.getElem?_append, if_pos hi]; exact hA)
      exact ⟨h5.2 _ _ w (fun b hb => .inl ⟨hi, hb⟩) h4, h5⟩
    · rename_i hi
      obtain ⟨h4, h5⟩ := g3 _ A hA
      exact ⟨h5.2 _ _ w (fun b hb => .inr ⟨by omega, hb⟩) h4, h5⟩
theorem St.fold (As Rs : List Ent) (h : St w0 w (As ++ Rs)) : St w0 w (As ++ [restOf Rs]) := ⟨h.ext, h.sep.fold⟩
theorem St.unfold (As Rs : List Ent) (h : St w0 w (As ++ [restOf Rs])) : St w0 w (As ++ Rs) := ⟨h.ext, h.sep.unfold⟩

/-- A slice, its element i missing. -/
def holeAt {α : Type} (t : Ty α) (v : Value) (l : List α) (i : Nat) (u : Value) : Ent := fun S w =>
  ∃ (b c : Nat) (vs : Array Value) (T : TypeId) (Ss : Nat → Nat → Prop), v = .slice (some ⟨b, 0, none⟩) l.length c ∧ S b ∧ w.heap[b]? = some (.cells vs T (0, 0)) ∧ vs.size = c ∧ l.length ≤ c ∧ c ≤ maxLen ∧
    (∀ i b', Ss i b' → b' ≠ b) ∧ (∀ j b', j ≠ i → Ss j b' → S b') ∧ (∀ i j b', Ss i b' → Ss j b' → i = j) ∧ vs[i]? = some u ∧ ∀ j x, j ≠ i → l[j]? = some x → ∃ u, vs[j]? = some u ∧ t.own (Ss j) w u x
theorem holeAt_local {α : Type} (t : Ty α) (v : Value) (l : List α) (i : Nat) (u : Value) : Local (holeAt t v l i u) := by
  refine ⟨fun S w w' h ⟨b, c, vs, T, Ss, h1, h2, h3, h4, h5, h6, h7, h8, h9, h10, h11⟩ => ⟨b, c, vs, T, Ss, h1, h2, (h b h2).trans h3, h4, h5, h6, h7, h8, h9, h10, fun j x hj hx => ?_⟩,
    fun S S' w h ⟨b, c, vs, T, Ss, h1, h2, h3, h4, h5, h6, h7, h8, h9, h10, h11⟩ => ⟨b, c, vs, T, Ss, h1, h b h2, h3, h4, h5, h6, h7, fun j b' hj hb => h b' (h8 j b' hj hb), h9, h10, h11⟩⟩
  obtain ⟨u', hu, ho⟩ := h11 j x hj hx
  exact ⟨u', hu, t.loc (fun b' hb' => h b' (h8 j b' hj hb')) ho⟩

theorem St.unrow {α : Type} {t : Ty α} {v u : Value} {l : List α} {i : Nat} {x : α} {k : Nat} (h : St w0 w As) (hk : As[k]? = some (t.sl.at v l)) (hx : l[i]? = some x) (hc : w.cell? (elA v i) = some u) :
    St w0 w ((As.set k (holeAt t v l i u)) ++ [t.at u x]) := by
  refine ⟨h.ext, ?_⟩
  obtain ⟨Ss, h1, h2, h3⟩ := h.sep
  have hlt : k < As.length := (List.getElem?_eq_some_iff.1 hk).1
  obtain ⟨ho, _⟩ := h3 k _ hk
  rcases ho with ⟨p, rfl, rfl⟩ | ⟨b, c, vs, T, Ts, rfl, g2, g3, g4, g5, g6, g7, g8, g9⟩
  · simp at hx
  · obtain ⟨u', hu', hE⟩ := g9 i x hx
    have : u' = u := by
      rw [elA_some] at hc
      simp [World.cell?, g3, hu'] at hc
      exact hc
    subst this
    refine ⟨fun j b' => if j = k then (b' = b ∨ ∃ m, m ≠ i ∧ Ts m b') else if j = As.length then Ts i b' else Ss j b', ?_, ?_, ?_⟩
    · intro j b' hb
      try dsimp only at hb
      split at hb
      · rcases hb with rfl | ⟨m, _, hb⟩
        · exact h1 k _ g2
        · exact h1 k _ (g7 m b' hb).1
      · split at hb
        · exact h1 k _ (g7 i b' hb).1
        · exact h1 j b' hb
    · have e1 : ∀ b', (b' = b ∨ ∃ m, m ≠ i ∧ Ts m b') → Ss k b' := fun b' h => by
        rcases h with rfl | ⟨m, _, h⟩
        · exact g2
        · exact (g7 m b' h).1
      have e2 : ∀ b', (b' = b ∨ ∃ m, m ≠ i ∧ Ts m b') → Ts i b' → False := fun b' h hi => by
        rcases h with rfl | ⟨m, hm, h⟩
        · exact (g7 i _ hi).2 rfl
        · exact hm (g8 m i b' h hi)
      intro j j' b' hb hc
      try dsimp only at hb hc
      split at hb <;> split at hc
      · omega
      · split at hc
        · exact (e2 b' hb hc).elim
        · have := h2 _ _ _ (e1 b' hb) hc; omega
      · split at hb
        · exact (e2 b' hc hb).elim
        · have := h2 _ _ _ (e1 b' hc) hb; omega
      · split at hb <;> split at hc
        · omega
        · have := h2 _ _ _ (g7 i b' hb).1 hc; omega
        · have := h2 _ _ _ (g7 i b' hc).1 hb; omega
        · exact h2 _ _ _ hb hc
    · intro j A hA
      rw [List.getElem?_append] at hA
      split at hA
      · rename_i hj
        simp only [List.length_set] at hj
        rw [List.getElem?_set] at hA
        split at hA
        · rename_i hkj
          subst hkj
          cases hA
          simp only [if_true]
          refine ⟨⟨b, c, vs, T, Ts, rfl, .inl rfl, g3, g4, g5, g6, fun m b' hb => (g7 m b' hb).2, fun m b' hm hb => .inr ⟨m, hm, hb⟩, g8, hu', fun m y _ hy => g9 m y hy⟩, holeAt_local _ _ _ _ _⟩
        · rename_i hkj
          have hkj' : ¬ j = k := fun e => hkj e.symm
          have hjl : ¬ j = As.length := by omega
          simp only [hkj', hjl, if_false]
          exact h3 j A hA
      · rename_i hj
        simp only [List.length_set] at hj hA
        have hj0 : j = As.length := by
          have := (List.getElem?_eq_some_iff.1 hA).1
          simp at this; omega
        subst hj0
        simp at hA
        subst hA
        have hkj' : ¬ As.length = k := by omega
        simp only [hkj', if_false, if_true]
        exact ⟨hE, Ty.at_local _ _ _⟩

theorem St.rerow {α : Type} {t : Ty α} {v u : Value} {l : List α} {i : Nat} {x : α} {k k2 : Nat} (h : St w0 w As) (hne : Nat.beq k k2 = false) (hk : As[k]? = some (holeAt t v l i u)) (hk2 : As[k2]? = some (t.at u x)) :
    St w0 w ((As.set k2 emp).set k (t.sl.at v (l.set i x))) := by
  refine h.merge k k2 (Nat.ne_of_beq_eq_false hne) hk hk2 (Ty.at_local _ _ _) rfl rfl rfl (Nat.le_refl _) fun S S2 hA hA2 hd hS hS2 => ⟨fun _ _ _ => rfl, fun b => S b ∨ S2 b, ?_, fun b hb => ?_⟩
  · obtain ⟨b, c, vs, T, Ss, rfl, g2, g3, g4, g5, g6, g7, g8, g9, g10, g11⟩ := hA
    refine .inr ⟨b, c, vs, T, fun j b' => if j = i then S2 b' else Ss j b', by rw [List.length_set], .inl g2, g3, g4, by rw [List.length_set]; exact g5, g6, ?_, ?_, ?_⟩
    · intro j b' hb
      try dsimp only at hb
      split at hb
      · exact ⟨.inr hb, fun e => hd b g2 (e ▸ hb)⟩
      · rename_i hj
        exact ⟨.inl (g8 j b' hj hb), g7 j b' hb⟩
    · intro j j' b' hb hc
      try dsimp only at hb hc
      split at hb <;> split at hc
      · omega
      · rename_i hj hj'; exact (hd b' (g8 j' b' hj' hc) hb).elim
      · rename_i hj hj'; exact (hd b' (g8 j b' hj hb) hc).elim
      · exact g9 j j' b' hb hc
    · intro j y hy
      rw [List.getElem?_set] at hy
      split at hy
      · rename_i hij
        subst hij
        split at hy
        · cases hy
          simp only [if_true]
          exact ⟨u, g10, hA2⟩
        · cases hy
      · rename_i hij
        have hij' : ¬ j = i := fun e => hij e.symm
        simp only [hij', if_false]
        exact g11 j y hij' hy
  · rcases hb with hb | hb
    · exact ⟨.inl hb, hS b hb⟩
    · exact ⟨.inr (.inl hb), hS2 b hb⟩
end

end Go.VG
