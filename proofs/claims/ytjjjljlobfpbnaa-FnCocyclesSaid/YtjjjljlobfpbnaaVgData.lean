/- What values stand for: numbers, bools, slices (read, and owned by the call itself); the call's own blocks kept apart. No condition. -/
import Derived.Test.YtjjjljlobfpbnaaVgCore
set_option linter.all false
namespace Go.VG
open Go.RowKit (Below)

def InR (k : IntKind) (x : Int) : Prop := k.min ≤ x ∧ x ≤ k.max

/-- The address of a slice's element i (elements of one cell). -/
def elA (v : Value) (i : Nat) : Addr :=
  match v with
  | .slice (some a) _ _ => a.add i
  | _ => ⟨0, 0, none⟩

/-- What w' has beyond w: everything that was there is as it was, but for the blocks of S. -/
structure Chg (S : Nat → Prop) (w w' : World) : Prop where
  os : w'.os = w.os
  tape : w'.tape = w.tape
  output : w'.output = w.output
  size : w.heap.size ≤ w'.heap.size
  block : ∀ b, b < w.heap.size → ¬ S b → w'.heap[b]? = w.heap[b]?

/-- Nothing that was there has turned. -/
abbrev Ext (w w' : World) : Prop := Below w.heap.size w w'

theorem Ext.refl (w : World) : Ext w w := Below.refl _ _
theorem Ext.trans {a b c : World} (h : Ext a b) (k : Ext b c) : Ext a c := Below.trans h (Below.mono k h.size)
theorem Ext.alloc (w : World) (o : Obj) : Ext w (w.alloc o) := (Below.refl _ w).alloc (Nat.le_refl _) o
theorem Ext.drew (w : World) : Ext w w.drew := (Below.refl _ w).drew
structure Ty (α : Type) where
  own : (Nat → Prop) → World → Value → α → Prop
  rep : World → Value → α → Prop
  loc : ∀ {S w w' v x}, (∀ b, S b → w'.heap[b]? = w.heap[b]?) → own S w v x → own S w' v x
  mono : ∀ {S S' w v x}, (∀ b, S b → S' b) → own S w v x → own S' w v x
  toRep : ∀ {S w v x}, own S w v x → rep w v x
  ext : ∀ {w w' v x}, (∀ b, b < w.heap.size → w'.heap[b]? = w.heap[b]?) → rep w v x → rep w' v x
  one : ∀ {w v x}, rep w v x → v.oneCell' = true

theorem Ty.lift {α : Type} (t : Ty α) {w w' : World} {v : Value} {x : α} (h : Ext w w') (hr : t.rep w v x) : t.rep w' v x := t.ext h.block hr

def Ty.i (k : IntKind) : Ty Int where
  own := fun _ _ v x => v = .int k x ∧ InR k x
  rep := fun _ v x => v = .int k x ∧ InR k x
  loc := fun _ h => h
  mono := fun _ h => h
  toRep := fun h => h
  ext := fun _ h => h
  one := fun h => by rw [h.1]; rfl

def Ty.b : Ty Bool where
  own := fun _ _ v x => v = .bool x
  rep := fun _ v x => v = .bool x
  loc := fun _ h => h
  mono := fun _ h => h
  toRep := fun h => h
  ext := fun _ h => h
  one := fun h => by rw [h]; rfl

def repSl {α : Type} (E : World → Value → α → Prop) (w : World) (v : Value) (l : List α) : Prop :=
  ∃ p c, v = .slice p l.length c ∧ l.length ≤ c ∧ c ≤ maxLen ∧ (l ≠ [] → p ≠ none) ∧ ∀ i x, l[i]? = some x → ∃ u, w.cell? (elA v i) = some u ∧ E w u x

def ownSl {α : Type} (E : (Nat → Prop) → World → Value → α → Prop) (S : Nat → Prop) (w : World) (v : Value) (l : List α) : Prop :=
  (∃ p, v = .slice p 0 0 ∧ l = []) ∨
  ∃ (b c : Nat) (vs : Array Value) (T : TypeId) (Ss : Nat → Nat → Prop), v = .slice (some ⟨b, 0, none⟩) l.length c ∧ S b ∧ w.heap[b]? = some (.cells vs T (0, 0)) ∧ vs.size = c ∧ l.length ≤ c ∧ c ≤ maxLen ∧
    (∀ i b', Ss i b' → S b' ∧ b' ≠ b) ∧ (∀ i j b', Ss i b' → Ss j b' → i = j) ∧ ∀ i x, l[i]? = some x → ∃ u, vs[i]? = some u ∧ E (Ss i) w u x

theorem cell_of_block {w w' : World} {a : Addr} (h : w'.heap[a.block]? = w.heap[a.block]?) : w'.cell? a = w.cell? a := World.cell?_of_block (w := w) h

def Ty.sl {α : Type} (t : Ty α) : Ty (List α) where
  own := ownSl t.own
  rep := repSl t.rep
  loc := by
    intro S w w' v l hb h
    rcases h with h | ⟨b, c, vs, T, Ss, h1, h2, h3, h4, h5, h6, h7, h8, h9⟩
    · exact .inl h
    · refine .inr ⟨b, c, vs, T, Ss, h1, h2, (hb b h2).trans h3, h4, h5, h6, h7, h8, fun i x hx => ?_⟩
      obtain ⟨u, hu, hE⟩ := h9 i x hx
      exact ⟨u, hu, t.loc (fun b' hb' => hb b' (h7 i b' hb').1) hE⟩
  mono := by
    intro S S' w v l hs h
    rcases h with h | ⟨b, c, vs, T, Ss, h1, h2, h3, h4, h5, h6, h7, h8, h9⟩
    · exact .inl h
    · exact .inr ⟨b, c, vs, T, Ss, h1, hs _ h2, h3, h4, h5, h6, fun i b' hb' => ⟨hs _ (h7 i b' hb').1, (h7 i b' hb').2⟩, h8, h9⟩
  toRep := by
    intro S w v l h
    rcases h with ⟨p, rfl, rfl⟩ | ⟨b, c, vs, T, Ss, rfl, h2, h3, h4, h5, h6, h7, h8, h9⟩
    · exact ⟨p, 0, rfl, Nat.le_refl _, by simp [maxLen], fun h => absurd rfl h, fun i x hx => by simp at hx⟩
    · refine ⟨_, c, rfl, h5, h6, fun _ => by simp, fun i x hx => ?_⟩
      obtain ⟨u, hu, hE⟩ := h9 i x hx
      refine ⟨u, ?_, t.toRep hE⟩
      have hadd : elA (.slice (some ⟨b, 0, none⟩) l.length c) i = ⟨b, i, none⟩ := by
        simp only [elA, Addr.add]; split <;> simp_all
      rw [hadd]
      simp [World.cell?, h3, hu]
  ext := by
    intro w w' v l hb h
    obtain ⟨p, c, h1, h2, h3, h4, h5⟩ := h
    refine ⟨p, c, h1, h2, h3, h4, fun i x hx => ?_⟩
    obtain ⟨u, hu, hE⟩ := h5 i x hx
    exact ⟨u, (cell_of_block (hb _ (World.block_lt_of_cell? w _ hu))).trans hu, t.ext hb hE⟩
  one := fun ⟨_, _, h, _⟩ => by rw [h]; rfl

section
variable {α : Type} {t : Ty α} {w w' : World} {v : Value} {l : List α}

theorem repSl.len {E : World → Value → α → Prop} (h : repSl E w v l) : ∃ p c, v = .slice p l.length c := let ⟨p, c, h1, _⟩ := h; ⟨p, c, h1⟩
theorem repSl.max {E : World → Value → α → Prop} (h : repSl E w v l) : l.length ≤ maxLen := let ⟨_, _, _, h2, h3, _⟩ := h; Nat.le_trans h2 h3
theorem repSl.el {E : World → Value → α → Prop} (h : repSl E w v l) {i : Nat} {x : α} (hx : l[i]? = some x) : ∃ u, w.cell? (elA v i) = some u ∧ E w u x :=
  let ⟨_, _, _, _, _, _, h5⟩ := h; h5 i x hx
end

/-! ### The call's own blocks -/

abbrev Ent := (Nat → Prop) → World → Prop
def Local (A : Ent) : Prop := (∀ S w w', (∀ b, S b → w'.heap[b]? = w.heap[b]?) → A S w → A S w') ∧ (∀ S S' w, (∀ b, S b → S' b) → A S w → A S' w)

def emp : Ent := fun _ _ => True
theorem emp_local : Local emp := ⟨fun _ _ _ _ h => h, fun _ _ _ _ h => h⟩
def Ty.at {α : Type} (t : Ty α) (v : Value) (x : α) : Ent := fun S w => t.own S w v x
theorem Ty.at_local {α : Type} (t : Ty α) (v : Value) (x : α) : Local (t.at v x) := ⟨fun _ _ _ h k => t.loc h k, fun _ _ _ h k => t.mono h k⟩
/-- A variable's own block. -/
def bx (b : Nat) (vs : List Value) : Ent := fun S w => S b ∧ ∃ T, w.heap[b]? = some (.cells vs.toArray T (0, 0))
theorem bx_local (b : Nat) (vs : List Value) : Local (bx b vs) :=
  ⟨fun S w w' h ⟨h1, T, h2⟩ => ⟨h1, T, (h b h1).trans h2⟩, fun S S' w h ⟨h1, h2⟩ => ⟨h b h1, h2⟩⟩

def Sep (B : Nat) (w : World) (As : List Ent) : Prop :=
  ∃ Ss : Nat → Nat → Prop, (∀ i b, Ss i b → B ≤ b ∧ b < w.heap.size) ∧ (∀ i j b, Ss i b → Ss j b → i = j) ∧ ∀ i A, As[i]? = some A → A (Ss i) w ∧ Local A

/-- The state of a walk: the base world w0, of which nothing has turned; the call's own blocks since. -/
structure St (w0 w : World) (As : List Ent) : Prop where
  ext : Ext w0 w
  sep : Sep w0.heap.size w As

theorem Sep.nil (B : Nat) (w : World) : Sep B w [] := ⟨fun _ _ => False, fun _ _ h => h.elim, fun _ _ _ h => h.elim, fun i A h => by simp at h⟩
theorem St.start (w : World) : St w w [] := ⟨Ext.refl w, Sep.nil _ _⟩

section
variable {B : Nat} {w w' w0 : World} {As Bs : List Ent} {A A' : Ent}

theorem Sep.extend (h : Sep B w As) (he : Ext w w') : Sep B w' As := by
  obtain ⟨Ss, h1, h2, h3⟩ := h
  refine ⟨Ss, fun i b hb => ⟨(h1 i b hb).1, Nat.lt_of_lt_of_le (h1 i b hb).2 he.size⟩, h2, fun i A hA => ?_⟩
  obtain ⟨h4, h5⟩ := h3 i A hA
  exact ⟨h5.1 _ w w' (fun b hb => he.block b (h1 i b hb).2) h4, h5⟩

theorem Sep.low {B' : Nat} (h : Sep B w As) (hB : B' ≤ B) : Sep B' w As := by
  obtain ⟨Ss, h1, h2, h3⟩ := h
  exact ⟨Ss, fun i b hb => ⟨Nat.le_trans hB (h1 i b hb).1, (h1 i b hb).2⟩, h2, h3⟩

theorem Sep.get (h : Sep B w As) (i : Nat) (hi : As[i]? = some A) : ∃ S, A S w ∧ Local A ∧ ∀ b, S b → B ≤ b ∧ b < w.heap.size := by
  obtain ⟨Ss, h1, h2, h3⟩ := h
  exact ⟨Ss i, (h3 i A hi).1, (h3 i A hi).2, h1 i⟩

/-- What a callee has made joins what is there. -/
theorem Sep.join (h : Sep B w As) (he : Ext w w') (hb : Sep w.heap.size w' Bs) (hB : B ≤ w.heap.size) : Sep B w' (As ++ Bs) := by
  obtain ⟨Ss, h1, h2, h3⟩ := h
  obtain ⟨Rs, g1, g2, g3⟩ := hb
  refine ⟨fun i b => (i < As.length ∧ Ss i b) ∨ (As.length ≤ i ∧ Rs (i - As.length) b), ?_, ?_, ?_⟩
  · rintro i b (⟨_, hb⟩ | ⟨_, hb⟩)
    · exact ⟨(h1 i b hb).1, Nat.lt_of_lt_of_le (h1 i b hb).2 he.size⟩
    · exact ⟨Nat.le_trans hB (g1 _ b hb).1, (g1 _ b hb).2⟩
  · rintro i j b (⟨ha, hb⟩ | ⟨ha, hb⟩) (⟨hc, hd⟩ | ⟨hc, hd⟩)
    · exact h2 i j b hb hd
    · have := (h1 i b hb).2; have := (g1 _ b hd).1; omega
    · have := (h1 j b hd).2; have := (g1 _ b hb).1; omega
    · have := g2 _ _ b hb hd; omega
  · intro i A hA
    rw [List.getElem?_append] at hA
    split at hA
    · rename_i hi
      obtain ⟨h4, h5⟩ := h3 i A hA
      exact ⟨h5.2 _ _ w' (fun b hb => .inl ⟨hi, hb⟩) (h5.1 _ w w' (fun b hb => he.block b (h1 i b hb).2) h4), h5⟩
    · rename_i hi
      obtain ⟨h4, h5⟩ := g3 _ A hA
      exact ⟨h5.2 _ _ w' (fun b hb => .inr ⟨by omega, hb⟩) h4, h5⟩

theorem Sep.one {S : Nat → Prop} (hA : A S w) (hL : Local A) (hS : ∀ b, S b → B ≤ b ∧ b < w.heap.size) : Sep B w [A] := by
  refine ⟨fun i b => i = 0 ∧ S b, fun i b hb => hS b hb.2, fun i j b hb hc => by omega, fun i A' hi => ?_⟩
  cases i with
  | zero => simp at hi; subst hi; exact ⟨hL.2 _ _ w (fun b hb => ⟨rfl, hb⟩) hA, hL⟩
  | succ i => simp at hi

/-- The entries chosen by a list of places, each once. -/
theorem Sep.sub (h : Sep B w As) (js : List Nat) (hn : js.Nodup) (hb : ∀ (i : Nat) (A : Ent), Bs[i]? = some A → ∃ j, js[i]? = some j ∧ As[j]? = some A) : Sep B w Bs := by
  obtain ⟨Ss, h1, h2, h3⟩ := h
  refine ⟨fun i b => ∃ j, js[i]? = some j ∧ Ss j b, fun i b ⟨j, _, hb⟩ => h1 j b hb, ?_, fun i A hA => ?_⟩
  · rintro i i' b ⟨j, hj, hb⟩ ⟨j', hj', hb'⟩
    have e := h2 j j' b hb hb'
    subst e
    have hi := (List.getElem?_eq_some_iff.1 hj).1
    exact (List.getElem?_inj hi hn).1 (hj.trans hj'.symm)
  · obtain ⟨j, hj, hA'⟩ := hb i A hA
    obtain ⟨h4, h5⟩ := h3 j A hA'
    exact ⟨h5.2 _ _ w (fun b hb => ⟨j, hj, hb⟩) h4, h5⟩

/-- One entry turns: its own blocks and new ones alone are touched. -/
theorem Sep.upd (h : Sep B w As) (k : Nat) (hk : As[k]? = some A) (hL : Local A')
    (hs : w.heap.size ≤ w'.heap.size) (hB : B ≤ w.heap.size)
    (hu : ∀ S, A S w → (∀ b, S b → B ≤ b ∧ b < w.heap.size) → (∀ b, b < w.heap.size → ¬ S b → w'.heap[b]? = w.heap[b]?) ∧ ∃ S', A' S' w' ∧ ∀ b, S' b → (S b ∨ w.heap.size ≤ b) ∧ b < w'.heap.size) :
    Sep B w' (As.set k A') := by
  obtain ⟨Ss, h1, h2, h3⟩ := h
  obtain ⟨hkA, _⟩ := h3 k A hk
  obtain ⟨hsame, S', hA', hS'⟩ := hu (Ss k) hkA (h1 k)
  refine ⟨fun i b => if i = k then S' b else Ss i b, ?_, ?_, ?_⟩
  · intro i b hb
    try dsimp only at hb
    split at hb
    · have := hS' b hb
      refine ⟨?_, this.2⟩
      rcases this.1 with h | h
      · exact (h1 k b h).1
      · omega
    · exact ⟨(h1 i b hb).1, Nat.lt_of_lt_of_le (h1 i b hb).2 hs⟩
  · intro i j b hb hc
    try dsimp only at hb hc
    split at hb <;> split at hc
    · omega
    · rcases (hS' b hb).1 with h | h
      · have := h2 _ _ _ h hc; omega
      · have := (h1 _ b hc).2; omega
    · rcases (hS' b hc).1 with h | h
      · have := h2 _ _ _ h hb; omega
      · have := (h1 _ b hb).2; omega
    · exact h2 i j b hb hc
  · intro i A0 hi
    rw [List.getElem?_set] at hi
    split at hi
    · rename_i hik
      subst hik
      split at hi
      · cases hi; simp only [if_true]; exact ⟨hA', hL⟩
      · cases hi
    · rename_i hik
      have hik' : ¬ i = k := fun e => hik e.symm
      simp only [hik', if_false]
      obtain ⟨h4, h5⟩ := h3 i A0 hi
      exact ⟨h5.1 _ w w' (fun b hb => hsame b (h1 i b hb).2 (fun hc => hik (h2 _ _ b hc hb))) h4, h5⟩

/-- Two entries become one (a row is laid into a slice of rows). -/
theorem Sep.merge {A2 : Ent} (h : Sep B w As) (k k2 : Nat) (hne : k ≠ k2) (hk : As[k]? = some A) (hk2 : As[k2]? = some A2) (hL : Local A')
    (hs : w.heap.size ≤ w'.heap.size) (hB : B ≤ w.heap.size)
    (hu : ∀ S S2, A S w → A2 S2 w → (∀ b, S b → S2 b → False) → (∀ b, S b → b < w.heap.size) → (∀ b, S2 b → b < w.heap.size) →
      (∀ b, b < w.heap.size → ¬ S b → w'.heap[b]? = w.heap[b]?) ∧ ∃ S', A' S' w' ∧ ∀ b, S' b → (S b ∨ S2 b ∨ w.heap.size ≤ b) ∧ b < w'.heap.size) :
    Sep B w' ((As.set k2 emp).set k A') := by
  obtain ⟨Ss, h1, h2, h3⟩ := h
  obtain ⟨hkA, _⟩ := h3 k A hk
  obtain ⟨hkA2, _⟩ := h3 k2 A2 hk2
  obtain ⟨hsame, S', hA', hS'⟩ := hu (Ss k) (Ss k2) hkA hkA2 (fun b hb hc => hne (h2 _ _ b hb hc)) (fun b hb => (h1 k b hb).2) (fun b hb => (h1 k2 b hb).2)
  refine ⟨fun i b => if i = k then S' b else if i = k2 then False else Ss i b, ?_, ?_, ?_⟩
  · intro i b hb
    try dsimp only at hb
    split at hb
    · have := hS' b hb
      refine ⟨?_, this.2⟩
      rcases this.1 with h | h | h
      · exact (h1 k b h).1
      · exact (h1 k2 b h).1
      · omega
    · split at hb
      · exact hb.elim
      · exact ⟨(h1 i b hb).1, Nat.lt_of_lt_of_le (h1 i b hb).2 hs⟩
  · have key : ∀ i b, S' b → ¬ i = k → ¬ i = k2 → Ss i b → False := by
      intro i b hb hi hi2 hc
      rcases (hS' b hb).1 with h | h | h
      · have := h2 _ _ _ h hc; omega
      · have := h2 _ _ _ h hc; omega
      · have := (h1 _ b hc).2; omega
    intro i j b hb hc
    try dsimp only at hb hc
    split at hb <;> split at hc
    · omega
    · split at hc
      · exact hc.elim
      · rename_i hj hj2; exact (key j b hb hj hj2 hc).elim
    · split at hb
      · exact hb.elim
      · rename_i hi _ hi2; exact (key i b hc hi hi2 hb).elim
    · split at hb
      · exact hb.elim
      · split at hc
        · exact hc.elim
        · exact h2 i j b hb hc
  · intro i A0 hi
    rw [List.getElem?_set] at hi
    split at hi
    · rename_i hik
      subst hik
      split at hi
      · cases hi; simp only [if_true]; exact ⟨hA', hL⟩
      · cases hi
    · rename_i hik
      have hik' : ¬ i = k := fun e => hik e.symm
      simp only [hik', if_false]
      rw [List.getElem?_set] at hi
      split at hi
      · rename_i hik2
        subst hik2
        split at hi
        · cases hi; exact ⟨trivial, emp_local⟩
        · cases hi
      · rename_i hik2
        have hik2' : ¬ i = k2 := fun e => hik2 e.symm
        simp only [hik2', if_false]
        obtain ⟨h4, h5⟩ := h3 i A0 hi
        exact ⟨h5.1 _ w w' (fun b hb => hsame b (h1 i b hb).2 (fun hc => hik (h2 _ _ b hc hb))) h4, h5⟩

/-! ### The state -/

theorem St.extend (h : St w0 w As) (he : Ext w w') : St w0 w' As := ⟨h.ext.trans he, h.sep.extend he⟩
theorem St.join (h : St w0 w As) (he : Ext w w') (hb : Sep w.heap.size w' Bs) : St w0 w' (As ++ Bs) := ⟨h.ext.trans he, h.sep.join he hb h.ext.size⟩
theorem St.sub (h : St w0 w As) (js : List Nat) (hn : js.Nodup) (hb : ∀ (i : Nat) (A : Ent), Bs[i]? = some A → ∃ j, js[i]? = some j ∧ As[j]? = some A) : St w0 w Bs := ⟨h.ext, h.sep.sub js hn hb⟩

theorem St.upd (h : St w0 w As) (k : Nat) (hk : As[k]? = some A) (hL : Local A') (hos : w'.os = w.os) (htape : w'.tape = w.tape) (hout : w'.output = w.output)
    (hs : w.heap.size ≤ w'.heap.size)
    (hu : ∀ S, A S w → (∀ b, S b → w0.heap.size ≤ b ∧ b < w.heap.size) → (∀ b, b < w.heap.size → ¬ S b → w'.heap[b]? = w.heap[b]?) ∧ ∃ S', A' S' w' ∧ ∀ b, S' b → (S b ∨ w.heap.size ≤ b) ∧ b < w'.heap.size) :
    St w0 w' (As.set k A') := by
  refine ⟨?_, h.sep.upd k hk hL hs h.ext.size hu⟩
  obtain ⟨S, hA, _, hS⟩ := h.sep.get k hk
  obtain ⟨hsame, _⟩ := hu S hA hS
  have he : Below w0.heap.size w w' := ⟨hos, htape, hout, hs, fun b hb => hsame b (Nat.lt_of_lt_of_le hb h.ext.size) (fun hc => by have := (hS b hc).1; omega)⟩
  exact Below.trans h.ext he

theorem St.merge {A2 : Ent} (h : St w0 w As) (k k2 : Nat) (hne : k ≠ k2) (hk : As[k]? = some A) (hk2 : As[k2]? = some A2) (hL : Local A')
    (hos : w'.os = w.os) (htape : w'.tape = w.tape) (hout : w'.output = w.output) (hs : w.heap.size ≤ w'.heap.size)
    (hu : ∀ S S2, A S w → A2 S2 w → (∀ b, S b → S2 b → False) → (∀ b, S b → b < w.heap.size) → (∀ b, S2 b → b < w.heap.size) →
      (∀ b, b < w.heap.size → ¬ S b → w'.heap[b]? = w.heap[b]?) ∧ ∃ S', A' S' w' ∧ ∀ b, S' b → (S b ∨ S2 b ∨ w.heap.size ≤ b) ∧ b < w'.heap.size) :
    St w0 w' ((As.set k2 emp).set k A') := by
  refine ⟨?_, h.sep.merge k k2 hne hk hk2 hL hs h.ext.size hu⟩
  obtain ⟨Ss, h1, h2, h3⟩ := h.sep
  obtain ⟨hsame, _⟩ := hu (Ss k) (Ss k2) (h3 k A hk).1 (h3 k2 A2 hk2).1 (fun b hb hc => hne (h2 _ _ b hb hc)) (fun b hb => (h1 k b hb).2) (fun b hb => (h1 k2 b hb).2)
  have he : Below w0.heap.size w w' := ⟨hos, htape, hout, hs, fun b hb => hsame b (Nat.lt_of_lt_of_le hb h.ext.size) (fun hc => by have := (h1 k b hc).1; omega)⟩
  exact Below.trans h.ext he

/-- One entry turns, the new value and world found on the way. -/
theorem St.updE {A' : Value → Ent} {Out : Value → World → Prop} (h : St w0 w As) (k : Nat) (hk : As[k]? = some A) (hL : ∀ v, Local (A' v))
    (hu : ∀ S, A S w → (∀ b, S b → w0.heap.size ≤ b ∧ b < w.heap.size) → ∃ v' w', Out v' w' ∧ w'.os = w.os ∧ w'.tape = w.tape ∧ w'.output = w.output ∧ w.heap.size ≤ w'.heap.size ∧
      (∀ b, b < w.heap.size → ¬ S b → w'.heap[b]? = w.heap[b]?) ∧ ∃ S', A' v' S' w' ∧ ∀ b, S' b → (S b ∨ w.heap.size ≤ b) ∧ b < w'.heap.size) :
    ∃ v' w', Out v' w' ∧ St w0 w' (As.set k (A' v')) ∧ w.heap.size ≤ w'.heap.size := by
  obtain ⟨Ss, h1, h2, h3⟩ := h.sep
  obtain ⟨hkA, hkL⟩ := h3 k A hk
  obtain ⟨v', w', hO, hos, htape, hout, hs, hsame, S', hA', hS'⟩ := hu (Ss k) hkA (h1 k)
  have he : Below w0.heap.size w w' := ⟨hos, htape, hout, hs, fun b hb => hsame b (Nat.lt_of_lt_of_le hb h.ext.size) (fun hc => by have := (h1 k b hc).1; omega)⟩
  refine ⟨v', w', hO, ⟨Below.trans h.ext he, ?_⟩, hs⟩
  refine ⟨fun i b => if i = k then S' b else Ss i b, ?_, ?_, ?_⟩
  · intro i b hb
    try dsimp only at hb
    split at hb
    · have := hS' b hb
      refine ⟨?_, this.2⟩
      rcases this.1 with h' | h'
      · exact (h1 k b h').1
      · have := h.ext.size; omega
    · exact ⟨(h1 i b hb).1, Nat.lt_of_lt_of_le (h1 i b hb).2 hs⟩
  · intro i j b hb hc
    try dsimp only at hb hc
    split at hb <;> split at hc
    · omega
    · rcases (hS' b hb).1 with h' | h'
      · have := h2 _ _ _ h' hc; omega
      · have := (h1 _ b hc).2; omega
    · rcases (hS' b hc).1 with h' | h'
      · have := h2 _ _ _ h' hb; omega
      · have := (h1 _ b hb).2; omega
    · exact h2 i j b hb hc
  · intro i A1 hi
    rw [List.getElem?_set] at hi
    split at hi
    · rename_i hik
      subst hik
      split at hi
      · cases hi; simp only [if_true]; exact ⟨hA', hL v'⟩
      · cases hi
    · rename_i hik
      have hik' : ¬ i = k := fun e => hik e.symm
      simp only [hik', if_false]
      obtain ⟨h4, h5⟩ := h3 i A1 hi
      exact ⟨h5.1 _ w w' (fun b hb => hsame b (h1 i b hb).2 (fun hc => hik (h2 _ _ b hc hb))) h4, h5⟩

/-- Two entries become one, the new value and world found on the way. -/
theorem St.mergeE {A2 : Ent} {A' : Value → Ent} {Out : Value → World → Prop} (h : St w0 w As) (k k2 : Nat) (hne : k ≠ k2) (hk : As[k]? = some A) (hk2 : As[k2]? = some A2) (hL : ∀ v, Local (A' v))
    (hu : ∀ S S2, A S w → A2 S2 w → (∀ b, S b → S2 b → False) → (∀ b, S b → b < w.heap.size) → (∀ b, S2 b → b < w.heap.size) →
      ∃ v' w', Out v' w' ∧ w'.os = w.os ∧ w'.tape = w.tape ∧ w'.output = w.output ∧ w.heap.size ≤ w'.heap.size ∧
      (∀ b, b < w.heap.size → ¬ S b → w'.heap[b]? = w.heap[b]?) ∧ ∃ S', A' v' S' w' ∧ ∀ b, S' b → (S b ∨ S2 b ∨ w.heap.size ≤ b) ∧ b < w'.heap.size) :
    ∃ v' w', Out v' w' ∧ St w0 w' ((As.set k2 emp).set k (A' v')) ∧ w.heap.size ≤ w'.heap.size := by
  obtain ⟨Ss, h1, h2, h3⟩ := h.sep
  obtain ⟨hkA, _⟩ := h3 k A hk
  obtain ⟨hkA2, _⟩ := h3 k2 A2 hk2
  obtain ⟨v', w', hO, hos, htape, hout, hs, hsame, S', hA', hS'⟩ := hu (Ss k) (Ss k2) hkA hkA2 (fun b hb hc => hne (h2 _ _ b hb hc)) (fun b hb => (h1 k b hb).2) (fun b hb => (h1 k2 b hb).2)
  have he : Below w0.heap.size w w' := ⟨hos, htape, hout, hs, fun b hb => hsame b (Nat.lt_of_lt_of_le hb h.ext.size) (fun hc => by have := (h1 k b hc).1; omega)⟩
  refine ⟨v', w', hO, ⟨Below.trans h.ext he, ?_⟩, hs⟩
  refine ⟨fun i b => if i = k then S' b else if i = k2 then False else Ss i b, ?_, ?_, ?_⟩
  · intro i b hb
    try dsimp only at hb
    split at hb
    · have := hS' b hb
      refine ⟨?_, this.2⟩
      rcases this.1 with h' | h' | h'
      · exact (h1 k b h').1
      · exact (h1 k2 b h').1
      · have := h.ext.size; omega
    · split at hb
      · exact hb.elim
      · exact ⟨(h1 i b hb).1, Nat.lt_of_lt_of_le (h1 i b hb).2 hs⟩
  · have key : ∀ i b, S' b → ¬ i = k → ¬ i = k2 → Ss i b → False := by
      intro i b hb hi hi2 hc
      rcases (hS' b hb).1 with h' | h' | h'
      · have := h2 _ _ _ h' hc; omega
      · have := h2 _ _ _ h' hc; omega
      · have := (h1 _ b hc).2; omega
    intro i j b hb hc
    try dsimp only at hb hc
    split at hb <;> split at hc
    · omega
    · split at hc
      · exact hc.elim
      · rename_i hj hj2; exact (key j b hb hj hj2 hc).elim
    · split at hb
      · exact hb.elim
      · rename_i hi _ hi2; exact (key i b hc hi hi2 hb).elim
    · split at hb
      · exact hb.elim
      · split at hc
        · exact hc.elim
        · exact h2 i j b hb hc
  · intro i A0 hi
    rw [List.getElem?_set] at hi
    split at hi
    · rename_i hik
      subst hik
      split at hi
      · cases hi; simp only [if_true]; exact ⟨hA', hL v'⟩
      · cases hi
    · rename_i hik
      have hik' : ¬ i = k := fun e => hik e.symm
      simp only [hik', if_false]
      rw [List.getElem?_set] at hi
      split at hi
      · rename_i hik2
        subst hik2
        split at hi
        · cases hi; exact ⟨trivial, emp_local⟩
        · cases hi
      · rename_i hik2
        have hik2' : ¬ i = k2 := fun e => hik2 e.symm
        simp only [hik2', if_false]
        obtain ⟨h4, h5⟩ := h3 i A0 hi
        exact ⟨h5.1 _ w w' (fun b hb => hsame b (h1 i b hb).2 (fun hc => hik (h2 _ _ b hc hb))) h4, h5⟩

/-- An owned slice, read. -/
theorem St.rep {α : Type} {t : Ty α} {v : Value} {x : α} (h : St w0 w As) (k : Nat) (hk : As[k]? = some (t.at v x)) : t.rep w v x := by
  obtain ⟨S, hA, _⟩ := h.sep.get k hk
  exact t.toRep hA
/-- A variable's block, read. -/
theorem St.box {b : Nat} {vs : List Value} (h : St w0 w As) (k : Nat) (hk : As[k]? = some (bx b vs)) : ∃ T, w.heap[b]? = some (.cells vs.toArray T (0, 0)) := by
  obtain ⟨S, hA, _⟩ := h.sep.get k hk
  exact hA.2
end

end Go.VG
