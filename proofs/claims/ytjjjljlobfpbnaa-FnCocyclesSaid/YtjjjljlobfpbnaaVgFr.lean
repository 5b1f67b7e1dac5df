/- Slices that are read only: as long as the base and the blocks of S stand; two of them that share blocks; rows read at the base; the state of a function value that writes. No condition. -/
import Derived.Test.YtjjjljlobfpbnaaVgCopy
set_option linter.all false
namespace Go.VG
open Go.RowKit (Below)

theorem addZ {x : Int} : Value.int .i64 x = Value.int .i64 (x + ((0 : Nat) : Int)) := by rw [Int.natCast_zero, Int.add_zero]
theorem inRZ {x : Int} (h : InR .i64 x) : InR .i64 (x + ((0 : Nat) : Int)) := by rw [Int.natCast_zero, Int.add_zero]; exact h
/-! ### Short words for what drawn regions hand over -/
abbrev vi (x : Int) : Value := .int .i64 x
abbrev vu (x : Int) : Value := .int .u64 x
abbrev vb (x : Bool) : Value := .bool x
abbrev vp (b : Nat) : Value := .pointer (some ⟨b, 0, none⟩)
abbrev vn : Value := .slice none 0 0
abbrev Y1 : Ty (List Int) := Ty.sl (Ty.i .i64)
abbrev Y2 : Ty (List (List Int)) := Ty.sl (Ty.sl (Ty.i .i64))
abbrev Y3 : Ty (List (List (List Int))) := Ty.sl (Ty.sl (Ty.sl (Ty.i .i64)))
abbrev pe (X : Value) : Phi := fun _ v _ _ => v = X
abbrev pj (x : Int) : Phi := fun _ v _ _ => v = Value.int .i64 x ∧ InR .i64 x
theorem ov {P : Program} {l : List Oper} {o : Oper} {f : Fr} {w : World} {φ : Phi} (v : Value) (hg : wantedF l o f = true) (h : OpV P o.op o.type f w v w) (hφ : φ f v noB w) : OpX P l o f w φ := OpX.val v w hg h (Ext.refl _) hφ
section
variable {w w0 : World} {As : List Ent}
theorem St.addE (h : St w0 w As) : St w0 w (As ++ [emp]) :=
  h.join (Ext.refl w) (Sep.one (S := fun _ => False) trivial emp_local (fun b hb => hb.elim))
end
section
variable {P : Program} {n : Nat} {Q : Post} {f : Fr} {w w0 : World} {T : TypeId} {As : List Ent} {ops : Array Oper} {rest : List Oper} {pos : String} {after : Array Edge}
end

section
variable {P : Program} {f : Fr} {w w0 : World} {T : TypeId} {As : List Ent}
/-- A slice, its element i missing: the element's cell, and an element's address. -/
theorem St.holeCell {α : Type} {t : Ty α} {v u : Value} {l : List α} {i k : Nat} (h : St w0 w As) (hk : As[k]? = some (holeAt t v l i u)) : w.cell? (elA v i) = some u := by
  obtain ⟨S, hA, _, _⟩ := h.sep.get k hk
  obtain ⟨b, c, vs, T', Ss, rfl, g2, g3, g4, g5, g6, g7, g8, g9, g10, g11⟩ := hA
  have hadd : elA (.slice (some ⟨b, 0, none⟩) l.length c) i = ⟨b, i, none⟩ := by
    simp only [elA, Addr.add]; split <;> simp_all
  rw [hadd]
  simp [World.cell?, g3, g10]
theorem op_idxHole {α : Type} {t : Ty α} {x o : Operand} {st e : TypeId} {z : Value} {by_ k i0 : Nat} {v u : Value} {l : List α} {kd : IntKind} {j : Int} (h : St w0 w As) (hk : As[k]? = some (holeAt t v l i0 u)) (ht : SlE P st e z by_) (hx : ev f x = v) (hi : ev f o = .int kd j) (h0 : 0 ≤ j) (h1 : j < l.length) :
    OpV P (.indexAddr st x o) T f w (.pointer (some (elA v j.toNat))) w := by
  obtain ⟨S, hA, _, _⟩ := h.sep.get k hk
  obtain ⟨b, c, vs, T', Ss, rfl, _⟩ := hA
  exact op_indexAddr ht hx rfl (fun _ => by simp) hi h0 h1
/-- What can be told of a region that draws is told of what has been carried out. -/
theorem not_yet {L : Nat → Bool} {i j : Nat} (hLi : L i = false) (h : L j = true → L i = true) : L j = false := by
  cases hj : L j with
  | false => rfl
  | true => rw [h hj] at hLi; cases hLi
end
/-! ### Rows that are read at a base -/
def Ty.bs {α : Type} (w0 : World) (t : Ty α) : Ty α where
  own := fun _ _ v x => t.rep w0 v x
  rep := fun _ v x => t.rep w0 v x
  loc := fun _ h => h
  mono := fun _ h => h
  toRep := fun h => h
  ext := fun _ h => h
  one := fun h => t.one h
/-! ### Read while the base stands and the blocks of S stand -/
structure FrT (α : Type) where
  w0 : World
  t : Ty α
def FrT.at {α : Type} (o : FrT α) (v : Value) (x : α) : Ent := fun S w => ∀ w', Ext o.w0 w' → (∀ b, S b → w'.heap[b]? = w.heap[b]?) → o.t.rep w' v x
theorem FrT.at_local {α : Type} (o : FrT α) (v : Value) (x : α) : Local (o.at v x) :=
  ⟨fun _ _ _ h k w'' he hs => k w'' he fun b hb => (hs b hb).trans (h b hb), fun _ _ _ h k w' he hs => k w' he fun b hb => hs b (h b hb)⟩
section
variable {w0 w : World} {As Rs : List Ent} {B : Nat} {α β : Type} {t : Ty α} {v u1 u2 : Value} {x x1 x2 : α}
/-! ### Two that share blocks -/
def fst2 : Value → Value
  | .agg a => a.toList.headD undef
  | _ => undef
def snd2 : Value → Value
  | .agg a => (a.toList.drop 1).headD undef
  | _ => undef
structure Fr2 (α : Type) where
  t : Ty α
def Fr2.at {α : Type} (o : Fr2 α) (v : Value) (x : α × α) : Ent := fun S w => ∀ w', (∀ b, S b → w'.heap[b]? = w.heap[b]?) → o.t.rep w' (fst2 v) x.1 ∧ o.t.rep w' (snd2 v) x.2
theorem Fr2.at_local (o : Fr2 α) (v : Value) (x : α × α) : Local (o.at v x) :=
  ⟨fun _ _ _ h k w'' hs => k w'' fun b hb => (hs b hb).trans (h b hb), fun _ _ _ h k w' hs => k w' fun b hb => hs b (h b hb)⟩
end

/-! ### A slice of a slice: read whenever that one is -/
section
variable {P : Program} {n : Nat} {Q : Post} {f : Fr} {w : World} {T : TypeId}
end

theorem resCC {P : Program} {n : Nat} {f : Fr} {w : World} {fn : Func} {a t m b c u k d : Nat} {vs us : List Value} (hfn : fn.results = #[.cell a t, .cell c u]) (ha : f a = .pointer (some ⟨b, 0, none⟩)) (ht : StT P t m) (hb : BoxAt w b vs) (hm : vs.length = m)
    (hc : f c = .pointer (some ⟨d, 0, none⟩)) (hu : StT P u k) (hd : BoxAt w d us) (hk : us.length = k) :
    ∀ ac, Agree n ac f → (results fn ac.tmps).run P w = .ok (.tuple #[.agg vs.toArray, .agg us.toArray]) w := fun ac hac => by
  obtain ⟨T', hb⟩ := hb
  obtain ⟨U', hd⟩ := hd
  have e1 := hac.get a
  have e2 := hac.get c
  rw [ha] at e1
  rw [hc] at e2
  have hl := loadVar_agg (P := P) (o := 0) ht hb (us := vs) (by rw [List.drop_zero, List.take_of_length_le (by omega)]) hm
  have hl2 := loadVar_agg (P := P) (o := 0) hu hd (us := us) (by rw [List.drop_zero, List.take_of_length_le (by omega)]) hk
  rw [Array.getD_eq_getD_getElem?] at e1 e2
  simp [results, hfn, e1, e2, asAddr, hl, hl2]
/-! ### What a function value writes -/
structure ES (σ : Type) where
  ent : σ → Ent
  loc : ∀ s, Local (ent s)
def ES.at {σ : Type} (E : ES σ) (_ : Value) (s : σ) : Ent := E.ent s
section
variable {w0 w : World} {As : List Ent} {b k : Nat} {u v : Value}
end
end Go.VG
