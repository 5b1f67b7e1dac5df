/- A law's arguments opened: what the readable argument says, in the plain words of the twins. No condition. -/
import Derived.Test.YtjjjljlobfpbnaaVgGen
import Derived.ProofKit
import Derived.OpenShut
import Derived.ChangeOld
import Derived.Deep.Slices
set_option linter.all false
namespace Go.VG
open Go.ChangeShapes Go.WideShapes Go.RowKit Go.Deep

/-- What the reading of a value of type t (its cells) says. -/
def Opens (P : Program) (t : TypeId) (R : World → List Value → Prop) : Prop :=
  ∀ {H : Type} {enc : TypeId × Value → H} {w : World} {fuel : Nat} {cs : List Value} {x : DataW H × List MemPlace}, DataW.trod enc P w 0 (fun _ => true) true fuel t cs = some x → R w cs
/-- One cell, that reads as some datum. -/
def RdOf {α : Type} (τ : Ty α) (w : World) (cs : List Value) : Prop := ∃ v d, cs = [v] ∧ τ.rep w v d

theorem inR_of_wf {k : IntKind} {n : Int} (h : (Lit.int k n).wf = true) : InR k n := by
  simp only [Lit.wf, Bool.and_eq_true, decide_eq_true_eq] at h
  exact h

section
variable {P : Program} {t e : TypeId}
theorem opens_int {k : IntKind} (ht : P.underlying t = some (.int k)) : Opens P t (RdOf (Ty.i k)) := fun {_ _ _ _ _ _} h => by
  obtain ⟨n, h1, _, h3⟩ := DataW.trod_int ht h
  exact ⟨_, n, h1, rfl, inR_of_wf h3⟩
theorem choose_list {α : Type} (Q : Nat → α → Prop) : ∀ (n : Nat), (∀ i, i < n → ∃ x, Q i x) → ∃ l : List α, l.length = n ∧ ∀ i x, l[i]? = some x → Q i x
  | 0, _ => ⟨[], rfl, fun i x h => by simp at h⟩
  | n + 1, h => by
    obtain ⟨l, hl, hq⟩ := choose_list Q n (fun i hi => h i (by omega))
    obtain ⟨y, hy⟩ := h n (by omega)
    refine ⟨l ++ [y], by simp [hl], fun i x hx => ?_⟩
    rw [List.getElem?_append] at hx
    split at hx
    · exact hq i x hx
    · rename_i hlt
      have : i = n := by
        have := (List.getElem?_eq_some_iff.1 hx).1
        simp at this; omega
      subst this
      simp [hl] at hx
      exact hx ▸ hy

theorem opens_slice {α : Type} {τ : Ty α} (ht : P.underlying t = some (.slice e)) (hC : P.cellsOf e = 1) (ho : Opens P e (RdOf τ)) : Opens P t (RdOf τ.sl) := fun {H enc w fuel cs x} h => by
  rcases open_slice ht h with ⟨rfl, _⟩ | ⟨a, len, cap, m, n, D, Pl, rfl, _, hl, hm, hmm, _, hi⟩
  · exact ⟨_, [], rfl, none, 0, rfl, Nat.le_refl _, by simp [maxLen], fun h => absurd rfl h, fun i x hx => by simp at hx⟩
  · simp only [if_true] at hmm
    subst hmm
    obtain ⟨l, hlen, hq⟩ := choose_list (fun i y => ∃ u, w.cell? (a.add i) = some u ∧ τ.rep w u y) len (fun i hil => by
      obtain ⟨cs', hc, ht'⟩ := hi i (by omega)
      obtain ⟨v, d, rfl, hr⟩ := ho ht'
      obtain ⟨_, _, hat⟩ := World.cells?_some hc
      have := hat 0 (by omega)
      rw [hC] at this
      refine ⟨d, v, ?_, hr⟩
      simpa [add_add] using this)
    refine ⟨_, l, rfl, some a, m, by rw [hlen], by omega, hm, fun _ => by simp, fun i x hx => ?_⟩
    obtain ⟨u, h1, h2⟩ := hq i x hx
    exact ⟨u, h1, h2⟩

theorem open_sl {α : Type} {τ : Ty α} {r : Reach} {b0 : Nat} {v : Value} {H : Type} {enc : TypeId × Value → H} {w : World} {d : DataW H} {ps : List MemPlace} (ht : P.underlying t = some (.slice e)) (ho : Opens P t (RdOf τ)) (hv : Value.okWide P w r b0 t v) (h : DataW.Trod enc P w 0 (fun _ => true) true t v d ps) : ∃ x, τ.rep w v x := by
  obtain ⟨a, l, c, rfl⟩ := okWide_slice ht hv
  obtain ⟨fuel, hf⟩ := h
  obtain ⟨u, x, h1, h2⟩ := ho hf
  simp [Value.cells] at h1
  exact ⟨x, h1 ▸ h2⟩
end

/-! ### What a reading says of the data themselves -/

def Good1 (k : IntKind) (l : List Int) : Prop := l.length ≤ maxLen ∧ ∀ x ∈ l, InR k x
theorem good1 {k : IntKind} {w : World} {v : Value} {l : List Int} (h : (Ty.sl (Ty.i k)).rep w v l) : Good1 k l :=
  ⟨repSl.max h, fun x hx => by
    obtain ⟨i, hi⟩ := List.mem_iff_getElem?.1 hx
    obtain ⟨u, _, hr⟩ := repSl.el h hi
    exact hr.2⟩
end Go.VG
