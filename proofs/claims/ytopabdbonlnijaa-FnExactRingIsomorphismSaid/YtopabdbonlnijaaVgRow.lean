/- A law's arguments opened: what the readable argument says, in the plain words of the twins. No condition. -/
import Derived.Test.YtopabdbonlnijaaVgGen
import Derived.ProofKit
import Derived.OpenShut
import Derived.ChangeOld
import Derived.Deep.Slices
set_option linter.all false
namespace Go.VG
open Go.ChangeShapes Go.WideShapes Go.RowKit Go.Deep

/-- What the reading of a value of type t (its cells) says. -/
def Opens (P : Program) (t : TypeId) (R : World → List Value → Prop) : Prop :=
  ∀ {H : Type} {enc : TypeId × Value → H} {w : World} {fuel : Nat} {cs : List Value} {x : DataW H × List MemPlace}, DataW.trod enc P w 0 (fun _ => true) true fuel t cs = some x → R w cs
/-- One cell, that reads as some datum. -/
def RdOf {α : Type} (τ : Ty α) (w : World) (cs : List Value) : Prop := ∃ v d, cs = [v] ∧ τ.rep w v d

theorem inR_of_wf {k : IntKind} {n : Int} (h : (Lit.int k n).wf = true) : InR k n := by
  simp only [Lit.wf, Bool.and_eq_true, decide_eq_true_eq] at h
  exact h

section
variable {P : Program} {t e : TypeId}
theorem opens_int {k : IntKind} (ht : P.underlying t = some (.int k)) : Opens P t (RdOf (Ty.i k)) := fun {_ _ _ _ _ _} h => by
  obtain ⟨n, h1, _, h3⟩ := DataW.trod_int ht h
  exact ⟨_, n, h1, rfl, inR_of_wf h3⟩
theorem opens_bool (ht : P.underlying t = some .bool) : Opens P t (RdOf Ty.b) := fun {_ _ _ _ _ _} h => by
  obtain ⟨n, h1, _⟩ := DataW.trod_bool ht h
  exact ⟨_, n, h1, rfl⟩

theorem choose_list {α : Type} (Q : Nat → α → Prop) : ∀ (n : Nat), (∀ i, i < n → ∃ x, Q i x) → ∃ l : List α, l.length = n ∧ ∀ i x, l[i]? = some x → Q i x
  | 0, _ => ⟨[], rfl, fun i x h => by simp at h⟩
  | n + 1, h => by
    obtain ⟨l, hl, hq⟩ := choose_list Q n (fun i hi => h i (by omega))
    obtain ⟨y, hy⟩ := h n (by omega)
    refine ⟨l ++ [y], by simp [hl], fun i x hx => ?_⟩
    rw [List.getElem?_append] at hx
    split at hx
    · exact hq i x hx
    · rename_i hlt
      have : i = n := by
        have := (List.getElem?_eq_some_iff.1 hx).1
        simp at this; omega
      subst this
      simp [hl] at hx
      exact hx ▸ hy

theorem opens_slice {α : Type} {τ : Ty α} (ht : P.underlying t = some (.slice e)) (hC : P.cellsOf e = 1) (ho : Opens P e (RdOf τ)) : Opens P t (RdOf τ.sl) := fun {H enc w fuel cs x} h => by
  rcases open_slice ht h with ⟨rfl, _⟩ | ⟨a, len, cap, m, n, D, Pl, rfl, _, hl, hm, hmm, _, hi⟩
  · exact ⟨_, [], rfl, none, 0, rfl, Nat.le_refl _, by simp [maxLen], fun h => absurd rfl h, fun i x hx => by simp at hx⟩
  · simp only [if_true] at hmm
    subst hmm
    obtain ⟨l, hlen, hq⟩ := choose_list (fun i y => ∃ u, w.cell? (a.add i) = some u ∧ τ.rep w u y) len (fun i hil => by
      obtain ⟨cs', hc, ht'⟩ := hi i (by omega)
      obtain ⟨v, d, rfl, hr⟩ := ho ht'
      obtain ⟨_, _, hat⟩ := World.cells?_some hc
      have := hat 0 (by omega)
      rw [hC] at this
      refine ⟨d, v, ?_, hr⟩
      simpa [add_add] using this)
    refine ⟨_, l, rfl, some a, m, by rw [hlen], by omega, hm, fun _ => by simp, fun i x hx => ?_⟩
    obtain ⟨u, h1, h2⟩ := hq i x hx
    exact ⟨u, h1, h2⟩

theorem open_sl {α : Type} {τ : Ty α} {r : Reach} {b0 : Nat} {v : Value} {H : Type} {enc : TypeId × Value → H} {w : World} {d : DataW H} {ps : List MemPlace} (ht : P.underlying t = some (.slice e)) (ho : Opens P t (RdOf τ)) (hv : Value.okWide P w r b0 t v) (h : DataW.Trod enc P w 0 (fun _ => true) true t v d ps) : ∃ x, τ.rep w v x := by
  obtain ⟨a, l, c, rfl⟩ := okWide_slice ht hv
  obtain ⟨fuel, hf⟩ := h
  obtain ⟨u, x, h1, h2⟩ := ho hf
  simp [Value.cells] at h1
  exact ⟨x, h1 ▸ h2⟩
theorem open_st {fs : Array Field} {R : World → List Value → Prop} {r : Reach} {b0 : Nat} {v : Value} {H : Type} {enc : TypeId × Value → H} {w : World} {d : DataW H} {ps : List MemPlace} (ht : P.underlying t = some (.struct fs)) (ho : Opens P t R) (hv : Value.okWide P w r b0 t v) (h : DataW.Trod enc P w 0 (fun _ => true) true t v d ps) : ∃ cs, v = .agg cs.toArray ∧ R w cs := by
  obtain ⟨cs, rfl, _⟩ := okWide_struct ht hv
  obtain ⟨fuel, hf⟩ := h
  have := ho hf
  refine ⟨cs.toList, by simp, this⟩

/-- A struct of one field of one cell. -/
theorem opens_st1 {α : Type} {τ : Ty α} {f0 : Field} (ht : P.underlying t = some (.struct #[f0])) (hC : P.cellsOf t = 1) (h0 : f0.offset = 0) (c0 : P.cellsOf f0.type = 1) (ho : Opens P f0.type (RdOf τ)) : Opens P t (RdOf τ) := fun {H enc w fuel cs x} h => by
  obtain ⟨xs, n, _, _, hl, hlen, hf⟩ := DataW.trod_struct ht h
  rw [hC] at hl
  match cs, hl with
  | [a], _ =>
    match xs, hlen with
    | [y], _ =>
      have := hf 0 f0 rfl
      simp [h0, c0] at this
      exact ho this
def RdC {α β γ : Type} (τ : Ty α) (σ : Ty β) (ρ : Ty γ) (w : World) (cs : List Value) : Prop := ∃ a b c x y z, cs = [a, b, c] ∧ τ.rep w a x ∧ σ.rep w b y ∧ ρ.rep w c z
theorem opens_st3 {α β γ : Type} {τ : Ty α} {σ : Ty β} {ρ : Ty γ} {f0 f1 f2 : Field} (ht : P.underlying t = some (.struct #[f0, f1, f2])) (hC : P.cellsOf t = 3) (h0 : f0.offset = 0 ∧ f1.offset = 1 ∧ f2.offset = 2)
    (c0 : P.cellsOf f0.type = 1) (c1 : P.cellsOf f1.type = 1) (c2 : P.cellsOf f2.type = 1) (o0 : Opens P f0.type (RdOf τ)) (o1 : Opens P f1.type (RdOf σ)) (o2 : Opens P f2.type (RdOf ρ)) : Opens P t (RdC τ σ ρ) := fun {H enc w fuel cs x} h => by
  obtain ⟨xs, n, _, _, hl, hlen, hf⟩ := DataW.trod_struct ht h
  rw [hC] at hl
  match cs, hl with
  | [a, b, c], _ =>
    match xs, hlen with
    | [y0, y1, y2], _ =>
      have e0 := hf 0 f0 rfl
      have e1 := hf 1 f1 rfl
      have e2 := hf 2 f2 rfl
      simp [h0.1, c0] at e0
      simp [h0.2.1, c1] at e1
      simp [h0.2.2, c2] at e2
      obtain ⟨_, x0, r0, k0⟩ := o0 e0
      obtain ⟨_, x1, r1, k1⟩ := o1 e1
      obtain ⟨_, x2, r2, k2⟩ := o2 e2
      cases r0; cases r1; cases r2
      exact ⟨_, _, _, x0, x1, x2, rfl, k0, k1, k2⟩
def RdB {α β γ δ : Type} (τ : Ty α) (σ : Ty β) (ρ : Ty γ) (θ : Ty δ) (w : World) (cs : List Value) : Prop := ∃ a b c d x y z u, cs = [a, b, c, d] ∧ τ.rep w a x ∧ σ.rep w b y ∧ ρ.rep w c z ∧ θ.rep w d u
theorem opens_st31 {α β γ δ : Type} {τ : Ty α} {σ : Ty β} {ρ : Ty γ} {θ : Ty δ} {f0 f1 : Field} (ht : P.underlying t = some (.struct #[f0, f1])) (hC : P.cellsOf t = 4) (h0 : f0.offset = 0 ∧ f1.offset = 3)
    (c0 : P.cellsOf f0.type = 3) (c1 : P.cellsOf f1.type = 1) (o0 : Opens P f0.type (RdC τ σ ρ)) (o1 : Opens P f1.type (RdOf θ)) : Opens P t (RdB τ σ ρ θ) := fun {H enc w fuel cs x} h => by
  obtain ⟨xs, n, _, _, hl, hlen, hf⟩ := DataW.trod_struct ht h
  rw [hC] at hl
  match cs, hl with
  | [a, b, c, d], _ =>
    match xs, hlen with
    | [y0, y1], _ =>
      have e0 := hf 0 f0 rfl
      have e1 := hf 1 f1 rfl
      simp [h0.1, c0] at e0
      simp [h0.2, c1] at e1
      obtain ⟨_, _, _, x, y, z, r0, k0, k1, k2⟩ := o0 e0
      obtain ⟨_, u, r1, k3⟩ := o1 e1
      cases r0; cases r1
      exact ⟨_, _, _, _, x, y, z, u, rfl, k0, k1, k2, k3⟩
end

/-! ### What a reading says of the data themselves -/

def Good1 (k : IntKind) (l : List Int) : Prop := l.length ≤ maxLen ∧ ∀ x ∈ l, InR k x
def Good2 (k : IntKind) (l : List (List Int)) : Prop := l.length ≤ maxLen ∧ ∀ x ∈ l, Good1 k x
def Good3 (k : IntKind) (l : List (List (List Int))) : Prop := l.length ≤ maxLen ∧ ∀ x ∈ l, Good2 k x
theorem good1 {k : IntKind} {w : World} {v : Value} {l : List Int} (h : (Ty.sl (Ty.i k)).rep w v l) : Good1 k l :=
  ⟨repSl.max h, fun x hx => by
    obtain ⟨i, hi⟩ := List.mem_iff_getElem?.1 hx
    obtain ⟨u, _, hr⟩ := repSl.el h hi
    exact hr.2⟩
theorem good2 {k : IntKind} {w : World} {v : Value} {l : List (List Int)} (h : (Ty.sl (Ty.sl (Ty.i k))).rep w v l) : Good2 k l :=
  ⟨repSl.max h, fun x hx => by
    obtain ⟨i, hi⟩ := List.mem_iff_getElem?.1 hx
    obtain ⟨u, _, hr⟩ := repSl.el h hi
    exact good1 hr⟩
theorem good3 {k : IntKind} {w : World} {v : Value} {l : List (List (List Int))} (h : (Ty.sl (Ty.sl (Ty.sl (Ty.i k)))).rep w v l) : Good3 k l :=
  ⟨repSl.max h, fun x hx => by
    obtain ⟨i, hi⟩ := List.mem_iff_getElem?.1 hx
    obtain ⟨u, _, hr⟩ := repSl.el h hi
    exact good2 hr⟩
end Go.VG
