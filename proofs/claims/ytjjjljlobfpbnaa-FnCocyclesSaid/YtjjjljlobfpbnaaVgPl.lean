/- Plain laws of the twins' words: counted loops that check, that build, that sum. No program in sight. No condition. -/
import Derived.Test.YtjjjljlobfpbnaaVgGen
set_option linter.all false
namespace Go.VG

theorem idx_getD {α : Type} (l : List α) (d : α) {i : Nat} (h : i < l.length) : idx l (i : Int) = some (l.getD i d) := by
  simp [idx, List.getElem?_eq_getElem h]
theorem idx_toNat {α : Type} (l : List α) (d : α) {i : Int} (h0 : 0 ≤ i) (h : i < l.length) : idx l i = some (l.getD i.toNat d) := by
  have : i.toNat < l.length := by omega
  simp [idx, h0, List.getElem?_eq_getElem this]
theorem idx_zero {α : Type} (l : List α) (d : α) (h : 0 < l.length) : idx l (0 : Int) = some (l.getD 0 d) := idx_getD l d h

/-! ### Loops that only check -/

def Chk {R : Type} (o : Option (Res Unit R)) (P : Prop) (Bad : R → Prop) : Prop := (P ∧ o = some (.fin ())) ∨ (¬ P ∧ ∃ r, o = some (.ret r) ∧ Bad r)
def ChkC {R : Type} (o : Option (Ctl Unit R)) (P : Prop) (Bad : R → Prop) : Prop := (P ∧ o = some (.next ())) ∨ (¬ P ∧ ∃ r, o = some (.ret r) ∧ Bad r)

section
variable {R S : Type} {Bad : R → Prop}
theorem ChkC.congr {o : Option (Ctl Unit R)} {P Q : Prop} (h : ChkC o P Bad) (e : P ↔ Q) : ChkC o Q Bad := by unfold ChkC at *; rwa [← e]
theorem Chk.congr {o : Option (Res Unit R)} {P Q : Prop} (h : Chk o P Bad) (e : P ↔ Q) : Chk o Q Bad := by unfold Chk at *; rwa [← e]
theorem ChkC.ite {b : Bool} {r : R} (hr : Bad r) : ChkC (if b = true then some (.ret r) else some (.next ())) (b = false) Bad := by
  cases b
  · exact .inl ⟨rfl, rfl⟩
  · exact .inr ⟨by simp, r, rfl, hr⟩
theorem ChkC.iteAnd {b : Bool} {r : R} {o : Option (Ctl Unit R)} {P : Prop} (hr : Bad r) (h : b = false → ChkC o P Bad) : ChkC (if b = true then some (.ret r) else o) (b = false ∧ P) Bad := by
  cases b
  · rcases h rfl with ⟨h1, h2⟩ | ⟨h1, r, h2, h3⟩
    · exact .inl ⟨⟨rfl, h1⟩, h2⟩
    · exact .inr ⟨fun h => h1 h.2, r, h2, h3⟩
  · exact .inr ⟨by simp, r, rfl, hr⟩
theorem ChkC.loop {o : Option (Res Unit R)} {P : Prop} (h : Chk o P Bad) : ChkC (o.bind fun res => onRes res (fun r => some (Ctl.ret r)) fun _ => some (.next ())) P Bad := by
  rcases h with ⟨h1, rfl⟩ | ⟨h1, r, rfl, h3⟩
  · exact .inl ⟨h1, rfl⟩
  · exact .inr ⟨h1, r, rfl, h3⟩
theorem forN_chk_from {body : Nat → Unit → Option (Ctl Unit R)} {P : Nat → Prop} : ∀ (c k : Nat), (∀ j, j < k → P j) → (∀ j, j < k + c → (∀ i, i < j → P i) → ChkC (body j ()) (P j) Bad) →
    Chk (forN body c k ()) (∀ j, j < k + c → P j) Bad
  | 0, k, hk, _ => .inl ⟨by simpa using hk, rfl⟩
  | c + 1, k, hk, h => by
    rcases h k (by omega) hk with ⟨h1, h2⟩ | ⟨h1, r, h2, h3⟩
    · have := forN_chk_from (body := body) (P := P) c (k + 1) (fun j hj => by
        rcases Nat.lt_or_eq_of_le (Nat.le_of_lt_succ hj) with h | h
        · exact hk j h
        · exact h ▸ h1) (fun j hj => h j (by omega))
      rw [show k + 1 + c = k + (c + 1) from by omega] at this
      simp only [forN, h2]
      exact this
    · exact .inr ⟨fun hh => h1 (hh k (by omega)), r, by simp [forN, h2], h3⟩
theorem forN_chk {body : Nat → Unit → Option (Ctl Unit R)} {P : Nat → Prop} {N : Nat} (h : ∀ j, j < N → (∀ i, i < j → P i) → ChkC (body j ()) (P j) Bad) : Chk (forN body N 0 ()) (∀ j, j < N → P j) Bad := by
  have := forN_chk_from (body := body) (P := P) (Bad := Bad) N 0 (fun j hj => by omega) (fun j hj => h j (by omega))
  simpa using this
end

/-- A bool that says P. -/
def Says (o : Option Bool) (P : Prop) : Prop := ∃ b, o = some b ∧ (b = true ↔ P)
theorem Says.congr {o : Option Bool} {P Q : Prop} (h : Says o P) (e : P ↔ Q) : Says o Q := by unfold Says at *; simpa [← e] using h
theorem Says.eq {o o' : Option Bool} {P : Prop} (h : Says o P) (h' : Says o' P) : o = o' := by
  obtain ⟨b, rfl, h1⟩ := h
  obtain ⟨b', rfl, h2⟩ := h'
  congr 1
  rw [Bool.eq_iff_iff, h1, h2]
theorem Chk.says {o : Option (Res Unit Bool)} {P : Prop} (h : Chk o P (fun r => r = false)) : Says (o.bind fun res => onRes res (fun r => some r) fun _ => some true) P := by
  rcases h with ⟨h1, rfl⟩ | ⟨h1, r, rfl, rfl⟩
  · exact ⟨true, rfl, by simp [h1]⟩
  · exact ⟨false, rfl, by simp [h1]⟩

/-! ### Loops with a state -/

theorem forN_inv_from {S R : Type} {body : Nat → S → Option (Ctl S R)} (I : Nat → S → Prop) : ∀ (c k : Nat) (s : S), I k s → (∀ j s, k ≤ j → j < k + c → I j s → ∃ s', body j s = some (.next s') ∧ I (j + 1) s') →
    ∃ s', forN body c k s = some (.fin s') ∧ I (k + c) s'
  | 0, k, s, h, _ => ⟨s, rfl, h⟩
  | c + 1, k, s, h, hb => by
    obtain ⟨s1, h1, h2⟩ := hb k s (Nat.le_refl _) (by omega) h
    obtain ⟨s2, h3, h4⟩ := forN_inv_from I c (k + 1) s1 h2 (fun j s hj hj' => hb j s (by omega) (by omega))
    exact ⟨s2, by simp only [forN, h1]; exact h3, by rw [show k + (c + 1) = k + 1 + c from by omega]; exact h4⟩
theorem forN_inv {S R : Type} {body : Nat → S → Option (Ctl S R)} {N : Nat} {s : S} (I : Nat → S → Prop) (h0 : I 0 s) (hb : ∀ j s, j < N → I j s → ∃ s', body j s = some (.next s') ∧ I (j + 1) s') : ∃ s', forN body N 0 s = some (.fin s') ∧ I N s' := by
  have := forN_inv_from (body := body) I N 0 s h0 (fun j s _ hj => hb j s (by omega))
  simpa using this
/-- The states told by a function of the round. -/
theorem forN_det {S R : Type} {body : Nat → S → Option (Ctl S R)} {N : Nat} (g : Nat → S) (hb : ∀ j, j < N → body j (g j) = some (.next (g (j + 1)))) : forN body N 0 (g 0) = some (.fin (g N)) := by
  obtain ⟨s, h1, h2⟩ := forN_inv (body := body) (N := N) (fun j s => s = g j) rfl (fun j s hj hs => by subst hs; exact ⟨_, hb j hj, rfl⟩)
  rw [h1, h2]

/-- A list built by appends. -/
theorem forN_app {α R : Type} {body : Nat → List α → Option (Ctl (List α) R)} {N : Nat} (f : Nat → α) (hb : ∀ j, j < N → body j ((List.range j).map f) = some (.next ((List.range (j + 1)).map f))) :
    forN body N 0 [] = some (.fin ((List.range N).map f)) := forN_det (fun k => (List.range k).map f) hb

theorem map_range_getD {α : Type} (l : List α) (d : α) : (List.range l.length).map (fun i => l.getD i d) = l := by
  apply List.ext_getElem
  · simp
  · intro i h1 h2
    simp only [List.length_map, List.length_range] at h1
    simp [List.getElem?_eq_getElem h1]

/-! ### Sums -/

def sumN (f : Nat → Int) : Nat → Int
  | 0 => 0
  | n + 1 => sumN f n + f n
theorem sumN_congr {f g : Nat → Int} : ∀ {n : Nat}, (∀ k, k < n → f k = g k) → sumN f n = sumN g n
  | 0, _ => rfl
  | n + 1, h => by simp only [sumN]; rw [sumN_congr (fun k hk => h k (by omega)), h n (by omega)]
theorem sumN_bd {f : Nat → Int} {a b : Int} : ∀ {n : Nat}, (∀ k, k < n → a ≤ f k ∧ f k ≤ b) → n * a ≤ sumN f n ∧ sumN f n ≤ n * b
  | 0, _ => by simp [sumN]
  | n + 1, h => by
    have h1 := sumN_bd (n := n) (fun k hk => h k (by omega))
    have h2 := h n (by omega)
    simp only [sumN]
    have e1 : ((n + 1 : Nat) : Int) * a = n * a + a := by rw [Int.natCast_add]; simp [Int.add_mul]
    have e2 : ((n + 1 : Nat) : Int) * b = n * b + b := by rw [Int.natCast_add]; simp [Int.add_mul]
    omega
theorem iterW_next {S R : Type} {step : S → Option (Ctl S R)} {s s' : S} {r : Res S R} {n : Nat} (h : step s = some (.next s')) (h2 : iterW step n s' = some r) : iterW step (n + 1) s = some r := by
  simp only [iterW, h]; exact h2
theorem iterW_brk {S R : Type} {step : S → Option (Ctl S R)} {s s' : S} (h : step s = some (.brk s')) : iterW step 1 s = some (.fin s') := by simp only [iterW, h]
theorem forN_next1 {S R : Type} {body : Nat → S → Option (Ctl S R)} {c k : Nat} {s s' : S} (h : body k s = some (.next s')) : forN body (c + 1) k s = forN body c (k + 1) s' := by simp only [forN, h]
theorem forN_ret1 {S R : Type} {body : Nat → S → Option (Ctl S R)} {c k : Nat} {s : S} {r : R} (h : body k s = some (.ret r)) : forN body (c + 1) k s = some (.ret r) := by simp only [forN, h]
end Go.VG
