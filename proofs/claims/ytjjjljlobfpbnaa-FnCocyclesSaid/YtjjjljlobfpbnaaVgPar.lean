/- Regions that draw their order: the operations' values told one by one, whatever the order; then a tail in order. No condition. -/
import Derived.Test.YtjjjljlobfpbnaaVgData
set_option linter.all false
namespace Go.VG
open Go.RowKit (Below)

def dstOf (l : List Oper) (j : Nat) : Option Tmp := (l[j]?).bind (·.dst)
def depB (o : Oper) (j : Nat) : Bool := o.after.toList.any fun e => Nat.beq e.on j && Region.binds .any e

/-- Is the operation carried out, by what its guard's slot holds? -/
def wantedF (l : List Oper) (o : Oper) (f : Fr) : Bool :=
  match o.guard with
  | none => true
  | some (j, b) => match dstOf l j with
    | some t => (match f t with | .bool c => c == b | _ => false)
    | none => false

def OpY (P : Program) (l : List Oper) (o : Oper) (f : Fr) (w : World) (φ : Value → World → Prop) : Prop :=
  (wantedF l o f = true ∧ ((∃ v w', OpV P o.op o.type f w v w' ∧ Ext w w' ∧ φ v w') ∨ (∃ g args, OpC P o.op o.type f w g args ∧ Ret P g args w fun v w' => Ext w w' ∧ φ v w'))) ∨
  (wantedF l o f = false ∧ φ undef w)

theorem OpY.val {P : Program} {l : List Oper} {o : Oper} {f : Fr} {w : World} {φ : Value → World → Prop} (v : Value) (w' : World) (hg : wantedF l o f = true) (h : OpV P o.op o.type f w v w') (he : Ext w w') (hφ : φ v w') : OpY P l o f w φ :=
  .inl ⟨hg, .inl ⟨v, w', h, he, hφ⟩⟩
theorem OpY.call {P : Program} {l : List Oper} {o : Oper} {f : Fr} {w : World} {φ : Value → World → Prop} {g : FuncId} {args : Array Value} (hg : wantedF l o f = true) (h : OpC P o.op o.type f w g args) (hr : Ret P g args w fun v w' => Ext w w' ∧ φ v w') : OpY P l o f w φ :=
  .inl ⟨hg, .inr ⟨g, args, h, hr⟩⟩
theorem OpY.skip {P : Program} {l : List Oper} {o : Oper} {f : Fr} {w : World} {φ : Value → World → Prop} (hg : wantedF l o f = false) (h : φ undef w) : OpY P l o f w φ := .inr ⟨hg, h⟩

def isDst (l : List Oper) (p t : Nat) : Bool := (l.take p).any fun o => match o.dst with | some d => Nat.beq d t | none => false

/-- The operations named so read no slot that another one of them writes, unless they wait for it. -/
def looks (l : List Oper) (o : Oper) : List Tmp :=
  (o.op.operands.toList.filterMap fun | .tmp t => some t | _ => none) ++ (match o.guard with | some (g, _) => (dstOf l g).toList | none => [])

def slotsOk (l : List Oper) (p : Nat) : Bool :=
  (List.range p).all fun i => match l[i]? with
    | none => false
    | some o => o.dst.isSome && (List.range p).all fun j =>
      match dstOf l j with
      | some d => (if (looks l o).contains d then depB o j else true) && (if i = j then true else o.dst != some d)
      | none => false

def edgesOk (l : List Oper) : Bool := l.zipIdx.all fun (o, i) => o.after.toList.all fun e => !Region.binds .any e || decide (e.on < i)
def guardsOk (l : List Oper) (p : Nat) : Bool := (l.take p).all fun o => match o.guard with | some (g, _) => depB o g && decide (g < p) | none => true

def mask (o : Oper) (acc : List Nat) : Nat := o.after.toList.foldl (fun s e => if Region.binds .any e then s ||| 2 ^ e.on ||| acc.getD e.on 0 else s) 0
def befs : List Oper → List Nat → List Nat
  | [], acc => acc
  | o :: l, acc => befs l (acc ++ [mask o acc])
/-! ### Soundness -/

/-- A set that is closed under what its members wait for. -/
def Closed (l : List Oper) (L : Nat → Prop) : Prop := ∀ i o, l[i]? = some o → L i → ∀ e ∈ o.after.toList, Region.binds .any e = true → L e.on

theorem foldl_mask (L : Nat → Prop) (acc : List Nat) (hacc : ∀ i j, L i → (acc.getD i 0).testBit j = true → L j) : ∀ (es : List Edge) (s : Nat), (∀ e ∈ es, Region.binds .any e = true → L e.on) → (∀ j, s.testBit j = true → L j) →
    ∀ j, (es.foldl (fun s e => if Region.binds .any e then s ||| 2 ^ e.on ||| acc.getD e.on 0 else s) s).testBit j = true → L j
  | [], s, _, hs, j, h => hs j h
  | e :: es, s, he, hs, j, h => by
    simp only [List.foldl_cons] at h
    refine foldl_mask L acc hacc es _ (fun e' h' => he e' (List.mem_cons_of_mem _ h')) ?_ j h
    intro j hj
    split at hj
    · rename_i hb
      have hL := he e (List.mem_cons_self ..) hb
      simp only [Nat.testBit_or, Bool.or_eq_true] at hj
      rcases hj with (hj | hj) | hj
      · exact hs j hj
      · rw [Nat.testBit_two_pow] at hj
        have : e.on = j := by simpa using hj
        exact this ▸ hL
      · exact hacc _ _ hL hj
    · exact hs j hj

theorem befs_spec {l0 : List Oper} (L : Nat → Prop) (hc : Closed l0 L) : ∀ (l : List Oper) (acc : List Nat), (∀ j, l[j]? = l0[acc.length + j]?) → (∀ i j, L i → (acc.getD i 0).testBit j = true → L j) →
    ∀ i j, L i → ((befs l acc).getD i 0).testBit j = true → L j
  | [], acc, _, hacc, i, j, hi, h => hacc i j hi h
  | o :: l, acc, hl, hacc, i, j, hi, h => by
    simp only [befs] at h
    refine befs_spec L hc l (acc ++ [mask o acc]) (fun j => ?_) ?_ i j hi h
    · have := hl (j + 1)
      simp only [List.getElem?_cons_succ] at this
      rw [this]
      congr 1
      simp
      omega
    · intro i j hi h
      by_cases hlt : i < acc.length
      · refine hacc i j hi ?_
        simpa [List.getD, List.getElem?_append, hlt] using h
      · by_cases he : i = acc.length
        · subst he
          have ho : l0[acc.length]? = some o := by have := hl 0; simpa using this.symm
          have h' : (mask o acc).testBit j = true := by simpa [List.getD, List.getElem?_append] using h
          exact foldl_mask L acc hacc _ 0 (fun e he hb => hc _ o ho hi e he hb) (fun j hj => by simp at hj) j h'
        · have : (acc ++ [mask o acc]).getD i 0 = 0 := by
            simp [List.getD, List.getElem?_append, hlt]
            rw [List.getElem?_eq_none (by simp; omega)]
            rfl
          rw [this] at h
          simp at h

section
variable {P : Program} {n : Nat} {Q : Post} {l : List Oper} {p : Nat}

theorem wanted_iff {a : Act} {f : Fr} (ha : Agree n a f) (o : Oper) : Region.wanted o (yielded l.toArray a.tmps) = wantedF l o f := by
  unfold Region.wanted wantedF
  cases hg : o.guard with
  | none => rfl
  | some gb =>
    obtain ⟨j, b⟩ := gb
    unfold yielded dstOf
    simp only [List.getElem?_toArray]
    cases ht : (l[j]?).bind (·.dst) with
    | none => rfl
    | some t =>
      have hg := ha.get t
      simp only [Option.bind_some]
      cases hx : a.tmps[t]? with
      | none =>
        rw [Array.getD_eq_getD_getElem?, hx] at hg
        simp only [Option.getD_none] at hg
        rw [← hg]; rfl
      | some x =>
        rw [Array.getD_eq_getD_getElem?, hx] at hg
        simp only [Option.getD_some] at hg
        rw [← hg]
        cases x <;> rfl

theorem mem_ready' {listed : Array Bool} {i : Nat} (h : i ∈ Region.ready .any l.toArray listed) :
    i < l.length ∧ listed.getD i true = false ∧ ∃ o, l[i]? = some o ∧ ∀ e ∈ o.after.toList, Region.binds .any e = true → listed.getD e.on false = true := by
  unfold Region.ready at h
  rw [List.mem_filter] at h
  obtain ⟨h1, h2⟩ := h
  simp only [List.getElem?_toArray, Bool.and_eq_true, Bool.not_eq_true'] at h2
  refine ⟨by simpa using h1, h2.1, ?_⟩
  cases ho : l[i]? with
  | none => simp [ho] at h2
  | some o =>
    refine ⟨o, rfl, fun e he hb => ?_⟩
    have h3 := h2.2
    simp only [ho, Option.map_some, Option.getD_some] at h3
    rw [← Array.all_toList, List.all_eq_true] at h3
    have := h3 e he
    simpa [hb] using this

theorem ready_of {listed : Array Bool} {i : Nat} {o : Oper} (ho : l[i]? = some o) (hu : listed.getD i true = false) (hd : ∀ e ∈ o.after.toList, Region.binds .any e = true → listed.getD e.on false = true) :
    i ∈ Region.ready .any l.toArray listed := by
  unfold Region.ready
  rw [List.mem_filter]
  refine ⟨by simpa using (List.getElem?_eq_some_iff.1 ho).1, ?_⟩
  simp only [List.getElem?_toArray, ho, Option.map_some, Option.getD_some, Bool.and_eq_true, Bool.not_eq_true']
  refine ⟨hu, ?_⟩
  rw [← Array.all_toList, List.all_eq_true]
  intro e he
  cases hb : Region.binds .any e with
  | false => simp
  | true => simpa [hb] using hd e he hb

theorem upd_same (f : Fr) (d : Nat) (v : Value) : upd f d v d = v := by
  have : Nat.beq d d = true := Nat.beq_refl d
  simp [upd, this]
theorem upd_ne (f : Fr) {d t : Nat} (v : Value) (h : t ≠ d) : upd f d v t = f t := by
  have : Nat.beq t d = false := by
    cases hx : Nat.beq t d
    · rfl
    · exact absurd (Nat.eq_of_beq_eq_true hx) h
  simp [upd, this]

theorem wpAny_more {Q' : Exit → Act → World → Prop} {ops : Array Oper} {md : Region.Mode} : ∀ (c c' : Nat) {listed : Array Bool} {a : Act} {w : World}, c ≤ c' → wpAny P md ops Q' c listed a w → wpAny P md ops Q' c' listed a w
  | 0, 0, _, _, _, _, h => h
  | 0, c' + 1, _, _, _, _, h => ⟨fun _ => h.2, fun i hi => by rw [h.1] at hi; cases hi⟩
  | c + 1, 0, _, _, _, hle, _ => by omega
  | c + 1, c' + 1, _, _, _, hle, h => ⟨h.1, fun i hi => wpOp_mono (fun _ _ hk => wpAny_more c c' (by omega) hk) (h.2 i hi)⟩

theorem getD_listed {listed : Array Bool} {i : Nat} (hi : i < listed.size) (b : Bool) : listed.getD i b = listed[i] := by
  rw [Array.getD_eq_getD_getElem?, Array.getElem?_eq_getElem hi, Option.getD_some]

end
end Go.VG
