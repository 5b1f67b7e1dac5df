/- Regions that draw their order: the operations' values told one by one, whatever the order; then a tail in order. No condition. -/
import Derived.Test.YtopabdbonlnijaaVgData
set_option linter.all false
namespace Go.VG
open Go.RowKit (Below)

def Stable (φ : Value → World → Prop) : Prop := ∀ v w w', Ext w w' → φ v w → φ v w'
theorem stable_eq (u : Value) : Stable (fun v _ => v = u) := fun _ _ _ _ h => h

def dstOf (l : List Oper) (j : Nat) : Option Tmp := (l[j]?).bind (·.dst)
def depB (o : Oper) (j : Nat) : Bool := o.after.toList.any fun e => Nat.beq e.on j && Region.binds .any e

/-- Is the operation carried out, by what its guard's slot holds? -/
def wantedF (l : List Oper) (o : Oper) (f : Fr) : Bool :=
  match o.guard with
  | none => true
  | some (j, b) => match dstOf l j with
    | some t => (match f t with | .bool c => c == b | _ => false)
    | none => false

def OpY (P : Program) (l : List Oper) (o : Oper) (f : Fr) (w : World) (φ : Value → World → Prop) : Prop :=
  (wantedF l o f = true ∧ ((∃ v w', OpV P o.op o.type f w v w' ∧ Ext w w' ∧ φ v w') ∨ (∃ g args, OpC P o.op o.type f w g args ∧ Ret P g args w fun v w' => Ext w w' ∧ φ v w'))) ∨
  (wantedF l o f = false ∧ φ undef w)

theorem OpY.val {P : Program} {l : List Oper} {o : Oper} {f : Fr} {w : World} {φ : Value → World → Prop} (v : Value) (w' : World) (hg : wantedF l o f = true) (h : OpV P o.op o.type f w v w') (he : Ext w w') (hφ : φ v w') : OpY P l o f w φ :=
  .inl ⟨hg, .inl ⟨v, w', h, he, hφ⟩⟩
theorem OpY.call {P : Program} {l : List Oper} {o : Oper} {f : Fr} {w : World} {φ : Value → World → Prop} {g : FuncId} {args : Array Value} (hg : wantedF l o f = true) (h : OpC P o.op o.type f w g args) (hr : Ret P g args w fun v w' => Ext w w' ∧ φ v w') : OpY P l o f w φ :=
  .inl ⟨hg, .inr ⟨g, args, h, hr⟩⟩
theorem OpY.skip {P : Program} {l : List Oper} {o : Oper} {f : Fr} {w : World} {φ : Value → World → Prop} (hg : wantedF l o f = false) (h : φ undef w) : OpY P l o f w φ := .inr ⟨hg, h⟩

def isDst (l : List Oper) (p t : Nat) : Bool := (l.take p).any fun o => match o.dst with | some d => Nat.beq d t | none => false

/-- What is asked of one operation: in whatever world, once what it waits for has been yielded. -/
def ObOp (P : Program) (l : List Oper) (p : Nat) (f : Fr) (w : World) (phis : List (Value → World → Prop)) (o : Oper) (φ : Value → World → Prop) : Prop :=
  ∀ f' w', Ext w w' → (∀ t, isDst l p t = false → f' t = f t) → (∀ j d φj, depB o j = true → dstOf l j = some d → phis[j]? = some φj → φj (f' d) w') → OpY P l o f' w' φ

def ParOps (P : Program) (l : List Oper) (p : Nat) (f : Fr) (w : World) (phis : List (Value → World → Prop)) : List Oper → List (Value → World → Prop) → Prop
  | [], [] => True
  | o :: os, φ :: fs => ObOp P l p f w phis o φ ∧ ParOps P l p f w phis os fs
  | _, _ => False

/-- The operations named so read no slot that another one of them writes, unless they wait for it. -/
def looks (l : List Oper) (o : Oper) : List Tmp :=
  (o.op.operands.toList.filterMap fun | .tmp t => some t | _ => none) ++ (match o.guard with | some (g, _) => (dstOf l g).toList | none => [])

def slotsOk (l : List Oper) (p : Nat) : Bool :=
  (List.range p).all fun i => match l[i]? with
    | none => false
    | some o => o.dst.isSome && (List.range p).all fun j =>
      match dstOf l j with
      | some d => (if (looks l o).contains d then depB o j else true) && (if i = j then true else o.dst != some d)
      | none => false

def edgesOk (l : List Oper) : Bool := l.zipIdx.all fun (o, i) => o.after.toList.all fun e => !Region.binds .any e || decide (e.on < i)
def guardsOk (l : List Oper) (p : Nat) : Bool := (l.take p).all fun o => match o.guard with | some (g, _) => depB o g && decide (g < p) | none => true

def mask (o : Oper) (acc : List Nat) : Nat := o.after.toList.foldl (fun s e => if Region.binds .any e then s ||| 2 ^ e.on ||| acc.getD e.on 0 else s) 0
def befs : List Oper → List Nat → List Nat
  | [], acc => acc
  | o :: l, acc => befs l (acc ++ [mask o acc])
def tailOk (l : List Oper) (p : Nat) : Bool :=
  let b := befs l []
  (List.range l.length).all fun i => decide (i < p) || (List.range i).all fun j => (b.getD i 0).testBit j

def parOk (l : List Oper) (p : Nat) : Bool := slotsOk l p && edgesOk l && guardsOk l p && tailOk l p && decide (p ≤ l.length)

/-! ### Soundness -/

/-- A set that is closed under what its members wait for. -/
def Closed (l : List Oper) (L : Nat → Prop) : Prop := ∀ i o, l[i]? = some o → L i → ∀ e ∈ o.after.toList, Region.binds .any e = true → L e.on

theorem foldl_mask (L : Nat → Prop) (acc : List Nat) (hacc : ∀ i j, L i → (acc.getD i 0).testBit j = true → L j) : ∀ (es : List Edge) (s : Nat), (∀ e ∈ es, Region.binds .any e = true → L e.on) → (∀ j, s.testBit j = true → L j) →
    ∀ j, (es.foldl (fun s e => if Region.binds .any e then s ||| 2 ^ e.on ||| acc.getD e.on 0 else s) s).testBit j = true → L j
  | [], s, _, hs, j, h => hs j h
  | e :: es, s, he, hs, j, h => by
    simp only [List.foldl_cons] at h
    refine foldl_mask L acc hacc es _ (fun e' h' => he e' (List.mem_cons_of_mem _ h')) ?_ j h
    intro j hj
    split at hj
    · rename_i hb
      have hL := he e (List.mem_cons_self ..) hb
      simp only [Nat.testBit_or, Bool.or_eq_true] at hj
      rcases hj with (hj | hj) | hj
      · exact hs j hj
      · rw [Nat.testBit_two_pow] at hj
        have : e.on = j := by simpa using hj
        exact this ▸ hL
      · exact hacc _ _ hL hj
    · exact hs j hj

theorem befs_spec {l0 : List Oper} (L : Nat → Prop) (hc : Closed l0 L) : ∀ (l : List Oper) (acc : List Nat), (∀ j, l[j]? = l0[acc.length + j]?) → (∀ i j, L i → (acc.getD i 0).testBit j = true → L j) →
    ∀ i j, L i → ((befs l acc).getD i 0).testBit j = true → L j
  | [], acc, _, hacc, i, j, hi, h => hacc i j hi h
  | o :: l, acc, hl, hacc, i, j, hi, h => by
    simp only [befs] at h
    refine befs_spec L hc l (acc ++ [mask o acc]) (fun j => ?_) ?_ i j hi h
    · have := hl (j + 1)
      simp only [List.getElem?_cons_succ] at this
      rw [this]
      congr 1
      simp
      omega
    · intro i j hi h
      by_cases hlt : i < acc.length
      · refine hacc i j hi ?_
        simpa [List.getD, List.getElem?_append, hlt] using h
      · by_cases he : i = acc.length
        · subst he
          have ho : l0[acc.length]? = some o := by have := hl 0; simpa using this.symm
          have h' : (mask o acc).testBit j = true := by simpa [List.getD, List.getElem?_append] using h
          exact foldl_mask L acc hacc _ 0 (fun e he hb => hc _ o ho hi e he hb) (fun j hj => by simp at hj) j h'
        · have : (acc ++ [mask o acc]).getD i 0 = 0 := by
            simp [List.getD, List.getElem?_append, hlt]
            rw [List.getElem?_eq_none (by simp; omega)]
            rfl
          rw [this] at h
          simp at h

section
variable {P : Program} {n : Nat} {Q : Post} {l : List Oper} {p : Nat}

theorem wanted_iff {a : Act} {f : Fr} (ha : Agree n a f) (o : Oper) : Region.wanted o (yielded l.toArray a.tmps) = wantedF l o f := by
  unfold Region.wanted wantedF
  cases hg : o.guard with
  | none => rfl
  | some gb =>
    obtain ⟨j, b⟩ := gb
    unfold yielded dstOf
    simp only [List.getElem?_toArray]
    cases ht : (l[j]?).bind (·.dst) with
    | none => rfl
    | some t =>
      have hg := ha.get t
      simp only [Option.bind_some]
      cases hx : a.tmps[t]? with
      | none =>
        rw [Array.getD_eq_getD_getElem?, hx] at hg
        simp only [Option.getD_none] at hg
        rw [← hg]; rfl
      | some x =>
        rw [Array.getD_eq_getD_getElem?, hx] at hg
        simp only [Option.getD_some] at hg
        rw [← hg]
        cases x <;> rfl

theorem mem_ready' {listed : Array Bool} {i : Nat} (h : i ∈ Region.ready .any l.toArray listed) :
    i < l.length ∧ listed.getD i true = false ∧ ∃ o, l[i]? = some o ∧ ∀ e ∈ o.after.toList, Region.binds .any e = true → listed.getD e.on false = true := by
  unfold Region.ready at h
  rw [List.mem_filter] at h
  obtain ⟨h1, h2⟩ := h
  simp only [List.getElem?_toArray, Bool.and_eq_true, Bool.not_eq_true'] at h2
  refine ⟨by simpa using h1, h2.1, ?_⟩
  cases ho : l[i]? with
  | none => simp [ho] at h2
  | some o =>
    refine ⟨o, rfl, fun e he hb => ?_⟩
    have h3 := h2.2
    simp only [ho, Option.map_some, Option.getD_some] at h3
    rw [← Array.all_toList, List.all_eq_true] at h3
    have := h3 e he
    simpa [hb] using this

theorem ready_of {listed : Array Bool} {i : Nat} {o : Oper} (ho : l[i]? = some o) (hu : listed.getD i true = false) (hd : ∀ e ∈ o.after.toList, Region.binds .any e = true → listed.getD e.on false = true) :
    i ∈ Region.ready .any l.toArray listed := by
  unfold Region.ready
  rw [List.mem_filter]
  refine ⟨by simpa using (List.getElem?_eq_some_iff.1 ho).1, ?_⟩
  simp only [List.getElem?_toArray, ho, Option.map_some, Option.getD_some, Bool.and_eq_true, Bool.not_eq_true']
  refine ⟨hu, ?_⟩
  rw [← Array.all_toList, List.all_eq_true]
  intro e he
  cases hb : Region.binds .any e with
  | false => simp
  | true => simpa [hb] using hd e he hb

/-- The tail, in order. -/
theorem tail_any (hE : edgesOk l = true) (hT : tailOk l p = true) : ∀ (c m : Nat) (listed : Array Bool) (a : Act) (w : World), p ≤ m → m + c = l.length → listed.size = l.length → (∀ i, i < l.length → listed.getD i true = decide (i < m)) →
    wpList P l.toArray (lift n Q) (l.drop m) a w → wpAny P .any l.toArray (lift n Q) c listed a w := by
  intro c
  induction c with
  | zero =>
    intro m listed a w hp hm hs hl h
    have : l.drop m = [] := List.drop_eq_nil_of_le (by omega)
    rw [this] at h
    refine ⟨?_, h⟩
    rw [List.eq_nil_iff_forall_not_mem]
    intro i hi
    obtain ⟨h1, h2, _⟩ := mem_ready' hi
    rw [hl i h1] at h2
    simp at h2
    omega
  | succ c ih =>
    intro m listed a w hp hm hs hl h
    have hmlt : m < l.length := by omega
    have hom : l[m]? = some l[m] := List.getElem?_eq_getElem hmlt
    have hdrop : l.drop m = l[m] :: l.drop (m + 1) := List.drop_eq_getElem_cons hmlt
    have hrm : m ∈ Region.ready .any l.toArray listed := by
      refine ready_of hom (by rw [hl m hmlt]; simp) fun e he hb => ?_
      have hz := List.all_eq_true.1 hE (l[m], m) (by rw [List.mem_zipIdx_iff_getElem?]; simpa using hom)
      have h3 := List.all_eq_true.1 hz e he
      have hlt : e.on < m := by simpa [hb] using h3
      have h4 := hl e.on (by omega)
      rw [Array.getD_eq_getD_getElem?] at h4 ⊢
      rw [Array.getElem?_eq_getElem (by omega)] at h4 ⊢
      simp only [Option.getD_some] at h4 ⊢
      rw [h4]; simpa using hlt
    refine ⟨fun h0 => (by rw [h0] at hrm; cases hrm), fun i hi => ?_⟩
    obtain ⟨h1, h2, o, ho, hd⟩ := mem_ready' hi
    have him : i = m := by
      rw [hl i h1] at h2
      have hge : ¬ i < m := by simpa using h2
      rcases Nat.lt_or_ge m i with hlt | hge2
      · -- m is ahead of i, and is not listed
        have hb := List.all_eq_true.1 hT i (by simpa using h1)
        have hb' : (List.range i).all (fun j => ((befs l []).getD i 0).testBit j) = true := by
          have : ¬ i < p := by omega
          simpa [this] using hb
        have hbit := List.all_eq_true.1 hb' m (by simpa using hlt)
        let L : Nat → Prop := fun k => k = i ∨ listed.getD k false = true
        have hL : Closed l L := by
          intro k o' ho' hk e he hbnd
          rcases hk with rfl | hk
          · rw [ho] at ho'; cases ho'; exact .inr (hd e he hbnd)
          · have hk1 : k < l.length := (List.getElem?_eq_some_iff.1 ho').1
            have hkm := hl k hk1
            rw [Array.getD_eq_getD_getElem?] at hk hkm
            rw [Array.getElem?_eq_getElem (by omega)] at hk hkm
            simp only [Option.getD_some] at hk hkm
            have hkm' : k < m := by rw [hk] at hkm; simpa using hkm.symm
            have hz := List.all_eq_true.1 hE (o', k) (by rw [List.mem_zipIdx_iff_getElem?]; simpa using ho')
            have h3 := List.all_eq_true.1 hz e he
            have hlt' : e.on < k := by simpa [hbnd] using h3
            right
            have h4 := hl e.on (by omega)
            rw [Array.getD_eq_getD_getElem?] at h4 ⊢
            rw [Array.getElem?_eq_getElem (by omega)] at h4 ⊢
            simp only [Option.getD_some] at h4 ⊢
            rw [h4]; simp; omega
        have hm2 := befs_spec L hL l [] (by simp) (by simp) i m (.inl rfl) hbit
        rcases hm2 with h5 | h5
        · omega
        · have hkm := hl m hmlt
          rw [Array.getD_eq_getD_getElem?] at h5 hkm
          rw [Array.getElem?_eq_getElem (by omega)] at h5 hkm
          simp only [Option.getD_some] at h5 hkm
          rw [h5] at hkm
          simp at hkm
      · omega
    subst him
    unfold wpOp
    simp only [List.getElem?_toArray, hom]
    rw [hdrop] at h
    unfold wpList at h
    have hnext : ∀ a w, wpList P l.toArray (lift n Q) (l.drop (i + 1)) a w → wpAny P .any l.toArray (lift n Q) c (listed.setIfInBounds i true) a w := fun a w h' =>
      ih (i + 1) _ a w (by omega) (by omega) (by simpa using hs) (fun k hk => by
        rw [Array.getD_eq_getD_getElem?, Array.getElem?_setIfInBounds]
        split
        · rename_i e; subst e; rw [if_pos (by omega)]; simp
        · rename_i e
          have := hl k hk
          rw [Array.getD_eq_getD_getElem?] at this
          rw [this]
          congr 1
          simp; omega) h'
    split
    · rename_i hw
      rw [if_pos hw] at h
      exact h.imp (Oper.wp_mono hnext) id
    · rename_i hw
      rw [if_neg hw] at h
      exact hnext _ _ h

theorem parOps_get {f : Fr} {w : World} {phis : List (Value → World → Prop)} : ∀ (os : List Oper) (fs : List (Value → World → Prop)), ParOps P l p f w phis os fs → os.length = fs.length ∧ ∀ (i : Nat) (o : Oper) (φ : Value → World → Prop), os[i]? = some o → fs[i]? = some φ → ObOp P l p f w phis o φ
  | [], [], _ => ⟨rfl, fun i o φ h => by simp at h⟩
  | o :: os, φ :: fs, h => by
    obtain ⟨h1, h2⟩ := parOps_get os fs h.2
    refine ⟨by simp [h1], fun i o' φ' ho hφ => ?_⟩
    cases i with
    | zero => simp at ho hφ; subst ho; subst hφ; exact h.1
    | succ i => exact h2 i o' φ' (by simpa using ho) (by simpa using hφ)
  | [], _ :: _, h => h.elim
  | _ :: _, [], h => h.elim

theorem upd_same (f : Fr) (d : Nat) (v : Value) : upd f d v d = v := by
  have : Nat.beq d d = true := Nat.beq_refl d
  simp [upd, this]
theorem upd_ne (f : Fr) {d t : Nat} (v : Value) (h : t ≠ d) : upd f d v t = f t := by
  have : Nat.beq t d = false := by
    cases hx : Nat.beq t d
    · rfl
    · exact absurd (Nat.eq_of_beq_eq_true hx) h
  simp [upd, this]

theorem wpAny_more {Q' : Exit → Act → World → Prop} {ops : Array Oper} {md : Region.Mode} : ∀ (c c' : Nat) {listed : Array Bool} {a : Act} {w : World}, c ≤ c' → wpAny P md ops Q' c listed a w → wpAny P md ops Q' c' listed a w
  | 0, 0, _, _, _, _, h => h
  | 0, c' + 1, _, _, _, _, h => ⟨fun _ => h.2, fun i hi => by rw [h.1] at hi; cases hi⟩
  | c + 1, 0, _, _, _, hle, _ => by omega
  | c + 1, c' + 1, _, _, _, hle, h => ⟨h.1, fun i hi => wpOp_mono (fun _ _ hk => wpAny_more c c' (by omega) hk) (h.2 i hi)⟩

theorem getD_listed {listed : Array Bool} {i : Nat} (hi : i < listed.size) (b : Bool) : listed.getD i b = listed[i] := by
  rw [Array.getD_eq_getD_getElem?, Array.getElem?_eq_getElem hi, Option.getD_some]

/-- A region that draws: what its first p operations yield, in whatever order; the rest in order. -/
theorem W.draw {id : Nat} {f : Fr} {w : World} (hm : P.follows .mixedOrders = true) (p : Nat) (phis : List (Value → World → Prop)) (hok : parOk l p = true)
    (hn : (l.take p).all (fun o => match o.dst with | some d => Nat.blt d n | none => false) = true)
    (hst : ∀ (i : Nat) φ, phis[i]? = some φ → Stable φ) (hops : ParOps P l p f w phis (l.take p) phis)
    (hend : ∀ f' w', Ext w w' → (∀ t, isDst l p t = false → f' t = f t) → (∀ (j : Nat) d φj, j < p → dstOf l j = some d → phis[j]? = some φj → φj (f' d) w') → WL P n l.toArray Q (l.drop p) f' w') :
    W P n (.region id l.toArray true) Q f w := fun a ha => by
  simp only [parOk, Bool.and_eq_true, decide_eq_true_eq] at hok
  obtain ⟨⟨⟨⟨hS, hE⟩, hG⟩, hT⟩, hp⟩ := hok
  obtain ⟨hlen, hget⟩ := parOps_get _ _ hops
  have hlp : phis.length = p := by rw [← hlen]; simp; omega
  refine wp_region_any hm ?_
  have key : ∀ (fuel : Nat) (listed : Array Bool) (a : Act) (f' : Fr) (w' : World), listed.size = l.length → listed.toList.count false ≤ fuel → (∀ i, p ≤ i → i < l.length → listed.getD i true = false) →
      Closed l (fun k => listed.getD k false = true) → Agree n a f' → Ext w w' →
      (∀ t, isDst l p t = false → f' t = f t) → (∀ (j : Nat) d φj, j < p → listed.getD j false = true → dstOf l j = some d → phis[j]? = some φj → φj (f' d) w') →
      wpAny P .any l.toArray (lift n Q) fuel listed a w' := by
    intro fuel
    induction fuel with
    | zero =>
      intro listed a f' w' hs hc htl hcl ha he hout hphi
      -- all are listed
      have hall : ∀ i, (hi : i < listed.size) → listed[i] = true := by
        intro i hi
        cases hx : listed[i] with
        | true => rfl
        | false =>
          exfalso
          have : false ∈ listed.toList := by rw [← hx]; simp
          have := List.count_pos_iff.2 this
          omega
      have hpl : p = l.length := by
        rcases Nat.lt_or_ge p l.length with h | h
        · have := htl p (Nat.le_refl _) h; rw [getD_listed (by omega), hall p (by omega)] at this; cases this
        · omega
      have hEnd := hend f' w' he hout (fun j d φj hj hd hφ => hphi j d φj hj (by rw [getD_listed (by omega), hall j (by omega)]) hd hφ) a ha
      exact tail_any hE hT 0 p listed a w' (Nat.le_refl _) (by omega) hs (fun i hi => by rw [getD_listed (by omega), hall i (by omega)]; simp; omega) hEnd
    | succ fuel ih =>
      intro listed a f' w' hs hc htl hcl ha he hout hphi
      by_cases hpre : ∀ j, j < p → listed.getD j false = true
      · -- the first part is done
        have hEnd := hend f' w' he hout (fun j d φj hj hd hφ => hphi j d φj hj (hpre j hj) hd hφ) a ha
        have hcnt : l.length - p ≤ fuel + 1 := by
          have h1 : (listed.toList.drop p).count false = l.length - p := by
            have h2 : ∀ b ∈ listed.toList.drop p, false = b := by
              intro b hb
              obtain ⟨i, hi, hbi⟩ := List.getElem_of_mem hb
              simp at hi hbi
              have := htl (p + i) (by omega) (by omega)
              rw [getD_listed (by omega)] at this
              rw [← hbi, this]
            rw [List.count_eq_length.2 h2]
            simp [hs]
          have h4 : listed.toList.count false = (listed.toList.take p).count false + (listed.toList.drop p).count false := by
            rw [← List.count_append, List.take_append_drop]
          omega
        have htail := tail_any hE hT (l.length - p) p listed a w' (Nat.le_refl _) (by omega) hs (fun i hi => by
          rcases Nat.lt_or_ge i p with h | h
          · have := hpre i h
            rw [getD_listed (by omega)] at this ⊢
            rw [this]; simp [h]
          · rw [htl i h hi]; simp; omega) hEnd
        exact wpAny_more _ _ hcnt htail
      · -- some operation of the first part is still to come
        have hex : ∃ j, j < p ∧ listed.getD j false = false := by
          rcases Classical.em (∃ j, j < p ∧ listed.getD j false = false) with h | h
          · exact h
          · exfalso
            exact hpre fun j hj => by
              cases hx : listed.getD j false with
              | true => rfl
              | false => exact absurd ⟨j, hj, hx⟩ h
        obtain ⟨j0, ⟨hj0, hj0f⟩, hmin⟩ := exists_least hex
        have hready0 : j0 ∈ Region.ready .any l.toArray listed := by
          have hlt : j0 < l.length := by omega
          refine ready_of (List.getElem?_eq_getElem hlt) ?_ fun e he' hb => ?_
          · rw [getD_listed (by omega)] at hj0f ⊢; exact hj0f
          · have hz := List.all_eq_true.1 hE (l[j0], j0) (by rw [List.mem_zipIdx_iff_getElem?]; simp)
            have h3 := List.all_eq_true.1 hz e he'
            have hlt' : e.on < j0 := by simpa [hb] using h3
            cases hx : listed.getD e.on false with
            | true => rfl
            | false => have := hmin e.on ⟨by omega, hx⟩; omega
        refine ⟨fun h0 => (by rw [h0] at hready0; cases hready0), fun i hi => ?_⟩
        obtain ⟨h1, h2, o, ho, hd⟩ := mem_ready' hi
        have hL : Closed l (fun k => k = i ∨ listed.getD k false = true) := by
          intro k o' ho' hk e he' hbnd
          rcases hk with rfl | hk
          · rw [ho] at ho'; cases ho'; exact .inr (hd e he' hbnd)
          · exact .inr (hcl k o' ho' hk e he' hbnd)
        have hip : i < p := by
          rcases Nat.lt_or_ge i p with h | h
          · exact h
          · exfalso
            have hb := List.all_eq_true.1 hT i (by simpa using h1)
            have hb' : (List.range i).all (fun j => ((befs l []).getD i 0).testBit j) = true := by
              have : ¬ i < p := by omega
              simpa [this] using hb
            have hbit := List.all_eq_true.1 hb' j0 (by simp; omega)
            have := befs_spec _ hL l [] (by simp) (by simp) i j0 (.inl rfl) hbit
            rcases this with h5 | h5
            · omega
            · rw [hj0f] at h5; cases h5
        -- the operation's own slot
        have hSi := List.all_eq_true.1 hS i (by simpa using hip)
        simp only [ho, Bool.and_eq_true] at hSi
        obtain ⟨hsome, hSj⟩ := hSi
        obtain ⟨d, hdst⟩ := Option.isSome_iff_exists.1 hsome
        have hdo : dstOf l i = some d := by simp [dstOf, ho, hdst]
        have hdn : Nat.blt d n = true := by
          have := List.all_eq_true.1 hn o (by rw [List.mem_take_iff_getElem]; exact ⟨i, by omega, by rw [List.getElem?_eq_getElem h1] at ho; cases ho; rfl⟩)
          simpa [hdst] using this
        have hisd : isDst l p d = true := by
          unfold isDst
          rw [List.any_eq_true]
          refine ⟨o, by rw [List.mem_take_iff_getElem]; exact ⟨i, by omega, by rw [List.getElem?_eq_getElem h1] at ho; cases ho; rfl⟩, ?_⟩
          simp [hdst, Nat.beq_refl]
        obtain ⟨φ, hφ⟩ : ∃ φ, phis[i]? = some φ := ⟨_, List.getElem?_eq_getElem (by omega)⟩
        have hob := hget i o φ (by rw [List.getElem?_take, if_pos hip]; exact ho) hφ
        have hY := hob f' w' he hout (fun j dj φj hdep hdj hφj => by
          have hjon : listed.getD j false = true := by
            unfold depB at hdep
            rw [List.any_eq_true] at hdep
            obtain ⟨e, he', hh⟩ := hdep
            rw [Bool.and_eq_true] at hh
            have : e.on = j := Nat.eq_of_beq_eq_true hh.1
            exact this ▸ hd e he' hh.2
          have hjp : j < p := by
            rcases Nat.lt_or_ge j p with h | h
            · exact h
            · have : phis[j]? = none := List.getElem?_eq_none (by omega)
              rw [this] at hφj; cases hφj
          exact hphi j dj φj hjp hjon hdj hφj)
        -- the next state
        have hcount : (listed.setIfInBounds i true).toList.count false ≤ fuel := by
          have hi' : i < listed.toList.length := by simpa [hs] using h1
          have hli : listed.toList[i] = false := by
            have := h2
            rw [getD_listed (by omega)] at this
            simpa using this
          rw [Array.toList_setIfInBounds, List.count_set hi', hli]
          simp
          have : 0 < listed.toList.count false := List.count_pos_iff.2 (by rw [← hli]; exact List.getElem_mem hi')
          simp only [Array.count_toList] at this hc
          omega
        have hnext : ∀ v w'', Ext w' w'' → φ v w'' → wpAny P .any l.toArray (lift n Q) fuel (listed.setIfInBounds i true) (a.put o.dst v) w'' := by
          intro v w'' he' hv
          rw [hdst]
          refine ih (listed.setIfInBounds i true) _ (upd f' d v) w'' (by simpa using hs) hcount ?_ ?_ (ha.put d v hdn) (he.trans he') ?_ ?_
          · intro k hk hkl
            rw [Array.getD_eq_getD_getElem?, Array.getElem?_setIfInBounds, if_neg (by omega), ← Array.getD_eq_getD_getElem?]
            exact htl k hk hkl
          · intro k o' ho' hk e he'' hbnd
            have hk' : k = i ∨ listed.getD k false = true := by
              rw [Array.getD_eq_getD_getElem?, Array.getElem?_setIfInBounds] at hk
              split at hk
              · rename_i e; exact .inl e.symm
              · rw [← Array.getD_eq_getD_getElem?] at hk; exact .inr hk
            have := hL k o' ho' hk' e he'' hbnd
            rw [Array.getD_eq_getD_getElem?, Array.getElem?_setIfInBounds]
            rcases this with h5 | h5
            · rw [if_pos h5.symm, if_pos (by omega)]; rfl
            · split
              · rw [if_pos (by omega)]; rfl
              · rw [← Array.getD_eq_getD_getElem?]; exact h5
          · intro t ht
            have : t ≠ d := fun e => by rw [e, hisd] at ht; cases ht
            rw [upd_ne f' v this]; exact hout t ht
          · intro j dj φj hj hjl hdj hφj
            by_cases hji : j = i
            · subst hji
              rw [hdo] at hdj; cases hdj
              rw [hφ] at hφj; cases hφj
              rw [upd_same]; exact hv
            · have hdd : dj ≠ d := by
                have h5 := List.all_eq_true.1 hSj j (by simpa using hj)
                simp only [hdj, Bool.and_eq_true] at h5
                have h6 := h5.2
                have hij : ¬ i = j := fun e => hji e.symm
                simp only [hij, if_false, hdst, bne_iff_ne, ne_eq, Option.some.injEq] at h6
                exact fun e => h6 e.symm
              rw [upd_ne f' v hdd]
              refine hst j φj hφj _ _ _ he' (hphi j dj φj hj ?_ hdj hφj)
              rw [Array.getD_eq_getD_getElem?, Array.getElem?_setIfInBounds, if_neg (fun e => hji e.symm), ← Array.getD_eq_getD_getElem?] at hjl
              exact hjl
        unfold wpOp
        simp only [List.getElem?_toArray, ho, wanted_iff ha]
        rcases hY with ⟨hw, hv | hc'⟩ | ⟨hw, hv⟩
        · obtain ⟨v, w'', h3, h4, h5⟩ := hv
          rw [if_pos hw]
          left
          show Oper.upon P o a _ _ ((execOp a.eval o).run P w')
          have h6 := h3 o.dst o.pos o.after o.guard
          rw [ha.eval]
          rw [h6]
          exact hnext v w'' h4 h5
        · obtain ⟨g, args, h3, h4⟩ := hc'
          rw [if_pos hw]
          left
          show Oper.upon P o a _ _ ((execOp a.eval o).run P w')
          have h6 := h3 o.dst o.pos o.after o.guard
          rw [ha.eval]
          rw [h6]
          refine Calls.mono h4 fun e w'' hh => ?_
          obtain ⟨v, rfl, h7, h8⟩ := hh
          exact hnext v w'' h7 h8
        · rw [if_neg (by rw [hw]; simp)]
          exact hnext undef w' (Ext.refl _) hv
  refine key _ _ a f { w with drawn := w.drawn + 1 } (by simp) ?_ ?_ ?_ ha ⟨rfl, rfl, rfl, Nat.le_refl _, fun _ _ => rfl⟩ (fun _ _ => rfl) ?_
  · have := List.count_le_length (a := false) (l := (Array.replicate l.toArray.size false).toList)
    simpa using this
  · intro i _ hi
    rw [getD_listed (by simpa using hi)]; simp
  · intro k o _ hk
    exfalso
    rw [Array.getD_eq_getD_getElem?, Array.getElem?_replicate] at hk
    split at hk <;> simp at hk
  · intro j d φj hj hk
    exfalso
    rw [Array.getD_eq_getD_getElem?, Array.getElem?_replicate] at hk
    split at hk <;> simp at hk
end
end Go.VG
