/- Regions that draw their order: the operations' values told one by one, each with the blocks that it made, whatever the order; operations that touch no memory as soon as they may come; then a tail in order. No condition. -/
import Derived.Test.YtjjjljlobfpbnaaVgPar
set_option linter.all false
namespace Go.VG
open Go.RowKit (Below)

abbrev Phi := Fr → Value → (Nat → Prop) → World → Prop
/-- Operation i waits for j, at once or by others. -/
def depT (l : List Oper) (i j : Nat) : Bool := ((befs l []).getD i 0).testBit j
def PhiOk (l : List Oper) (i : Nat) (φ : Phi) : Prop :=
  (∀ f v S w w', Ext w w' → φ f v S w → φ f v S w') ∧ (∀ f f' v S w, (∀ j d, depT l i j = true → dstOf l j = some d → f d = f' d) → φ f v S w → φ f' v S w)
theorem pk {l : List Oper} {i : Nat} {A : Value → Prop} : PhiOk l i (fun _ v _ _ => A v) := ⟨fun _ _ _ _ _ _ h => h, fun _ _ _ _ _ _ h => h⟩
def NewS (w w' : World) (S : Nat → Prop) : Prop := ∀ b, S b → w.heap.size ≤ b ∧ b < w'.heap.size
def noB : Nat → Prop := fun _ => False
theorem noS (w w' : World) : NewS w w' noB := fun _ h => h.elim
def newB (w w' : World) : Nat → Prop := fun b => w.heap.size ≤ b ∧ b < w'.heap.size
theorem newS (w w' : World) : NewS w w' (newB w w') := fun _ h => h

def OpX (P : Program) (l : List Oper) (o : Oper) (f : Fr) (w : World) (φ : Phi) : Prop :=
  (wantedF l o f = true ∧ ((∃ v w', OpV P o.op o.type f w v w' ∧ Ext w w' ∧ ∃ S, NewS w w' S ∧ φ f v S w') ∨ (∃ g args, OpC P o.op o.type f w g args ∧ Ret P g args w fun v w' => Ext w w' ∧ ∃ S, NewS w w' S ∧ φ f v S w'))) ∨
  (wantedF l o f = false ∧ φ f undef noB w)
/-- What is asked of an operation that is taken as soon as it may come. -/
def OpF (P : Program) (o : Oper) (f : Fr) (w : World) (φ : Phi) : Prop := o.guard = none ∧ ∃ v, (∀ w', OpV P o.op o.type f w' v w') ∧ φ f v noB w

section
variable {P : Program} {l : List Oper} {o : Oper} {f : Fr} {w : World} {φ : Phi}
theorem OpX.val (v : Value) (w' : World) (hg : wantedF l o f = true) (h : OpV P o.op o.type f w v w') (he : Ext w w') (hφ : φ f v noB w') : OpX P l o f w φ := .inl ⟨hg, .inl ⟨v, w', h, he, _, noS _ _, hφ⟩⟩
theorem OpX.valO (v : Value) (w' : World) (hg : wantedF l o f = true) (h : OpV P o.op o.type f w v w') (he : Ext w w') (hφ : φ f v (newB w w') w') : OpX P l o f w φ := .inl ⟨hg, .inl ⟨v, w', h, he, _, newS _ _, hφ⟩⟩
theorem OpX.call {g : FuncId} {args : Array Value} (hg : wantedF l o f = true) (h : OpC P o.op o.type f w g args) (hr : Ret P g args w fun v w' => Ext w w' ∧ ∃ S, NewS w w' S ∧ φ f v S w') : OpX P l o f w φ := .inl ⟨hg, .inr ⟨g, args, h, hr⟩⟩
theorem OpX.skip (hg : wantedF l o f = false) (h : φ f undef noB w) : OpX P l o f w φ := .inr ⟨hg, h⟩
end

def inF (fl : List Nat) (i : Nat) : Bool := fl.any (Nat.beq i)

def ObX (P : Program) (l : List Oper) (p : Nat) (fl : List Nat) (f : Fr) (w : World) (phis : List Phi) (i : Nat) (o : Oper) (φ : Phi) : Prop :=
  ∀ f' w', Ext w w' → (∀ t, isDst l p t = false → f' t = f t) → (∀ j d φj, depT l i j = true → dstOf l j = some d → phis[j]? = some φj → ∃ S, NewS w w' S ∧ φj f' (f' d) S w') →
    bif inF fl i then OpF P o f' w' φ else OpX P l o f' w' φ
theorem ObX.op {P : Program} {l : List Oper} {p : Nat} {fl : List Nat} {f : Fr} {w : World} {phis : List Phi} {i : Nat} {o : Oper} {φ : Phi} (hi : inF fl i = false)
    (h : ∀ f' w', Ext w w' → (∀ t, isDst l p t = false → f' t = f t) → (∀ j d φj, depT l i j = true → dstOf l j = some d → phis[j]? = some φj → ∃ S, NewS w w' S ∧ φj f' (f' d) S w') → OpX P l o f' w' φ) : ObX P l p fl f w phis i o φ :=
  fun f' w' h1 h2 h3 => by rw [hi]; exact h f' w' h1 h2 h3
theorem ObX.fl {P : Program} {l : List Oper} {p : Nat} {fl : List Nat} {f : Fr} {w : World} {phis : List Phi} {i : Nat} {o : Oper} {φ : Phi} (hi : inF fl i = true)
    (h : ∀ f' w', Ext w w' → (∀ t, isDst l p t = false → f' t = f t) → (∀ j d φj, depT l i j = true → dstOf l j = some d → phis[j]? = some φj → ∃ S, NewS w w' S ∧ φj f' (f' d) S w') → OpF P o f' w' φ) : ObX P l p fl f w phis i o φ :=
  fun f' w' h1 h2 h3 => by rw [hi]; exact h f' w' h1 h2 h3
def ParX (P : Program) (l : List Oper) (p : Nat) (fl : List Nat) (f : Fr) (w : World) (phis : List Phi) : Nat → List Oper → List Phi → Prop
  | _, [], [] => True
  | i, o :: os, φ :: fs => ObX P l p fl f w phis i o φ ∧ ParX P l p fl f w phis (i + 1) os fs
  | _, _, _ => False
def OkX (l : List Oper) : Nat → List Oper → List Phi → Prop
  | _, [], [] => True
  | i, _ :: os, φ :: fs => PhiOk l i φ ∧ OkX l (i + 1) os fs
  | _, _, _ => False
theorem parX_get {P : Program} {l : List Oper} {p : Nat} {fl : List Nat} {f : Fr} {w : World} {phis : List Phi} : ∀ (k : Nat) (os : List Oper) (fs : List Phi), ParX P l p fl f w phis k os fs → os.length = fs.length ∧ ∀ (i : Nat) (o : Oper) (φ : Phi), os[i]? = some o → fs[i]? = some φ → ObX P l p fl f w phis (k + i) o φ
  | k, [], [], _ => ⟨rfl, fun i o φ h => by simp at h⟩
  | k, o :: os, φ :: fs, h => by
    obtain ⟨h1, h2⟩ := parX_get (k + 1) os fs h.2
    refine ⟨by simp [h1], fun i o' φ' ho hφ => ?_⟩
    cases i with
    | zero => simp at ho hφ; subst ho; subst hφ; exact h.1
    | succ i => have := h2 i o' φ' (by simpa using ho) (by simpa using hφ); rwa [show k + 1 + i = k + (i + 1) from by omega] at this
  | k, [], _ :: _, h => h.elim
  | k, _ :: _, [], h => h.elim
theorem okX_get {l : List Oper} : ∀ (k : Nat) (os : List Oper) (fs : List Phi), OkX l k os fs → ∀ (i : Nat) (o : Oper) (φ : Phi), os[i]? = some o → fs[i]? = some φ → PhiOk l (k + i) φ
  | k, [], [], _, i, o, φ, h, _ => by simp at h
  | k, o :: os, φ :: fs, h, i, o', φ', ho, hφ => by
    cases i with
    | zero => simp at ho hφ; subst ho; subst hφ; exact h.1
    | succ i => have := okX_get (k + 1) os fs h.2 i o' φ' (by simpa using ho) (by simpa using hφ); rwa [show k + 1 + i = k + (i + 1) from by omega] at this
  | k, [], _ :: _, h, _, _, _, _, _ => h.elim
  | k, _ :: _, [], h, _, _, _, _, _ => h.elim

/-! ### What is looked up in the region's text -/

/-- The operations that come before i: those that it waits for, and the floating ones all of whose own are among them. -/
def eager (fl : List Nat) (b : List Nat) : List Nat → Nat → Nat
  | [], m => m
  | j :: js, m => eager fl b js (if inF fl j && ((b.getD j 0) &&& m == b.getD j 0) then m ||| 2 ^ j else m)
def tailOkE (l : List Oper) (fl : List Nat) (p : Nat) : Bool :=
  let b := befs l []
  (List.range l.length).all fun i => decide (i < p) || ((List.range i).all fun j => (eager fl b (List.range i) (b.getD i 0)).testBit j && (decide (j < p) || (b.getD i 0).testBit j))
def floatOk (l : List Oper) (fl : List Nat) (p : Nat) : Bool :=
  fl.all fun i => decide (i < p) && match l[i]? with
    | none => false
    | some oi => (List.range l.length).all fun j => Nat.beq j i || depB oi j || match l[j]? with
      | some oj => depB oj i || oi.apart l.toArray oj
      | none => true
def parOkE (l : List Oper) (p : Nat) (fl : List Nat) : Bool :=
  slotsOk l p && edgesOk l && guardsOk l p && tailOkE l fl p && decide (p ≤ l.length) && floatOk l fl p && Region.noSelect l.toArray

theorem mask_has {o : Oper} {acc : List Nat} {e : Edge} (he : e ∈ o.after.toList) (hb : Region.binds .any e = true) : (mask o acc).testBit e.on = true := by
  unfold mask
  have key : ∀ (es : List Edge) (s : Nat), (s.testBit e.on = true ∨ e ∈ es) → (es.foldl (fun s e => if Region.binds .any e then s ||| 2 ^ e.on ||| acc.getD e.on 0 else s) s).testBit e.on = true := by
    intro es
    induction es with
    | nil => intro s h; rcases h with h | h
             · exact h
             · cases h
    | cons x es ih =>
      intro s h
      simp only [List.foldl_cons]
      refine ih _ ?_
      rcases h with h | h
      · left
        split
        · rw [Nat.testBit_or, Nat.testBit_or, h]; simp
        · exact h
      · rcases List.mem_cons.1 h with rfl | h
        · left
          rw [if_pos hb, Nat.testBit_or, Nat.testBit_or, Nat.testBit_two_pow]
          simp
        · exact .inr h
  exact key _ 0 (.inr he)
theorem befs_old : ∀ (l : List Oper) (acc : List Nat) (i : Nat), i < acc.length → (befs l acc).getD i 0 = acc.getD i 0
  | [], acc, i, h => rfl
  | o :: l, acc, i, h => by
    simp only [befs]
    rw [befs_old l _ i (by simp; omega)]
    simp [List.getD, List.getElem?_append, h]
theorem befs_new : ∀ (l : List Oper) (acc : List Nat) (j : Nat) (o : Oper), l[j]? = some o → ∃ acc', (befs l acc).getD (acc.length + j) 0 = mask o acc'
  | [], acc, j, o, h => by simp at h
  | o0 :: l, acc, 0, o, h => by
    simp at h; subst h
    refine ⟨acc, ?_⟩
    simp only [befs, Nat.add_zero]
    rw [befs_old l _ _ (by simp)]
    simp [List.getD, List.getElem?_append]
  | o0 :: l, acc, j + 1, o, h => by
    obtain ⟨a, ha⟩ := befs_new l (acc ++ [mask o0 acc]) j o (by simpa using h)
    refine ⟨a, ?_⟩
    simp only [befs]
    rw [← ha]
    congr 1
    simp; omega
theorem befs_has {l : List Oper} {j : Nat} {o : Oper} {e : Edge} (ho : l[j]? = some o) (he : e ∈ o.after.toList) (hb : Region.binds .any e = true) : ((befs l []).getD j 0).testBit e.on = true := by
  obtain ⟨a, ha⟩ := befs_new l [] j o ho
  simp only [List.length_nil, Nat.zero_add] at ha
  rw [ha]; exact mask_has he hb

theorem befs_mask : ∀ (l : List Oper) (acc : List Nat) (l0 : List Oper), (∀ j, l[j]? = l0[acc.length + j]?) → edgesOk l0 = true → (∀ i j, i < acc.length → (acc.getD i 0).testBit j = true → j < i) →
    ∀ i j, ((befs l acc).getD i 0).testBit j = true → j < i
  | [], acc, l0, _, _, hacc, i, j, h => by
    simp only [befs] at h
    rcases Nat.lt_or_ge i acc.length with hi | hi
    · exact hacc i j hi h
    · rw [List.getD, List.getElem?_eq_none hi] at h; simp at h
  | o :: l, acc, l0, hl, hE, hacc, i, j, h => by
    simp only [befs] at h
    refine befs_mask l (acc ++ [mask o acc]) l0 (fun k => ?_) hE (fun i j hi hb => ?_) i j h
    · have := hl (k + 1)
      simp only [List.getElem?_cons_succ] at this
      rw [this]
      congr 1
      simp; omega
    · rcases Nat.lt_or_ge i acc.length with hi' | hi'
      · refine hacc i j hi' ?_
        simpa [List.getD, List.getElem?_append, hi'] using hb
      · have hie : i = acc.length := by simp at hi; omega
        subst hie
        have hb' : (mask o acc).testBit j = true := by simpa [List.getD, List.getElem?_append] using hb
        have ho : l0[acc.length]? = some o := by have := hl 0; simpa using this.symm
        have hedge : ∀ e ∈ o.after.toList, Region.binds .any e = true → e.on < acc.length := by
          intro e he hbnd
          have hz := List.all_eq_true.1 hE (o, acc.length) (by rw [List.mem_zipIdx_iff_getElem?]; simpa using ho)
          have h3 := List.all_eq_true.1 hz e he
          simpa [hbnd] using h3
        refine foldl_mask (fun k => k < acc.length) acc (fun i j hi hb => ?_) o.after.toList 0 hedge (fun j hj => by simp at hj) j hb'
        have := hacc i j hi hb; omega
theorem befs_below {l : List Oper} (hE : edgesOk l = true) (i : Nat) (j : Nat) (h : ((befs l []).getD i 0).testBit j = true) : j < i :=
  befs_mask l [] l (by simp) hE (fun i j hi => by simp at hi) i j h
theorem depB_spec {o : Oper} {j : Nat} : depB o j = true ↔ ∃ e ∈ o.after.toList, Region.binds .any e = true ∧ e.on = j := by
  unfold depB
  rw [List.any_eq_true]
  constructor
  · rintro ⟨e, he, hh⟩
    rw [Bool.and_eq_true] at hh
    exact ⟨e, he, hh.2, Nat.eq_of_beq_eq_true hh.1⟩
  · rintro ⟨e, he, hb, rfl⟩
    exact ⟨e, he, by rw [Bool.and_eq_true]; exact ⟨Nat.beq_refl _, hb⟩⟩

theorem befs_lt {l : List Oper} (hE : edgesOk l = true) {i j : Nat} {o : Oper} (ho : l[i]? = some o) (h : depT l i j = true) : j < i := befs_below hE i j h
/-- A bound on the masks: each operation's own mask covers what it waits for. -/
theorem eager_spec {fl : List Nat} {b : List Nat} (L : Nat → Prop) (hb : ∀ j, inF fl j = true → (∀ k, (b.getD j 0).testBit k = true → L k) → L j) : ∀ (js : List Nat) (m : Nat), (∀ k, m.testBit k = true → L k) → ∀ k, (eager fl b js m).testBit k = true → L k
  | [], m, hm, k, h => hm k h
  | j :: js, m, hm, k, h => by
    simp only [eager] at h
    refine eager_spec L hb js _ ?_ k h
    split
    · rename_i hc
      rw [Bool.and_eq_true] at hc
      intro k hk
      rw [Nat.testBit_or, Bool.or_eq_true] at hk
      rcases hk with hk | hk
      · exact hm k hk
      · rw [Nat.testBit_two_pow] at hk
        have : j = k := by simpa using hk
        subst this
        refine hb _ hc.1 fun i hi => hm i ?_
        have he : (b.getD j 0) &&& m = b.getD j 0 := by simpa using hc.2
        rw [← he, Nat.testBit_and, Bool.and_eq_true] at hi
        exact hi.2
    · exact hm

section
variable {P : Program} {n : Nat} {Q : Post} {l : List Oper} {p : Nat} {fl : List Nat}

theorem getD_l {listed : Array Bool} {i : Nat} (hi : i < listed.size) (b c : Bool) : listed.getD i b = listed.getD i c := by
  rw [getD_listed hi, getD_listed hi]

/-- The tail, in order. -/
theorem tailE_any (hE : edgesOk l = true) (hT : tailOkE l fl p = true) : ∀ (c m : Nat) (listed : Array Bool) (a : Act) (w : World), p ≤ m → m + c = l.length → listed.size = l.length → (∀ i, i < l.length → listed.getD i true = decide (i < m)) →
    wpList P l.toArray (lift n Q) (l.drop m) a w → wpAny P .any l.toArray (lift n Q) c listed a w := by
  intro c
  induction c with
  | zero =>
    intro m listed a w hp hm hs hl h
    have : l.drop m = [] := List.drop_eq_nil_of_le (by omega)
    rw [this] at h
    refine ⟨?_, h⟩
    rw [List.eq_nil_iff_forall_not_mem]
    intro i hi
    obtain ⟨h1, h2, _⟩ := mem_ready' hi
    rw [hl i h1] at h2
    simp at h2
    omega
  | succ c ih =>
    intro m listed a w hp hm hs hl h
    have hmlt : m < l.length := by omega
    have hom : l[m]? = some l[m] := List.getElem?_eq_getElem hmlt
    have hdrop : l.drop m = l[m] :: l.drop (m + 1) := List.drop_eq_getElem_cons hmlt
    have hrm : m ∈ Region.ready .any l.toArray listed := by
      refine ready_of hom (by rw [hl m hmlt]; simp) fun e he hb => ?_
      have hz := List.all_eq_true.1 hE (l[m], m) (by rw [List.mem_zipIdx_iff_getElem?]; simpa using hom)
      have h3 := List.all_eq_true.1 hz e he
      have hlt : e.on < m := by simpa [hb] using h3
      have h4 := hl e.on (by omega)
      rw [getD_l (by omega) false true, h4]; simpa using hlt
    refine ⟨fun h0 => (by rw [h0] at hrm; cases hrm), fun i hi => ?_⟩
    obtain ⟨h1, h2, o, ho, hd⟩ := mem_ready' hi
    have him : i = m := by
      rw [hl i h1] at h2
      have hge : ¬ i < m := by simpa using h2
      rcases Nat.lt_or_ge m i with hlt | hge2
      · have hb := List.all_eq_true.1 hT i (by simpa using h1)
        have hip : ¬ i < p := by omega
        simp only [hip, decide_false, Bool.false_or] at hb
        have hb2 := List.all_eq_true.1 hb m (by simpa using hlt)
        rw [Bool.and_eq_true] at hb2
        have hmp : ¬ m < p := by omega
        have hbit : ((befs l []).getD i 0).testBit m = true := by simpa [hmp] using hb2.2
        let L : Nat → Prop := fun k => k = i ∨ listed.getD k false = true
        have hL : Closed l L := by
          intro k o' ho' hk e he hbnd
          rcases hk with rfl | hk
          · rw [ho] at ho'; cases ho'; exact .inr (hd e he hbnd)
          · have hk1 : k < l.length := (List.getElem?_eq_some_iff.1 ho').1
            have hkm := hl k hk1
            rw [getD_l (by omega) false true, hkm] at hk
            have hkm' : k < m := by simpa using hk
            have hz := List.all_eq_true.1 hE (o', k) (by rw [List.mem_zipIdx_iff_getElem?]; simpa using ho')
            have h3 := List.all_eq_true.1 hz e he
            have hlt' : e.on < k := by simpa [hbnd] using h3
            right
            rw [getD_l (by omega) false true, hl e.on (by omega)]
            simp; omega
        have hm2 := befs_spec L hL l [] (by simp) (by simp) i m (.inl rfl) hbit
        rcases hm2 with h5 | h5
        · omega
        · have hkm := hl m hmlt
          rw [getD_l (by omega) true false, h5] at hkm
          simp at hkm
      · omega
    subst him
    unfold wpOp
    simp only [List.getElem?_toArray, hom]
    rw [hdrop] at h
    unfold wpList at h
    have hnext : ∀ a w, wpList P l.toArray (lift n Q) (l.drop (i + 1)) a w → wpAny P .any l.toArray (lift n Q) c (listed.setIfInBounds i true) a w := fun a w h' =>
      ih (i + 1) _ a w (by omega) (by omega) (by simpa using hs) (fun k hk => by
        rw [Array.getD_eq_getD_getElem?, Array.getElem?_setIfInBounds]
        split
        · rename_i e; subst e; rw [if_pos (by omega)]; simp
        · rename_i e
          have := hl k hk
          rw [Array.getD_eq_getD_getElem?] at this
          rw [this]
          congr 1
          simp; omega) h'
    split
    · rename_i hw
      rw [if_pos hw] at h
      exact h.imp (Oper.wp_mono hnext) id
    · rename_i hw
      rw [if_neg hw] at h
      exact hnext _ _ h

theorem count_set_true {listed : Array Bool} {i : Nat} (h : listed.getD i true = false) : (listed.setIfInBounds i true).toList.count false + 1 = listed.toList.count false := by
  have hi : i < listed.toList.length := by
    rcases Nat.lt_or_ge i listed.size with h' | h'
    · simpa using h'
    · rw [Array.getD_eq_getD_getElem?, Array.getElem?_eq_none h'] at h; cases h
  have hli : listed.toList[i] = false := by
    rw [getD_listed (by simpa using hi)] at h
    simpa using h
  have hpos : 0 < listed.toList.count false := List.count_pos_iff.2 (by rw [← hli]; exact List.getElem_mem hi)
  rw [Array.toList_setIfInBounds, List.count_set hi, hli]
  have : (true == false) = false := rfl
  simp only [beq_self_eq_true, if_true, this, Bool.false_eq_true, if_false]
  omega

/-- What has been yielded so far, each with its own blocks. -/
def Told (l : List Oper) (p : Nat) (phis : List Phi) (w : World) (listed : Nat → Prop) (f' : Fr) (w' : World) : Prop :=
  ∃ Ss : Nat → Nat → Prop, (∀ j, NewS w w' (Ss j)) ∧ (∀ i j b, Ss i b → Ss j b → i = j) ∧ ∀ (j : Nat) d φj, j < p → listed j → dstOf l j = some d → phis[j]? = some φj → φj f' (f' d) (Ss j) w'

/-- A region that draws: what its first p operations yield, in whatever order, the floating ones as soon as they may come; the rest in order. -/
theorem drawX_any {f : Fr} {w : World} (p : Nat) (fl : List Nat) (phis : List Phi) (hok : parOkE l p fl = true)
    (hn : (l.take p).all (fun o => match o.dst with | some d => Nat.blt d n | none => false) = true)
    (hst : OkX l 0 (l.take p) phis) (hops : ParX P l p fl f w phis 0 (l.take p) phis)
    (hend : ∀ f' w', Ext w w' → (∀ t, isDst l p t = false → f' t = f t) → Told l p phis w (fun _ => True) f' w' → WL P n l.toArray Q (l.drop p) f' w') (hQ : ∀ e f w, Q e f w → e = .normal) :
    ∀ a, Agree n a f → wpAny P .any l.toArray (lift n Q) l.toArray.size (Array.replicate l.toArray.size false) a { w with drawn := w.drawn + 1 } := fun a ha => by
  simp only [parOkE, Bool.and_eq_true, decide_eq_true_eq] at hok
  obtain ⟨⟨⟨⟨⟨⟨hS, hE⟩, hG⟩, hT⟩, hp⟩, hFl⟩, hSel⟩ := hok
  obtain ⟨hlen, hget⟩ := parX_get 0 _ _ hops
  have hokg : ∀ (i : Nat) (o : Oper) (φ : Phi), (l.take p)[i]? = some o → phis[i]? = some φ → PhiOk l i φ := fun i o φ h1 h2 => by have := okX_get 0 _ _ hst i o φ h1 h2; rwa [Nat.zero_add] at this
  have hlp : phis.length = p := by rw [← hlen]; simp; omega
  have key : ∀ (fuel : Nat) (listed : Array Bool) (a : Act) (f' : Fr) (w' : World), listed.size = l.length → listed.toList.count false ≤ fuel → (∀ i, p ≤ i → i < l.length → listed.getD i true = false) →
      Closed l (fun k => listed.getD k false = true) → Agree n a f' → Ext w w' →
      (∀ t, isDst l p t = false → f' t = f t) → Told l p phis w (fun j => listed.getD j false = true) f' w' →
      wpAny P .any l.toArray (lift n Q) fuel listed a w' := by
    intro fuel
    induction fuel with
    | zero =>
      intro listed a f' w' hs hc htl hcl ha he hout hphi
      have hall : ∀ i, (hi : i < listed.size) → listed[i] = true := by
        intro i hi
        cases hx : listed[i] with
        | true => rfl
        | false =>
          exfalso
          have : false ∈ listed.toList := by rw [← hx]; simp
          have := List.count_pos_iff.2 this
          omega
      have hpl : p = l.length := by
        rcases Nat.lt_or_ge p l.length with h | h
        · have := htl p (Nat.le_refl _) h; rw [getD_listed (by omega), hall p (by omega)] at this; cases this
        · omega
      obtain ⟨Ss, hS1, hS2, hS3⟩ := hphi
      have hEnd := hend f' w' he hout ⟨Ss, hS1, hS2, fun j d φj hj _ hd hφ => hS3 j d φj hj (by show listed.getD j false = true; rw [getD_listed (by omega), hall j (by omega)]) hd hφ⟩ a ha
      exact tailE_any hE hT 0 p listed a w' (Nat.le_refl _) (by omega) hs (fun i hi => by rw [getD_listed (by omega), hall i (by omega)]; simp; omega) hEnd
    | succ fuel ih =>
      intro listed a f' w' hs hc htl hcl ha he hout hphi
      -- one more operation has been listed
      have step : ∀ (i : Nat) (o : Oper) (φ : Phi) (v : Value) (w'' : World) (S : Nat → Prop), l[i]? = some o → i < p → phis[i]? = some φ → listed.getD i true = false → (∀ e ∈ o.after.toList, Region.binds .any e = true → listed.getD e.on false = true) →
          Ext w' w'' → NewS w' w'' S → φ f' v S w'' → wpAny P .any l.toArray (lift n Q) fuel (listed.setIfInBounds i true) (a.put o.dst v) w'' := by
        intro i o φ v w'' S ho hip hφ h2 hd he' hSn hv
        have h1 : i < l.length := (List.getElem?_eq_some_iff.1 ho).1
        have hL : Closed l (fun k => k = i ∨ listed.getD k false = true) := by
          intro k o' ho' hk e he' hbnd
          rcases hk with rfl | hk
          · rw [ho] at ho'; cases ho'; exact .inr (hd e he' hbnd)
          · exact .inr (hcl k o' ho' hk e he' hbnd)
        have hSi := List.all_eq_true.1 hS i (by simpa using hip)
        simp only [ho, Bool.and_eq_true] at hSi
        obtain ⟨hsome, hSj⟩ := hSi
        obtain ⟨d, hdst⟩ := Option.isSome_iff_exists.1 hsome
        have hdo : dstOf l i = some d := by simp [dstOf, ho, hdst]
        have hdn : Nat.blt d n = true := by
          have := List.all_eq_true.1 hn o (by rw [List.mem_take_iff_getElem]; exact ⟨i, by omega, by rw [List.getElem?_eq_getElem h1] at ho; cases ho; rfl⟩)
          simpa [hdst] using this
        have hisd : isDst l p d = true := by
          unfold isDst
          rw [List.any_eq_true]
          refine ⟨o, by rw [List.mem_take_iff_getElem]; exact ⟨i, by omega, by rw [List.getElem?_eq_getElem h1] at ho; cases ho; rfl⟩, ?_⟩
          simp [hdst, Nat.beq_refl]
        have hdd : ∀ j dj, j < p → dstOf l j = some dj → j ≠ i → dj ≠ d := by
          intro j dj hj hdj hji
          have h5 := List.all_eq_true.1 hSj j (by simpa using hj)
          simp only [hdj, Bool.and_eq_true] at h5
          have h6 := h5.2
          have hij : ¬ i = j := fun e => hji e.symm
          simp only [hij, if_false, hdst, bne_iff_ne, ne_eq, Option.some.injEq] at h6
          exact fun e => h6 e.symm
        have hcs := count_set_true h2
        rw [hdst]
        obtain ⟨Ss, hS1, hS2, hS3⟩ := hphi
        have hset : ∀ k b, (listed.setIfInBounds i true).getD k b = true → k = i ∨ listed.getD k b = true := by
          intro k b hk
          rw [Array.getD_eq_getD_getElem?, Array.getElem?_setIfInBounds] at hk
          split at hk
          · rename_i e; exact .inl e.symm
          · rw [← Array.getD_eq_getD_getElem?] at hk; exact .inr hk
        refine ih (listed.setIfInBounds i true) _ (upd f' d v) w'' (by simpa using hs) (by omega) ?_ ?_ (ha.put d v hdn) (he.trans he') ?_ ⟨fun j b => (j = i ∧ S b) ∨ (j ≠ i ∧ Ss j b), ?_, ?_, ?_⟩
        · intro k hk hkl
          rw [Array.getD_eq_getD_getElem?, Array.getElem?_setIfInBounds, if_neg (by omega), ← Array.getD_eq_getD_getElem?]
          exact htl k hk hkl
        · intro k o' ho' hk e he'' hbnd
          have := hL k o' ho' (hset k false hk) e he'' hbnd
          rw [Array.getD_eq_getD_getElem?, Array.getElem?_setIfInBounds]
          rcases this with h5 | h5
          · rw [if_pos h5.symm, if_pos (by omega)]; rfl
          · split
            · rw [if_pos (by omega)]; rfl
            · rw [← Array.getD_eq_getD_getElem?]; exact h5
        · intro t ht
          have : t ≠ d := fun e => by rw [e, hisd] at ht; cases ht
          rw [upd_ne f' v this]; exact hout t ht
        · rintro j b (⟨_, hb⟩ | ⟨_, hb⟩)
          · exact ⟨Nat.le_trans he.size (hSn b hb).1, (hSn b hb).2⟩
          · exact ⟨(hS1 j b hb).1, Nat.lt_of_lt_of_le (hS1 j b hb).2 he'.size⟩
        · rintro j k b (⟨h3, hb⟩ | ⟨h3, hb⟩) (⟨h4, hc'⟩ | ⟨h4, hc'⟩)
          · omega
          · have := (hSn b hb).1; have := (hS1 k b hc').2; omega
          · have := (hSn b hc').1; have := (hS1 j b hb).2; omega
          · exact hS2 j k b hb hc'
        · intro j dj φj hj hjl hdj hφj
          by_cases hji : j = i
          · subst hji
            rw [hdo] at hdj; cases hdj
            rw [hφ] at hφj; cases hφj
            rw [upd_same]
            have e : (fun b => (j = j ∧ S b) ∨ (j ≠ j ∧ Ss j b)) = S := by funext b; simp
            show φ (upd f' d v) v (fun b => (j = j ∧ S b) ∨ (j ≠ j ∧ Ss j b)) w''
            rw [e]
            refine (hokg j o φ (by rw [List.getElem?_take, if_pos hip]; exact ho) hφ).2 _ _ _ _ _ (fun k dk hk hdk => ?_) hv
            have hkd : dk ≠ d := by
              have hlt0 := befs_lt hE ho hk
              have hkl := (befs_spec _ hL l [] (by simp) (by simp) j k (.inl rfl) hk).resolve_left (by omega)
              exact hdd _ _ (by omega) hdk (by omega)
            rw [upd_ne f' v hkd]
          · have hne := hdd j dj hj hdj hji
            rw [upd_ne f' v hne]
            have e : (fun b => (j = i ∧ S b) ∨ (j ≠ i ∧ Ss j b)) = Ss j := by funext b; simp [hji]
            show φj (upd f' d v) (f' dj) (fun b => (j = i ∧ S b) ∨ (j ≠ i ∧ Ss j b)) w''
            rw [e]
            have hjl' := (hset j false hjl).resolve_left hji
            have hoj : ∃ oj, l[j]? = some oj := ⟨_, List.getElem?_eq_getElem (by omega)⟩
            obtain ⟨oj, hoj⟩ := hoj
            have hokj := hokg j oj φj (by rw [List.getElem?_take, if_pos hj]; exact hoj) hφj
            refine hokj.2 _ _ _ _ _ (fun k dk hk hdk => ?_) (hokj.1 _ _ _ _ _ he' (hS3 j dj φj hj hjl' hdj hφj))
            have hkd : dk ≠ d := by
              have hlt0 := befs_lt hE hoj hk
              have hkl : listed.getD k false = true := befs_spec (fun x => listed.getD x false = true) hcl l [] (by simp) (by simp) j k hjl' hk
              have hne : k ≠ i := fun e0 => by
                rw [e0, getD_l (by omega) false true, h2] at hkl; cases hkl
              exact hdd _ _ (by omega) hdk hne
            rw [upd_ne f' v hkd]
      -- what is asked of an operation, the facts laid out
      have ask : ∀ (i : Nat) (o : Oper) (φ : Phi), l[i]? = some o → i < p → phis[i]? = some φ → (∀ e ∈ o.after.toList, Region.binds .any e = true → listed.getD e.on false = true) → bif inF fl i then OpF P o f' w' φ else OpX P l o f' w' φ := by
        intro i o φ ho hip hφ hd
        have hob := hget i o φ (by rw [List.getElem?_take, if_pos hip]; exact ho) hφ
        rw [Nat.zero_add] at hob
        refine hob f' w' he hout fun j dj φj hdep hdj hφj => ?_
        have hlt0 := befs_lt hE ho hdep
        have hL : Closed l (fun k => k = i ∨ listed.getD k false = true) := by
          intro k o' ho' hk e he' hbnd
          rcases hk with rfl | hk
          · rw [ho] at ho'; cases ho'; exact .inr (hd e he' hbnd)
          · exact .inr (hcl k o' ho' hk e he' hbnd)
        have hjl := (befs_spec _ hL l [] (by simp) (by simp) i j (.inl rfl) hdep).resolve_left (by omega)
        obtain ⟨Ss, hS1, hS2, hS3⟩ := hphi
        exact ⟨_, hS1 _, hS3 _ dj φj (by omega) hjl hdj hφj⟩
      by_cases hpre : ∀ j, j < p → listed.getD j false = true
      · obtain ⟨Ss, hS1, hS2, hS3⟩ := hphi
        have hEnd := hend f' w' he hout ⟨Ss, hS1, hS2, fun j d φj hj _ hd hφ => hS3 j d φj hj (hpre j hj) hd hφ⟩ a ha
        have hcnt : l.length - p ≤ fuel + 1 := by
          have h1 : (listed.toList.drop p).count false = l.length - p := by
            have h2 : ∀ b ∈ listed.toList.drop p, false = b := by
              intro b hb
              obtain ⟨i, hi, hbi⟩ := List.getElem_of_mem hb
              simp at hi hbi
              have := htl (p + i) (by omega) (by omega)
              rw [getD_listed (by omega)] at this
              rw [← hbi, this]
            rw [List.count_eq_length.2 h2]
            simp [hs]
          have h4 : listed.toList.count false = (listed.toList.take p).count false + (listed.toList.drop p).count false := by
            rw [← List.count_append, List.take_append_drop]
          omega
        have htail := tailE_any hE hT (l.length - p) p listed a w' (Nat.le_refl _) (by omega) hs (fun i hi => by
          rcases Nat.lt_or_ge i p with h | h
          · have := hpre i h
            rw [getD_l (by omega) true false]
            rw [this]; simp [h]
          · rw [htl i h hi]; simp; omega) hEnd
        exact wpAny_more _ _ hcnt htail
      · by_cases hfloat : ∃ i o, inF fl i = true ∧ l[i]? = some o ∧ listed.getD i true = false ∧ ∀ e ∈ o.after.toList, Region.binds .any e = true → listed.getD e.on false = true
        · -- a floating operation may come: it is taken
          obtain ⟨i, oi, hiF, hoi, hun, hdi⟩ := hfloat
          have hmem : i ∈ fl := by
            unfold inF at hiF
            rw [List.any_eq_true] at hiF
            obtain ⟨x, hx, hxi⟩ := hiF
            have := Nat.eq_of_beq_eq_true hxi
            exact this ▸ hx
          have hfo := List.all_eq_true.1 hFl i hmem
          simp only [hoi, Bool.and_eq_true, decide_eq_true_eq] at hfo
          obtain ⟨hip, hfa⟩ := hfo
          obtain ⟨φ, hφ⟩ : ∃ φ, phis[i]? = some φ := ⟨_, List.getElem?_eq_getElem (by omega)⟩
          have hF := ask i oi φ hoi hip hφ hdi
          rw [hiF] at hF
          obtain ⟨hgd, v, hv, hφv⟩ := hF
          have hnext := step i oi φ v w' noB hoi hip hφ hun hdi (Ext.refl _) (noS _ _) hφv
          refine wpAny_first (i := i) (oi := oi) (v := v) (by simpa using hoi) (Region.noSelect_spec hSel) ?_ fuel listed a w' ?_ (ready_of hoi hun hdi) (.inl ⟨by simp [Region.wanted, hgd], fun w2 => ?_⟩) hnext
          · rintro c a w ⟨f1, _, hq⟩
            exact absurd (hQ _ _ _ hq) (by simp)
          · intro j oj hj hji hjun hno
            have hjl : l[j]? = some oj := by simpa using hj
            have h5 := List.all_eq_true.1 hfa j (by simpa using (List.getElem?_eq_some_iff.1 hjl).1)
            simp only [hjl, Bool.or_eq_true] at h5
            rcases h5 with (h5 | h5) | h5 | h5
            · exact absurd (Nat.eq_of_beq_eq_true h5) hji
            · exfalso
              obtain ⟨e, he1, he2, rfl⟩ := depB_spec.1 h5
              have h6 := hdi e he1 he2
              rw [getD_l (by have := (List.getElem?_eq_some_iff.1 hjl).1; omega) false true, hjun] at h6; cases h6
            · exfalso
              obtain ⟨e, he1, he2, he3⟩ := depB_spec.1 h5
              exact hno e (by simpa using he1) he2 he3
            · exact h5
          · have := hv w2 oi.dst oi.pos oi.after oi.guard
            rw [ha.eval]
            exact this
        · -- some operation of the first part is still to come
          have hex : ∃ j, j < p ∧ listed.getD j false = false := by
            rcases Classical.em (∃ j, j < p ∧ listed.getD j false = false) with h | h
            · exact h
            · exfalso
              exact hpre fun j hj => by
                cases hx : listed.getD j false with
                | true => rfl
                | false => exact absurd ⟨j, hj, hx⟩ h
          obtain ⟨j0, ⟨hj0, hj0f⟩, hmin⟩ := exists_least hex
          have hready0 : j0 ∈ Region.ready .any l.toArray listed := by
            have hlt : j0 < l.length := by omega
            refine ready_of (List.getElem?_eq_getElem hlt) ?_ fun e he' hb => ?_
            · rw [getD_l (by omega) true false]; exact hj0f
            · have hz := List.all_eq_true.1 hE (l[j0], j0) (by rw [List.mem_zipIdx_iff_getElem?]; simp)
              have h3 := List.all_eq_true.1 hz e he'
              have hlt' : e.on < j0 := by simpa [hb] using h3
              cases hx : listed.getD e.on false with
              | true => rfl
              | false => have := hmin e.on ⟨by omega, hx⟩; omega
          refine ⟨fun h0 => (by rw [h0] at hready0; cases hready0), fun i hi => ?_⟩
          obtain ⟨h1, h2, o, ho, hd⟩ := mem_ready' hi
          have hip : i < p := by
            rcases Nat.lt_or_ge i p with h | h
            · exact h
            · exfalso
              have hb := List.all_eq_true.1 hT i (by simpa using h1)
              have hip' : ¬ i < p := by omega
              simp only [hip', decide_false, Bool.false_or] at hb
              have hb2 := List.all_eq_true.1 hb j0 (by simp; omega)
              rw [Bool.and_eq_true] at hb2
              let L : Nat → Prop := fun k => k = i ∨ listed.getD k false = true
              have hL : Closed l L := by
                intro k o' ho' hk e he' hbnd
                rcases hk with rfl | hk
                · rw [ho] at ho'; cases ho'; exact .inr (hd e he' hbnd)
                · exact .inr (hcl k o' ho' hk e he' hbnd)
              have hall := eager_spec (fl := fl) (b := befs l []) L (fun j hjF hj => by
                -- a floating one all of whose own are listed is listed
                rcases Classical.em (L j) with h | h
                · exact h
                · exfalso
                  have hmem : j ∈ fl := by
                    unfold inF at hjF
                    rw [List.any_eq_true] at hjF
                    obtain ⟨x, hx, hxi⟩ := hjF
                    have := Nat.eq_of_beq_eq_true hxi
                    exact this ▸ hx
                  have hfo := List.all_eq_true.1 hFl j hmem
                  rw [Bool.and_eq_true] at hfo
                  cases hoj : l[j]? with
                  | none => rw [hoj] at hfo; simp at hfo
                  | some oj =>
                    have hjl : j < l.length := (List.getElem?_eq_some_iff.1 hoj).1
                    have hjun : listed.getD j true = false := by
                      cases hx : listed.getD j false with
                      | true => exact absurd (.inr hx) h
                      | false => rw [getD_l (by omega) true false]; exact hx
                    refine hfloat ⟨j, oj, hjF, hoj, hjun, fun e he1 he2 => ?_⟩
                    have hz := List.all_eq_true.1 hE (oj, j) (by rw [List.mem_zipIdx_iff_getElem?]; simpa using hoj)
                    have h3 := List.all_eq_true.1 hz e he1
                    have hlt' : e.on < j := by simpa [he2] using h3
                    have hbit : ((befs l []).getD j 0).testBit e.on = true := befs_has hoj he1 he2
                    have hjp : j < p := by simpa using hfo.1
                    rcases hj e.on hbit with h6 | h6
                    · omega
                    · exact h6) (List.range i) _ (fun k hk => befs_spec L hL l [] (by simp) (by simp) i k (.inl rfl) hk) j0 hb2.1
              rcases hall with h5 | h5
              · omega
              · rw [hj0f] at h5; cases h5
          obtain ⟨φ, hφ⟩ : ∃ φ, phis[i]? = some φ := ⟨_, List.getElem?_eq_getElem (by omega)⟩
          have hY := ask i o φ ho hip hφ hd
          have hiF : inF fl i = false := by
            cases hx : inF fl i with
            | false => rfl
            | true => exact absurd ⟨i, o, hx, ho, h2, hd⟩ hfloat
          rw [hiF] at hY
          unfold wpOp
          simp only [List.getElem?_toArray, ho, wanted_iff ha]
          rcases hY with ⟨hw, hv | hc'⟩ | ⟨hw, hv⟩
          · obtain ⟨v, w'', h3, h4, S, h5, h6⟩ := hv
            rw [if_pos hw]
            left
            show Oper.upon P o a _ _ ((execOp a.eval o).run P w')
            have h7 := h3 o.dst o.pos o.after o.guard
            rw [ha.eval]
            rw [h7]
            exact step i o φ v w'' S ho hip hφ h2 hd h4 h5 h6
          · obtain ⟨g, args, h3, h4⟩ := hc'
            rw [if_pos hw]
            left
            show Oper.upon P o a _ _ ((execOp a.eval o).run P w')
            have h6 := h3 o.dst o.pos o.after o.guard
            rw [ha.eval]
            rw [h6]
            refine Calls.mono h4 fun e w'' hh => ?_
            obtain ⟨v, rfl, h7, S, h8, h9⟩ := hh
            exact step i o φ v w'' S ho hip hφ h2 hd h7 h8 h9
          · rw [if_neg (by rw [hw]; simp)]
            exact step i o φ undef w' noB ho hip hφ h2 hd (Ext.refl _) (noS _ _) hv
  refine key _ _ a f { w with drawn := w.drawn + 1 } (by simp) ?_ ?_ ?_ ha ⟨rfl, rfl, rfl, Nat.le_refl _, fun _ _ => rfl⟩ (fun _ _ => rfl) ⟨fun _ _ => False, fun _ _ h => h.elim, fun _ _ _ h => h.elim, ?_⟩
  · have := List.count_le_length (a := false) (l := (Array.replicate l.toArray.size false).toList)
    simpa using this
  · intro i _ hi
    rw [getD_listed (by simpa using hi)]; simp
  · intro k o _ hk
    exfalso
    rw [Array.getD_eq_getD_getElem?, Array.getElem?_replicate] at hk
    split at hk <;> simp at hk
  · intro j d φj hj hk
    exfalso
    rw [Array.getD_eq_getD_getElem?, Array.getElem?_replicate] at hk
    split at hk <;> simp at hk

theorem W.drawX {id : Nat} {f : Fr} {w : World} (hm : P.follows .mixedOrders = true) (p : Nat) (fl : List Nat) (phis : List Phi) (hok : parOkE l p fl = true)
    (hn : (l.take p).all (fun o => match o.dst with | some d => Nat.blt d n | none => false) = true)
    (hst : OkX l 0 (l.take p) phis) (hops : ParX P l p fl f w phis 0 (l.take p) phis)
    (hend : ∀ f' w', Ext w w' → (∀ t, isDst l p t = false → f' t = f t) → Told l p phis w (fun _ => True) f' w' → WL P n l.toArray Q (l.drop p) f' w') (hQ : ∀ e f w, Q e f w → e = .normal) :
    W P n (.region id l.toArray true) Q f w :=
  fun a ha => wp_region_any hm (drawX_any p fl phis hok hn hst hops hend hQ a ha)

/-- Only a normal end. -/
def nrm (K : Fr → World → Prop) : Post
  | .normal, f, w => K f w
  | _, _, _ => False
theorem nrm_normal {K : Fr → World → Prop} : ∀ e f w, nrm K e f w → e = .normal := fun e f w h => by cases e <;> first | rfl | exact h.elim
theorem W.ofNrm {c : Code} {f : Fr} {w : World} (h : W P n c (nrm (Q .normal)) f w) : W P n c Q f w := h.mono fun e f w h => by cases e <;> first | exact h | exact h.elim
theorem W.drawR {id : Nat} {f : Fr} {w : World} (hm : P.follows .mixedOrders = true) (p : Nat) (fl : List Nat) (phis : List Phi) (hok : parOkE l p fl = true)
    (hn : (l.take p).all (fun o => match o.dst with | some d => Nat.blt d n | none => false) = true)
    (hst : OkX l 0 (l.take p) phis) (hops : ParX P l p fl f w phis 0 (l.take p) phis)
    (hend : ∀ (f' : Fr) (w' : World) (Ss : Nat → Nat → Prop), Ext w w' → (∀ t, isDst l p t = false → f' t = f t) → (∀ j, NewS w w' (Ss j)) → (∀ i j b, Ss i b → Ss j b → i = j) →
      (∀ (j : Nat) d φj, j < p → dstOf l j = some d → phis[j]? = some φj → φj f' (f' d) (Ss j) w') → WL P n l.toArray (nrm (Q .normal)) (l.drop p) f' w') :
    W P n (.region id l.toArray true) Q f w :=
  W.ofNrm (W.drawX hm p fl phis hok hn hst hops (fun f' w' he hout ⟨Ss, h1, h2, h3⟩ => hend f' w' Ss he hout h1 h2 (fun j d φj hj hd hφ => h3 j d φj hj trivial hd hφ)) nrm_normal)
end

/-! ### Entries whose blocks are told -/

def SepS (S : Nat → Prop) (w : World) (As : List Ent) : Prop :=
  (∀ b, S b → b < w.heap.size) ∧ ∃ Ss : Nat → Nat → Prop, (∀ i b, Ss i b → S b) ∧ (∀ i j b, Ss i b → Ss j b → i = j) ∧ ∀ i A, As[i]? = some A → A (Ss i) w ∧ Local A
section
variable {S S' : Nat → Prop} {w w' w0 : World} {As Bs : List Ent} {B : Nat}
theorem Sep.new (h : Sep w.heap.size w' As) : SepS (newB w w') w' As := ⟨fun _ hb => hb.2, h⟩
theorem SepS.extend (he : Ext w w') (h : SepS S w As) : SepS S w' As := by
  obtain ⟨hS, Ss, h1, h2, h3⟩ := h
  refine ⟨fun b hb => Nat.lt_of_lt_of_le (hS b hb) (Go.RowKit.Below.size he), Ss, h1, h2, fun i A hA => ?_⟩
  obtain ⟨h4, h5⟩ := h3 i A hA
  exact ⟨h5.1 _ w w' (fun b hb => he.block b (hS b (h1 i b hb))) h4, h5⟩
theorem SepS.rep {α : Type} {t : Ty α} {v : Value} {x : α} (h : SepS S w As) (k : Nat) (hk : As[k]? = some (t.at v x)) : t.rep w v x := by
  obtain ⟨_, Ss, _, _, h3⟩ := h
  exact t.toRep (h3 k _ hk).1
theorem SepS.nilS {Ss : Nat → Nat → Prop} : SepS (fun b => ∃ j, j ∈ ([] : List Nat) ∧ Ss j b) w [] := ⟨fun b ⟨j, hj, _⟩ => (by cases hj), fun _ _ => False, fun _ _ h => h.elim, fun _ _ _ h => h.elim, fun i A h => by simp at h⟩
theorem SepS.consS {Ss : Nat → Nat → Prop} (hd : ∀ i j b, Ss i b → Ss j b → i = j) {j0 : Nat} {js : List Nat} (hn : js.any (Nat.beq j0) = false) (h1 : SepS (Ss j0) w As) (h2 : SepS (fun b => ∃ j, j ∈ js ∧ Ss j b) w Bs) :
    SepS (fun b => ∃ j, j ∈ j0 :: js ∧ Ss j b) w (As ++ Bs) := by
  obtain ⟨hB1, T1, g1, g2, g3⟩ := h1
  obtain ⟨hB2, T2, k1, k2, k3⟩ := h2
  have hdis : ∀ i i' b, T1 i b → T2 i' b → False := by
    intro i i' b hb hc
    obtain ⟨j, hj, hb2⟩ := k1 i' b hc
    have := hd _ _ b (g1 i b hb) hb2
    subst this
    have h5 := List.any_eq_false.1 hn _ hj
    exact h5 (Nat.beq_refl _)
  refine ⟨fun b ⟨j, hj, hb⟩ => ?_, fun i b => (i < As.length ∧ T1 i b) ∨ (As.length ≤ i ∧ T2 (i - As.length) b), ?_, ?_, ?_⟩
  · rcases List.mem_cons.1 hj with rfl | hj
    · exact hB1 b hb
    · exact hB2 b ⟨j, hj, hb⟩
  · rintro i b (⟨_, hb⟩ | ⟨_, hb⟩)
    · exact ⟨j0, List.mem_cons_self, g1 i b hb⟩
    · obtain ⟨j, hj, hb⟩ := k1 _ b hb; exact ⟨j, List.mem_cons_of_mem _ hj, hb⟩
  · rintro i j b (⟨ha, hb⟩ | ⟨ha, hb⟩) (⟨hc, hd'⟩ | ⟨hc, hd'⟩)
    · exact g2 i j b hb hd'
    · exact (hdis _ _ b hb hd').elim
    · exact (hdis _ _ b hd' hb).elim
    · have := k2 _ _ b hb hd'; omega
  · intro i A hA
    rw [List.getElem?_append] at hA
    split at hA
    · rename_i hi
      obtain ⟨h4, h5⟩ := g3 i A hA
      exact ⟨h5.2 _ _ w (fun b hb => .inl ⟨hi, hb⟩) h4, h5⟩
    · rename_i hi
      obtain ⟨h4, h5⟩ := k3 _ A hA
      exact ⟨h5.2 _ _ w (fun b hb => .inr ⟨by omega, hb⟩) h4, h5⟩
theorem SepS.toSep (h : SepS S w' As) (hS : NewS w w' S) : Sep w.heap.size w' As := by
  obtain ⟨_, Ss, h1, h2, h3⟩ := h
  exact ⟨Ss, fun i b hb => hS b (h1 i b hb), h2, h3⟩
theorem newS_all {Ss : Nat → Nat → Prop} (h : ∀ j, NewS w w' (Ss j)) (js : List Nat) : NewS w w' (fun b => ∃ j, j ∈ js ∧ Ss j b) := fun b ⟨j, _, hb⟩ => h j b hb
theorem St.joinS {Ss : Nat → Nat → Prop} {js : List Nat} (h : St w0 w As) (he : Ext w w') (hS : ∀ j, NewS w w' (Ss j)) (hb : SepS (fun b => ∃ j, j ∈ js ∧ Ss j b) w' Bs) : St w0 w' (As ++ Bs) := h.join he (hb.toSep (newS_all hS js))
end
end Go.VG
